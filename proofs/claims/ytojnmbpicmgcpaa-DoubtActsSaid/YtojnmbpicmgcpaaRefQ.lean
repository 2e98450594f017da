/- The law's theirs; the document's Same: walked. -/
import Derived.Test.YtojnmbpicmgcpaaRefO
import Derived.Test.YtojnmbpicmgcpaaShown
namespace Go.Proofs.Ytojnmbpicmgcpaa
open Go.RowKit Sh
set_option linter.unusedVariables false

structure Rows7 (w : World) (v : Value) (L : List Db) : Prop where
  ex : ∃ A c, v = .slice A L.length c ∧ (0 < L.length → ∃ g, A = some ⟨g, 0, none⟩ ∧ DRow w g L)
structure RowsU (w : World) (v : Value) (L : List Db) : Prop where
  ex : ∃ A c, v = .slice A L.length c ∧ (0 < L.length → ∃ g, A = some ⟨g, 0, none⟩ ∧ URow w g L)
theorem Rows7.keep {w w' : World} {v : Value} {L : List Db} (h : Rows7 w v L) (k : Keep (fun _ => False) w w') : Rows7 w' v L := by
  obtain ⟨A, c, e, h2⟩ := h.ex
  exact ⟨A, c, e, fun h0 => by obtain ⟨g, h3, h4⟩ := h2 h0; exact ⟨g, h3, h4.keep k id⟩⟩
theorem Rows7.own {w : World} {base : Nat} {A : Option Addr} {c : Nat} {L : List Db} (h : w.ownsRow base 65 7 (.slice A L.length c) L.length (dbCells L)) : Rows7 w (.slice A L.length c) L :=
  ⟨A, c, rfl, fun h0 => by
    obtain ⟨g, rfl, _⟩ := own_at h h0
    exact ⟨g, rfl, fun i hi c hc => rd_cells h rfl i hi c hc⟩⟩
theorem RowsU.own {w : World} {base : Nat} {A : Option Addr} {c : Nat} {L : List Db} (h : w.ownsRow base 34 3 (.slice A L.length c) L.length (upCells L)) : RowsU w (.slice A L.length c) L :=
  ⟨A, c, rfl, fun h0 => by
    obtain ⟨g, rfl, _⟩ := own_at h h0
    exact ⟨g, rfl, own_urow h⟩⟩
theorem URow.keep {S : Nat → Prop} {w w' : World} {g : Nat} {L : List Db} (h : URow w g L) (k : Keep S w w') (hn : ¬ S g) : URow w' g L := fun i hi c hc => by
  have hs : ∃ v, (upC (db L i))[c]? = some v := ⟨_, List.getElem?_eq_getElem (by simp [upC]; omega)⟩
  obtain ⟨v, hv⟩ := hs
  have hc := (h i hi c hc).trans hv
  rw [hv]
  exact (World.cell?_of_block (k.block g (World.block_lt_of_cell? w _ hc) hn)).trans hc
theorem RowsU.keep {w w' : World} {v : Value} {L : List Db} (h : RowsU w v L) (k : Keep (fun _ => False) w w') : RowsU w' v L := by
  obtain ⟨A, c, e, h2⟩ := h.ex
  exact ⟨A, c, e, fun h0 => by obtain ⟨g, h3, h4⟩ := h2 h0; exact ⟨g, h3, h4.keep k id⟩⟩

theorem ne65 (w : World) (n i s f c t u : Int) : (binOp .neq 65 (.agg #[.int .i64 n, .int .u64 i, .int .i64 s, .int .u64 f, .int .u64 c, .int .u64 t, .int .u64 u]) (.agg #[.int .i64 n, .int .u64 i, .int .i64 s, .int .u64 f, .int .u64 c, .int .u64 t, .int .u64 u])).run Try.prog w = .ok (.bool false) w := by
  have h : (Op.equalIn (9998 + 2) 65 (.agg #[.int .i64 n, .int .u64 i, .int .i64 s, .int .u64 f, .int .u64 c, .int .u64 t, .int .u64 u]) (.agg #[.int .i64 n, .int .u64 i, .int .i64 s, .int .u64 f, .int .u64 c, .int .u64 t, .int .u64 u])).run Try.prog w = .ok (((n == n && (i == i && (s == s && true))) : Bool) && (f == f && (c == c && (t == t && (u == u && true))))) w := by
    refine eqAgg Try.underlying65 (by kernel_rfl) ?_
    refine eqField_cons (by rfl) (by go_simp; rfl) (by go_simp; rfl) (r := (n == n && (i == i && (s == s && true)))) ?_ ?_
    · refine eqAgg Try.underlying34 (by kernel_rfl) ?_
      refine eqField_cons (by rfl) (by go_simp; rfl) (by go_simp; rfl) (by go_simp) ?_
      refine eqField_cons (by rfl) (by go_simp; rfl) (by go_simp; rfl) (by go_simp) ?_
      refine eqField_cons (by rfl) (by go_simp; rfl) (by go_simp; rfl) (by go_simp) ?_
      exact eqField_nil
    refine eqField_cons (by rfl) (by go_simp; rfl) (by go_simp; rfl) (by go_simp) ?_
    refine eqField_cons (by rfl) (by go_simp; rfl) (by go_simp; rfl) (by go_simp) ?_
    refine eqField_cons (by rfl) (by go_simp; rfl) (by go_simp; rfl) (by go_simp) ?_
    refine eqField_cons (by rfl) (by go_simp; rfl) (by go_simp; rfl) (by go_simp) ?_
    exact eqField_nil
  rw [show (((n == n && (i == i && (s == s && true))) : Bool) && (f == f && (c == c && (t == t && (u == u && true))))) = true by simp] at h
  simp only [binOp, Op.equal, Op.maxDepth, Sem.run_bind, h, Result.andThen_ok]
  rfl

set_option maxRecDepth 100000 in
set_option maxHeartbeats 1000000 in
theorem rsame_any {w : World} {va vb : Value} {L : List Db} (ha : Rows7 w va L) (hb : Rows7 w vb L) (hl : L.length ≤ 1000) :
    Calls Try.prog 16 #[va, vb] w fun e w' => e = .returned (.bool true) ∧ Keep (fun _ => False) w w' := by
  obtain ⟨Aa, ca, rfl, ha2⟩ := ha.ex
  obtain ⟨Ab, cb, rfl, hb2⟩ := hb.ex
  have HA := Lib.hid ha2
  have HB := Lib.hid hb2
  have LL := Lib.hid hl
  have e0 : ((L.length : Int) != (L.length : Int)) = false := by simp
  clear ha hb ha2 hb2 hl
  go_enter Try.func16, Try.ntmps16
  go_wp2_with fail
  go_loopg [5] L.length (fun z v5 wr => ∃ i : Nat, i + z = L.length ∧ v5 = .int .i64 i ∧ Keep (fun _ => False) w wr)
  case atStart => exact ⟨0, by omega, rfl, Keep.refl _ _⟩
  case round =>
    obtain ⟨i, hz, rfl, hk⟩ := hrel
    have K := Lib.hid hk
    have HZ := Lib.hid hz
    clear hk
    by_cases hlt : i < L.length
    · have t1 : decide ((i : Int) < (L.length : Int)) = true := decide_eq_true (by omega)
      have t2 : (i : Int) < (L.length : Int) := by omega
      have t3 : (0 : Int) ≤ (i : Int) := by omega
      have ew : IntKind.i64.wrap ((i : Int) + 1) = ((i + 1 : Nat) : Int) := by have := LL.out; rw [IntKind.wrap_i64]; omega
      obtain ⟨ga, rfl, hga⟩ := HA.out (by omega)
      obtain ⟨gb, rfl, hgb⟩ := HB.out (by omega)
      have ra := (hga.keep K.out.drew id) i hlt
      have rb := (hgb.keep K.out.drew id) i hlt
      obtain ⟨x, hx⟩ : ∃ x, x = db L i := ⟨_, rfl⟩
      rw [← hx] at ra rb
      obtain ⟨xn, xi, xs, xf, xc, xt, xu⟩ := x
      have a0 : wr.drew.cell? ⟨ga, i * 7, none⟩ = some (.int .i64 xn) := ra 0 (by omega)
      have a1 : wr.drew.cell? ⟨ga, i * 7 + 1, none⟩ = some (.int .u64 xi) := ra 1 (by omega)
      have a2 : wr.drew.cell? ⟨ga, i * 7 + 2, none⟩ = some (.int .i64 xs) := ra 2 (by omega)
      have a3 : wr.drew.cell? ⟨ga, i * 7 + 3, none⟩ = some (.int .u64 xf) := ra 3 (by omega)
      have a4 : wr.drew.cell? ⟨ga, i * 7 + 4, none⟩ = some (.int .u64 xc) := ra 4 (by omega)
      have a5 : wr.drew.cell? ⟨ga, i * 7 + 5, none⟩ = some (.int .u64 xt) := ra 5 (by omega)
      have a6 : wr.drew.cell? ⟨ga, i * 7 + 6, none⟩ = some (.int .u64 xu) := ra 6 (by omega)
      have b0 : wr.drew.cell? ⟨gb, i * 7, none⟩ = some (.int .i64 xn) := rb 0 (by omega)
      have b1 : wr.drew.cell? ⟨gb, i * 7 + 1, none⟩ = some (.int .u64 xi) := rb 1 (by omega)
      have b2 : wr.drew.cell? ⟨gb, i * 7 + 2, none⟩ = some (.int .i64 xs) := rb 2 (by omega)
      have b3 : wr.drew.cell? ⟨gb, i * 7 + 3, none⟩ = some (.int .u64 xf) := rb 3 (by omega)
      have b4 : wr.drew.cell? ⟨gb, i * 7 + 4, none⟩ = some (.int .u64 xc) := rb 4 (by omega)
      have b5 : wr.drew.cell? ⟨gb, i * 7 + 5, none⟩ = some (.int .u64 xt) := rb 5 (by omega)
      have b6 : wr.drew.cell? ⟨gb, i * 7 + 6, none⟩ = some (.int .u64 xu) := rb 6 (by omega)
      have hne := fun W => ne65 W xn xi xs xf xc xt xu
      have HL := Lib.hid hlt
      clear ra rb hx hga hgb hz hlt
      go_upto_region 6 with fail
      refine still_lit (by kernel_rfl) (by kernel_rfl) ?_
      repeat still_step
      try refine wpStill_nil ?_
      go_wp2_with fail
      go_roundg (L.length - (i + 1))
      case measure => have := HZ.out; have := HL.out; omega
      case rel => exact ⟨i + 1, by have := HL.out; omega, by go_num, K.out.drew⟩
    · obtain rfl : L.length = i := by omega
      have t1 : decide ((L.length : Int) < (L.length : Int)) = false := by simp
      clear hlt hz
      go_wp2
      go_ret
      exact ⟨rfl, K.out⟩
set_option maxRecDepth 100000 in
set_option maxHeartbeats 1000000 in
theorem usame_any {w : World} {va vb : Value} {L : List Db} (ha : RowsU w va L) (hb : RowsU w vb L) (hl : L.length ≤ 1000) :
    Calls Try.prog 13 #[va, vb] w fun e w' => e = .returned (.bool true) ∧ Keep (fun _ => False) w w' := by
  obtain ⟨Aa, ca, rfl, ha2⟩ := ha.ex
  obtain ⟨Ab, cb, rfl, hb2⟩ := hb.ex
  have HA := Lib.hid ha2
  have HB := Lib.hid hb2
  have LL := Lib.hid hl
  have e0 : ((L.length : Int) != (L.length : Int)) = false := by simp
  clear ha hb ha2 hb2 hl
  go_enter Try.func13, Try.ntmps13
  go_wp2_with fail
  go_loopg [5] L.length (fun z v5 wr => ∃ i : Nat, i + z = L.length ∧ v5 = .int .i64 i ∧ Keep (fun _ => False) w wr)
  case atStart => exact ⟨0, by omega, rfl, Keep.refl _ _⟩
  case round =>
    obtain ⟨i, hz, rfl, hk⟩ := hrel
    have K := Lib.hid hk
    have HZ := Lib.hid hz
    clear hk
    by_cases hlt : i < L.length
    · have t1 : decide ((i : Int) < (L.length : Int)) = true := decide_eq_true (by omega)
      have t2 : (i : Int) < (L.length : Int) := by omega
      have t3 : (0 : Int) ≤ (i : Int) := by omega
      have ew : IntKind.i64.wrap ((i : Int) + 1) = ((i + 1 : Nat) : Int) := by have := LL.out; rw [IntKind.wrap_i64]; omega
      obtain ⟨ga, rfl, hga⟩ := HA.out (by omega)
      obtain ⟨gb, rfl, hgb⟩ := HB.out (by omega)
      have ra := (hga.keep K.out.drew id) i hlt
      have rb := (hgb.keep K.out.drew id) i hlt
      obtain ⟨x, hx⟩ : ∃ x, x = db L i := ⟨_, rfl⟩
      rw [← hx] at ra rb
      obtain ⟨xn, xi, xs, xf, xc, xt, xu⟩ := x
      have a0 : wr.drew.cell? ⟨ga, i * 3, none⟩ = some (.int .i64 xn) := ra 0 (by omega)
      have a1 : wr.drew.cell? ⟨ga, i * 3 + 1, none⟩ = some (.int .u64 xi) := ra 1 (by omega)
      have a2 : wr.drew.cell? ⟨ga, i * 3 + 2, none⟩ = some (.int .i64 3) := ra 2 (by omega)
      have b0 : wr.drew.cell? ⟨gb, i * 3, none⟩ = some (.int .i64 xn) := rb 0 (by omega)
      have b1 : wr.drew.cell? ⟨gb, i * 3 + 1, none⟩ = some (.int .u64 xi) := rb 1 (by omega)
      have b2 : wr.drew.cell? ⟨gb, i * 3 + 2, none⟩ = some (.int .i64 3) := rb 2 (by omega)
      have hne := fun W => ne34 W xn xi 3
      have HL := Lib.hid hlt
      clear ra rb hx hga hgb hz hlt
      go_upto_region 6 with fail
      refine still_lit (by kernel_rfl) (by kernel_rfl) ?_
      repeat still_step
      try refine wpStill_nil ?_
      go_wp2_with fail
      go_roundg (L.length - (i + 1))
      case measure => have := HZ.out; have := HL.out; omega
      case rel => exact ⟨i + 1, by have := HL.out; omega, by go_num, K.out.drew⟩
    · obtain rfl : L.length = i := by omega
      have t1 : decide ((L.length : Int) < (L.length : Int)) = false := by simp
      clear hlt hz
      go_wp2
      go_ret
      exact ⟨rfl, K.out⟩

set_option maxRecDepth 100000 in
set_option maxHeartbeats 4000000 in
theorem theirs_any {w : World} {v : Value} {L : List Db} (h : Rows7 w v L) (hl : L.length ≤ 1000) :
    Calls Try.prog 17 #[v] w fun e w' => ∃ u, e = .returned u ∧ Rows7 w' u L ∧ Keep (fun _ => False) w w' := by
  obtain ⟨j0, hj, hj2⟩ : ∃ i0, Try.prog.info? 65 = some i0 ∧ (i0.zero, i0.size, i0.bytes) = (some (.agg #[.int .i64 0, .int .u64 0, .int .i64 0, .int .u64 0, .int .u64 0, .int .u64 0, .int .u64 0]), 7, 56) := by
    have := info65
    rw [Option.map_eq_some_iff] at this
    exact this
  simp only [Prod.mk.injEq] at hj2
  obtain ⟨hy0, hy1, hy2⟩ := hj2
  have Hj := Lib.hid hj
  have Hy0 := Lib.hid hy0
  have Hy1 := Lib.hid hy1
  have Hy2 := Lib.hid hy2
  obtain ⟨A, c, rfl, h2⟩ := h.ex
  have HA := Lib.hid h2
  have LR := Lib.hid hl
  have E0 := Lib.hid (own_empty w 65 7 w.heap.size (Nat.le_refl _))
  have KA : Hid (Keep (fun _ => False) w (w.alloc (.cells #[] 65))) := Lib.hid ((Keep.refl _ w).alloc _)
  clear h h2 hj hy0 hy1 hy2 hl
  go_enter Try.func17, Try.ntmps17
  go_wp2_with fail
  go_loopg [3, 4] L.length (fun z v3 v4 wr => ∃ (i : Nat) (A2 : Option Addr) (c2 : Nat), i + z = L.length ∧ v4 = .int .i64 i ∧ v3 = .slice A2 i c2 ∧ wr.ownsRow w.heap.size 65 7 (.slice A2 i c2) i (dbCells (L.take i)) ∧ Keep (fun _ => False) w wr)
  case atStart => exact ⟨0, _, _, by omega, rfl, rfl, E0.out, KA.out⟩
  case round =>
    obtain ⟨i, A2, c2, hz, rfl, rfl, ho, hk⟩ := hrel
    have HO := Lib.hid ho
    have K := Lib.hid hk
    have HZ := Lib.hid hz
    clear ho hk
    by_cases hlt : i < L.length
    · have t1 : decide ((i : Int) < (L.length : Int)) = true := decide_eq_true (by omega)
      have t2 : (i : Int) < (L.length : Int) := by omega
      have t3 : (0 : Int) ≤ (i : Int) := by omega
      have ew : IntKind.i64.wrap ((i : Int) + 1) = ((i + 1 : Nat) : Int) := by have := LR.out; rw [IntKind.wrap_i64]; omega
      obtain ⟨g, rfl, hg⟩ := HA.out (by omega)
      have rc := (hg.keep K.out id) i hlt
      have htk : L.take (i + 1) = L.take i ++ [db L i] := by rw [List.take_succ_eq_append_getElem hlt, ← db_of hlt]
      obtain ⟨x, hx⟩ : ∃ x, x = db L i := ⟨_, rfl⟩
      rw [← hx] at rc htk
      have HTK := Lib.hid htk
      obtain ⟨xn, xi, xs, xf, xc, xt, xu⟩ := x
      have r0 : wr.cell? ⟨g, i * 7, none⟩ = some (.int .i64 xn) := rc 0 (by omega)
      have r1 : wr.cell? ⟨g, i * 7 + 1, none⟩ = some (.int .u64 xi) := rc 1 (by omega)
      have r2 : wr.cell? ⟨g, i * 7 + 2, none⟩ = some (.int .i64 xs) := rc 2 (by omega)
      have r3 : wr.cell? ⟨g, i * 7 + 3, none⟩ = some (.int .u64 xf) := rc 3 (by omega)
      have r4 : wr.cell? ⟨g, i * 7 + 4, none⟩ = some (.int .u64 xc) := rc 4 (by omega)
      have r5 : wr.cell? ⟨g, i * 7 + 5, none⟩ = some (.int .u64 xt) := rc 5 (by omega)
      have r6 : wr.cell? ⟨g, i * 7 + 6, none⟩ = some (.int .u64 xu) := rc 6 (by omega)
      have HL := Lib.hid hlt
      clear rc hx htk hg hz hlt
      go_wp2_with (at_builtin; refine wpList_append_own_at _ rfl _ _ 29 rfl w.heap.size 65 j0 (.agg #[.int .i64 0, .int .u64 0, .int .i64 0, .int .u64 0, .int .u64 0, .int .u64 0, .int .u64 0]) 7 56 Try.underlying29 Hj.out Hy0.out Hy1.out Hy2.out rfl (by decide) _ _ _ rfl (HO.out.alloc _) ⟨wr.heap.size, 0, none⟩ 1 1 (dbCells [⟨xn, xi, xs, xf, xc, xt, xu⟩]) rfl rfl ?c1 ?c2 ?c3 ?c4 ?c5 ?_)
      case c1 =>
        refine World.news_of_block (cs := (dbCells [⟨xn, xi, xs, xf, xc, xt, xu⟩]).toArray) (t := 65) (fr := (0, 0)) ?_
        have h := heap_alloc_new wr (.cells (dbCells [⟨xn, xi, xs, xf, xc, xt, xu⟩]).toArray 65)
        simpa [dbCells, dbC] using h
      case c2 => exact dbCells_one _
      case c3 => have := HL.out; have := LR.out; simp only [maxLen]; omega
      case c4 => have := HL.out; have := LR.out; omega
      case c5 => have := K.out.size; simp; omega
      intro v' w' hown hg2 _ _
      obtain ⟨A', c', rfl⟩ := own_shape hown
      have hK' : Keep (fun _ => False) w w' := (K.out.alloc _).grown hg2 (fun k hk hlt => by
        have := (own_block HO.out hk).1
        omega)
      have HO2 : Hid (w'.ownsRow w.heap.size 65 7 (.slice A' (i + 1) c') (i + 1) (dbCells (L.take (i + 1)))) := Lib.hid (by
        rw [HTK.out, dbCells_append]
        exact hown)
      have HK3 := Lib.hid hK'
      clear hown hg2 hK'
      go_wp2
      go_roundg (L.length - (i + 1))
      case measure => have := HZ.out; have := HL.out; omega
      case rel => exact ⟨i + 1, A', c', by have := HL.out; omega, by go_num, rfl, HO2.out, HK3.out⟩
    · obtain rfl : L.length = i := by omega
      have t1 : decide ((L.length : Int) < (L.length : Int)) = false := by simp
      have HO2 := HO.out
      rw [List.take_length] at HO2
      have RES := Lib.hid (Rows7.own HO2)
      clear hlt hz HO2
      go_wp2
      go_ret
      exact ⟨_, rfl, RES.out, K.out⟩
end Go.Proofs.Ytojnmbpicmgcpaa
