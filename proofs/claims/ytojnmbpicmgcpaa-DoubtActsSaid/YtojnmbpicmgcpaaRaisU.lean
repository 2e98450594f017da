/- Walk of Doubts.Raise, where one more tells a doubt, or one that told it: whole. -/
import Derived.Test.YtojnmbpicmgcpaaRaisT
namespace Go.Proofs.Ytojnmbpicmgcpaa
open Go.RowKit Sh
open Go.ChangeMaps (setBlock)
set_option linter.unusedVariables false

set_option maxRecDepth 100000 in
set_option maxHeartbeats 4000000 in
theorem raise_has {w : World} {q : Nat} {mb : Option Nat} {M : List Db} {base : Nat} {nodes : Int} (h : IsQ w q mb M) (n i : Int) (k : Nat) (c : Int) (hn : 0 ≤ n ∧ n < 64) (hk : k ≤ 63) (x0 : Db) (hx0 : x0 ∈ M) (hx1 : x0.n = n) (hxi : x0.i = i) (F : Nat) (hF : F < 18446744073709551616) (hxf : x0.f = (F : Int)) (hbit : F.testBit k = true) :
    Calls Try.prog 9 #[.pointer (some ⟨q, 0, none⟩), updV n i 1, .int .i64 k, .int .u64 c, .int .i64 nodes, .float .f64 base] w fun e w' => e = .returned (.tuple #[.bool false, .int .i64 0]) ∧ Keep (fun _ => False) w w' := by
  unfold updV
  have H := Lib.hid h
  have hu : mayU n 1 = true := by simp [mayU]; omega
  have d1 : decide ((k : Int) < 0) = false := decide_eq_false (by omega)
  have d2 : decide ((64 : Int) ≤ (k : Int)) = false := decide_eq_false (by omega)
  have d3 : ¬ (64 : Int) ≤ (k : Int) := by omega
  clear h
  go_enter Try.func9, Try.ntmps9
  go_wp2_with fail
  refine (may_any n i 1 _).mono ?_
  rintro e w1 ⟨rfl, hk1⟩
  rw [hu]
  have bu := hk1.old (heap_alloc_new w (.cells #[.int .i64 n, .int .u64 i, .int .i64 1] 34)) id
  have k1 := ((Keep.refl (fun _ => False) w).alloc (.cells #[.int .i64 n, .int .u64 i, .int .i64 1] 34)).step hk1
  have c0 : w1.cell? ⟨w.heap.size, 0, none⟩ = some (.int .i64 n) := by simp [World.cell?, bu]
  have c1 : w1.cell? ⟨w.heap.size, 1, none⟩ = some (.int .u64 i) := by simp [World.cell?, bu]
  have c2 : w1.cell? ⟨w.heap.size, 2, none⟩ = some (.int .i64 1) := by simp [World.cell?, bu]
  have cq := k1.cell H.out.c0
  obtain ⟨x, b, hlk, hb⟩ := H.out.look n
  have BU := Lib.hid bu
  have K1 := Lib.hid k1
  have HB := Lib.hid hb
  clear hk1 bu k1 hb
  obtain ⟨xn, xi, xs, xf, xc, xt, xu⟩ := x
  have hlk2 : (Instr.lookup 25 (.map mb) (.int .i64 n) true).run Try.prog w1.drew = .ok (.tuple #[.agg #[.int .i64 xn, .int .u64 xi, .int .i64 xs, .int .u64 xf, .int .u64 xc, .int .u64 xt, .int .u64 xu], .bool b]) w1.drew := hlk _ K1.out.drew
  have hlk3 : ∀ o, (Instr.lookup 25 (.map mb) (.int .i64 n) true).run Try.prog (w1.alloc o).drew = .ok (.tuple #[.agg #[.int .i64 xn, .int .u64 xi, .int .i64 xs, .int .u64 xf, .int .u64 xc, .int .u64 xt, .int .u64 xu], .bool b]) (w1.alloc o).drew := fun o => hlk _ (K1.out.alloc _).drew
  clear hlk
  go_upto_region 3 with fail
  go_cut [14, 15] (fun v14 v15 wx => v14 = .pointer (some ⟨w1.heap.size, 0, none⟩) ∧ v15 = .bool b ∧ Keep (fun _ => False) w1 wx ∧ wx.heap[w1.heap.size]? = some (.cells #[.int .i64 xn, .int .u64 xi, .int .i64 xs, .int .u64 xf, .int .u64 xc, .int .u64 xt, .int .u64 xu] 55 (0, 0)))
  case first =>
    go_region_held3 (fun W => W.cell? ⟨q, 0, none⟩ = some (.map mb) ∧ W.cell? ⟨w.heap.size, 0, none⟩ = some (.int .i64 n)) (go_keep) (fail)
    all_goals
      go_wp2_with fail
      go_meet
      exact ⟨rfl, rfl, ((Keep.refl _ w1).alloc _).drew, heap_alloc_new w1 _⟩
  case rest =>
    obtain ⟨rfl, rfl, kb, bb⟩ := hcut
    obtain ⟨wb, hwb⟩ : ∃ wb, wb = wc := ⟨_, rfl⟩
    rw [← hwb] at kb bb ⊢
    clear hwb
    have b1 : wb.cell? ⟨w1.heap.size, 1, none⟩ = some (.int .u64 xi) := by simp [World.cell?, bb]
    have c0 := kb.cell c0
    have c1 := kb.cell c1
    have c2 := kb.cell c2
    have KB := Lib.hid (K1.out.step kb)
    have BUB := Lib.hid (kb.old BU.out (fun h => h))
    have XB := Lib.hid bb
    clear kb bb hlk2 hlk3 cq BU K1
    have x3 : wb.cell? ⟨w1.heap.size, 3, none⟩ = some (.int .u64 xf) := by have := XB.out; simp [World.cell?, this]
    rcases HB.out with ⟨rfl, hx, hxn⟩ | ⟨rfl, hno⟩
    · have e0 := nodup_one H.out.nod hx hx0 (hxn.trans hx1.symm)
      subst e0
      have hxi : xi = i := hxi
      have hxf : xf = (F : Int) := hxf
      subst hxi hxf
      have e1 : decide (xi < xi) = false := by simp
      have e2 : (xi == xi) = true := by simp
      have HQ := Lib.hid (fun W => has_bit F k hF hk W)
      rw [hbit] at HQ
      clear hx hxn hx0 hx1 HB XB BUB hF hbit
      go_wp2_with fail
      refine (HQ.out _).mono ?_
      rintro e w2 ⟨rfl, rfl⟩
      go_wp2
      go_ret2
      exact ⟨rfl, KB.out⟩
    · exact absurd hx1 (hno _ hx0)

set_option maxRecDepth 100000 in
set_option maxHeartbeats 4000000 in
theorem raise_told {w : World} {q : Nat} {mb : Option Nat} {M : List Db} {base : Nat} {nodes : Int} {u : Nat → Nat} (h : IsQ w q mb M) (hT : Waits base nodes u) (n i : Int) (k : Nat) (c : Int) (hn : 0 ≤ n ∧ n < 64) (hk : k ≤ 63) (x0 : Db) (hx0 : x0 ∈ M) (hx1 : x0.n = n) (hxi : x0.i = i) (F : Nat) (hF : F < 18446744073709551616) (hxf : x0.f = (F : Int)) (hbit : F.testBit k = false) (t : Nat) (ht : x0.t = (t : Int)) (ht2 : t < 1000) (hc : 0 ≤ x0.c ∧ x0.c < 18446744073709551616) :
    Calls Try.prog 9 #[.pointer (some ⟨q, 0, none⟩), updV n i 1, .int .i64 k, .int .u64 c, .int .i64 nodes, .float .f64 base] w fun e w' => e = .returned (.tuple #[.bool true, .int .i64 0]) ∧ ∃ B, mb = some B ∧ IsQ w' q (some B) (putL M ⟨n, i, x0.s, ((F ||| 2 ^ k : Nat) : Int), x0.c, (t : Int) + 1, sat x0.c (u (t + 1))⟩) ∧ Keep (QS q mb) w w' := by
  unfold updV
  have H := Lib.hid h
  have HT := Lib.hid hT
  have hu : mayU n 1 = true := by simp [mayU]; omega
  have d1 : decide ((k : Int) < 0) = false := decide_eq_false (by omega)
  have d2 : decide ((64 : Int) ≤ (k : Int)) = false := decide_eq_false (by omega)
  have d3 : ¬ (64 : Int) ≤ (k : Int) := by omega
  clear h hT
  go_enter Try.func9, Try.ntmps9
  go_wp2_with fail
  refine (may_any n i 1 _).mono ?_
  rintro e w1 ⟨rfl, hk1⟩
  rw [hu]
  have bu := hk1.old (heap_alloc_new w (.cells #[.int .i64 n, .int .u64 i, .int .i64 1] 34)) id
  have k1 := ((Keep.refl (fun _ => False) w).alloc (.cells #[.int .i64 n, .int .u64 i, .int .i64 1] 34)).step hk1
  have c0 : w1.cell? ⟨w.heap.size, 0, none⟩ = some (.int .i64 n) := by simp [World.cell?, bu]
  have c1 : w1.cell? ⟨w.heap.size, 1, none⟩ = some (.int .u64 i) := by simp [World.cell?, bu]
  have c2 : w1.cell? ⟨w.heap.size, 2, none⟩ = some (.int .i64 1) := by simp [World.cell?, bu]
  have cq := k1.cell H.out.c0
  obtain ⟨x, b, hlk, hb⟩ := H.out.look n
  have BU := Lib.hid bu
  have K1 := Lib.hid k1
  have HB := Lib.hid hb
  clear hk1 bu k1 hb
  obtain ⟨xn, xi, xs, xf, xc, xt, xu⟩ := x
  have hlk2 : (Instr.lookup 25 (.map mb) (.int .i64 n) true).run Try.prog w1.drew = .ok (.tuple #[.agg #[.int .i64 xn, .int .u64 xi, .int .i64 xs, .int .u64 xf, .int .u64 xc, .int .u64 xt, .int .u64 xu], .bool b]) w1.drew := hlk _ K1.out.drew
  have hlk3 : ∀ o, (Instr.lookup 25 (.map mb) (.int .i64 n) true).run Try.prog (w1.alloc o).drew = .ok (.tuple #[.agg #[.int .i64 xn, .int .u64 xi, .int .i64 xs, .int .u64 xf, .int .u64 xc, .int .u64 xt, .int .u64 xu], .bool b]) (w1.alloc o).drew := fun o => hlk _ (K1.out.alloc _).drew
  clear hlk
  go_upto_region 3 with fail
  go_cut [14, 15] (fun v14 v15 wx => v14 = .pointer (some ⟨w1.heap.size, 0, none⟩) ∧ v15 = .bool b ∧ Keep (fun _ => False) w1 wx ∧ wx.heap[w1.heap.size]? = some (.cells #[.int .i64 xn, .int .u64 xi, .int .i64 xs, .int .u64 xf, .int .u64 xc, .int .u64 xt, .int .u64 xu] 55 (0, 0)))
  case first =>
    go_region_held3 (fun W => W.cell? ⟨q, 0, none⟩ = some (.map mb) ∧ W.cell? ⟨w.heap.size, 0, none⟩ = some (.int .i64 n)) (go_keep) (fail)
    all_goals
      go_wp2_with fail
      go_meet
      exact ⟨rfl, rfl, ((Keep.refl _ w1).alloc _).drew, heap_alloc_new w1 _⟩
  case rest =>
    obtain ⟨rfl, rfl, kb, bb⟩ := hcut
    obtain ⟨wb, hwb⟩ : ∃ wb, wb = wc := ⟨_, rfl⟩
    rw [← hwb] at kb bb ⊢
    clear hwb
    have b1 : wb.cell? ⟨w1.heap.size, 1, none⟩ = some (.int .u64 xi) := by simp [World.cell?, bb]
    have c0 := kb.cell c0
    have c1 := kb.cell c1
    have c2 := kb.cell c2
    have KB := Lib.hid (K1.out.step kb)
    have BUB := Lib.hid (kb.old BU.out (fun h => h))
    have XB := Lib.hid bb
    have hsz : w.heap.size < w1.heap.size := (Array.getElem?_eq_some_iff.1 BU.out).1
    clear kb bb hlk2 hlk3 cq BU K1
    rcases HB.out with ⟨rfl, hx, hxn⟩ | ⟨rfl, hno⟩
    rotate_left
    · exact absurd hx1 (hno _ hx0)
    have e0 := nodup_one H.out.nod hx hx0 (hxn.trans hx1.symm)
    subst e0
    have hxi : xi = i := hxi
    have hxn : xn = n := hx1
    have hxf : xf = (F : Int) := hxf
    have ht : xt = (t : Int) := ht
    subst hxi hxn hxf ht
    have e1 : decide (xi < xi) = false := by simp
    have e2 : (xi == xi) = true := by simp
    have HQ := Lib.hid (fun W => has_bit F k hF hk W)
    have HW := Lib.hid (fun W => with_bit F k hF hk W)
    rw [hbit] at HQ
    have HC : Hid (0 ≤ xc ∧ xc < 18446744073709551616) := Lib.hid hc
    have HM : Hid (mb ≠ none) := Lib.hid (by rintro rfl; rw [H.out.non rfl] at hx0; cases hx0)
    clear hx hx0 hx1 HB hF hbit hxn hc
    generalize hfn : ((F ||| 2 ^ k : Nat) : Int) = fn at *
    have FN := Lib.hid hfn
    clear hfn
    have et : IntKind.u64.wrap ((t : Int) + 1) = (t : Int) + 1 := by rw [IntKind.wrap_u64]; omega
    go_upto_block 0 with fail
    go_cut [] (fun wx => wx.heap[w1.heap.size]? = some (.cells (dbC ⟨xn, xi, xs, fn, xc, (t : Int) + 1, xu⟩).toArray 55 (0, 0)) ∧ Keep (fun j => j = w1.heap.size) wb wx)
    case first =>
      have x3 : wb.cell? ⟨w1.heap.size, 3, none⟩ = some (.int .u64 F) := by have := XB.out; simp [World.cell?, this]
      have x5 : wb.cell? ⟨w1.heap.size, 5, none⟩ = some (.int .u64 t) := by have := XB.out; simp [World.cell?, this]
      have f3 : wb.frozen? ⟨w1.heap.size, 3, none⟩ = false := by have := XB.out; simp [World.frozen?, this]
      have f5 : ∀ v, (wb.setCell ⟨w1.heap.size, 3, none⟩ v).frozen? ⟨w1.heap.size, 5, none⟩ = false := fun v => by have := heap_setCell_at XB.out 3 v; simp [World.frozen?, this]
      have z5 := fun v => set_other (w := wb) (v := v) (o := 3) (o' := 5) (by decide) x5
      have z3 := fun v => set_other (w := wb) (v := v) (o := 5) (o' := 3) (by decide) x3
      go_wp2_with fail
      refine (HQ.out _).mono ?_
      rintro e w2 ⟨rfl, rfl⟩
      go_wp2_with fail
      refine (HW.out _).mono ?_
      rintro e w3 ⟨rfl, rfl⟩
      go_wp2_with fail
      go_meet
      refine ⟨?_, ((Keep.refl (fun j => j = w1.heap.size) wb).setAt 3 _).setAt 5 _⟩
      have h5 := heap_setCell_at (heap_setCell_at XB.out 3 (.int .u64 fn)) 5 (.int .u64 ((t : Int) + 1))
      simpa [dbC] using h5
    case rest =>
      obtain ⟨hbx, hkx⟩ := hcut
      obtain ⟨wo, hwo⟩ : ∃ wo, wo = wc := ⟨_, rfl⟩
      rw [← hwo] at hbx hkx ⊢
      clear hwo
      have KO : Hid (Keep (fun _ => False) w wo) := Lib.hid (KB.out.trans hkx (fun j hj h => by omega))
      have BUO := Lib.hid (hkx.old BUB.out (by omega))
      have XO := Lib.hid hbx
      clear hbx hkx c0 c1 c2 b1 KB BUB XB HQ HW
      go_wp2_with fail
      refine (dwait_told HT.out XO.out (t + 1) (by push_cast; rfl) (by omega) HC.out).mono ?_
      rintro e w5 ⟨rfl, hx5, hk5⟩
      have K5 : Hid (Keep (fun _ => False) w w5) := Lib.hid (KO.out.trans hk5 (fun j hj h => by omega))
      have BU5 := Lib.hid (hk5.old BUO.out (by omega))
      have X5 := Lib.hid hx5
      have H5 := Lib.hid (H.out.keep0 K5.out)
      clear hx5 hk5 KO BUO XO
      have cq := H5.out.c0
      have hnil := run_eql_map_nil (P := Try.prog) w5 25 3 55 mb Try.underlying25
      generalize hS : sat xc ((u (t + 1) : Nat) : Int) = st at *
      generalize htn : (t : Int) + 1 = tn at *
      have TN := Lib.hid htn
      clear htn
      cases mb with
      | none => exact absurd rfl HM.out
      | some B =>
        go_upto_region 15 with fail
        have HC2 := H5
        have BC2 := BU5
        have XC2 := X5
        have KC2 : Hid (Keep (QS q (some B)) w w5) := Lib.hid (K5.out.mono (fun _ h _ => absurd h id))
        obtain ⟨ws, hws⟩ : ∃ ws, ws = w5 := ⟨_, rfl⟩
        rw [← hws] at HC2 BC2 XC2 KC2 ⊢
        clear hws H5 BU5 X5 K5 cq hnil
        obtain ⟨o, hup, hiq⟩ := (HC2.out.keep0 (Keep.refl _ ws).drew).put ⟨xn, xi, xs, fn, xc, tn, st⟩
        have hup2 : (Instr.mapUpdate 25 (.map (some B)) (.int .i64 xn) (.agg #[.int .i64 xn, .int .u64 xi, .int .i64 xs, .int .u64 fn, .int .u64 xc, .int .u64 tn, .int .u64 st])).run Try.prog ws.drew = .ok () (setBlock ws.drew B o) := hup
        have xb := XC2.out
        have u0 : ws.drew.cell? ⟨w.heap.size, 0, none⟩ = some (.int .i64 xn) := by have := BC2.out; show ws.cell? _ = _; simp [World.cell?, this]
        have cq := (HC2.out.keep0 (Keep.refl _ ws).drew).c0
        have x0 : ws.drew.cell? ⟨w1.heap.size, 0, none⟩ = some (.int .i64 xn) := by show ws.cell? _ = _; simp [World.cell?, xb, dbC]
        have x1 : ws.drew.cell? ⟨w1.heap.size, 1, none⟩ = some (.int .u64 xi) := by show ws.cell? _ = _; simp [World.cell?, xb, dbC]
        have x2 : ws.drew.cell? ⟨w1.heap.size, 2, none⟩ = some (.int .i64 xs) := by show ws.cell? _ = _; simp [World.cell?, xb, dbC]
        have x3 : ws.drew.cell? ⟨w1.heap.size, 3, none⟩ = some (.int .u64 fn) := by show ws.cell? _ = _; simp [World.cell?, xb, dbC]
        have x4 : ws.drew.cell? ⟨w1.heap.size, 4, none⟩ = some (.int .u64 xc) := by show ws.cell? _ = _; simp [World.cell?, xb, dbC]
        have x5 : ws.drew.cell? ⟨w1.heap.size, 5, none⟩ = some (.int .u64 tn) := by show ws.cell? _ = _; simp [World.cell?, xb, dbC]
        have x6 : ws.drew.cell? ⟨w1.heap.size, 6, none⟩ = some (.int .u64 st) := by show ws.cell? _ = _; simp [World.cell?, xb, dbC]
        have RK := Lib.hid (keep_setBlock KC2.out.drew B o (fun hlt => .inr rfl))
        have RQ := Lib.hid hiq
        clear hup xb hiq HC2 BC2 XC2 KC2
        refine sb_tail 7 (by kernel_rfl) (by kernel_rfl) ?_
        simp only [List.take_succ_cons, List.take_zero, List.drop_succ_cons, List.drop_zero]
        repeat (refine sb_step (fun K hK => ?_); go_simp; refine hK _ ?_; clear hK K)
        try refine sb_nil ?_
        go_wp2
        go_ret2
        exact ⟨rfl, by rw [FN.out, TN.out]; exact RQ.out, RK.out⟩
end Go.Proofs.Ytojnmbpicmgcpaa
