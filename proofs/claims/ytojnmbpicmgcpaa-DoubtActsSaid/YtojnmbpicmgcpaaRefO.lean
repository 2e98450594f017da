/- The document's Raise where it is refused; Over, walked. -/
import Derived.Test.YtojnmbpicmgcpaaRefP
namespace Go.Proofs.Ytojnmbpicmgcpaa
open Go.RowKit Sh
set_option linter.unusedVariables false

set_option maxRecDepth 100000 in
set_option maxHeartbeats 1000000 in
theorem rraise_bad {w : World} (q : Nat) (n i s fr c : Int) (nodes : Int) (base : Nat) (hbad : ¬ (0 ≤ n ∧ n < 64 ∧ s = 1 ∧ 0 ≤ fr ∧ fr < 64)) :
    Calls Try.prog 10 #[.pointer (some ⟨q, 0, none⟩), updV n i s, .int .i64 fr, .int .u64 c, .int .i64 nodes, .float .f64 base] w fun e w' => e = .returned (.tuple #[.bool false, .int .i64 1]) ∧ Keep (fun _ => False) w w' := by
  unfold updV
  by_cases h1 : mayU n s = true
  · by_cases h2 : s = 1
    · have h12 : 0 ≤ n ∧ n < 64 := by simp [mayU] at h1; omega
      by_cases h3 : fr < 0
      · have d3 : decide (fr < 0) = true := decide_eq_true h3
        subst h2
        go_enter Try.func10, Try.ntmps10
        go_wp2_with fail
        refine (rmay_any n i 1 _).mono ?_
        rintro e w1 ⟨rfl, hk1⟩
        rw [h1]
        have bu := hk1.old (heap_alloc_new w (.cells #[.int .i64 n, .int .u64 i, .int .i64 1] 34)) id
        have K1 := Lib.hid (((Keep.refl (fun _ => False) w).alloc (.cells #[.int .i64 n, .int .u64 i, .int .i64 1] 34)).step hk1)
        have c2 : w1.cell? ⟨w.heap.size, 2, none⟩ = some (.int .i64 1) := by simp [World.cell?, bu]
        clear hk1 bu
        go_wp2
        go_ret2
        exact ⟨rfl, K1.out⟩
      · have h4 : 64 ≤ fr := by omega
        have d3 : decide (fr < 0) = false := decide_eq_false h3
        have d4 : decide (64 ≤ fr) = true := decide_eq_true h4
        subst h2
        go_enter Try.func10, Try.ntmps10
        go_wp2_with fail
        refine (rmay_any n i 1 _).mono ?_
        rintro e w1 ⟨rfl, hk1⟩
        rw [h1]
        have bu := hk1.old (heap_alloc_new w (.cells #[.int .i64 n, .int .u64 i, .int .i64 1] 34)) id
        have K1 := Lib.hid (((Keep.refl (fun _ => False) w).alloc (.cells #[.int .i64 n, .int .u64 i, .int .i64 1] 34)).step hk1)
        have c2 : w1.cell? ⟨w.heap.size, 2, none⟩ = some (.int .i64 1) := by simp [World.cell?, bu]
        clear hk1 bu
        go_wp2
        go_ret2
        exact ⟨rfl, K1.out⟩
    · have e1 : (s != 1) = true := by simp [h2]
      have e2 : (s == 1) = false := by rw [beq_eq_false_iff_ne]; exact h2
      go_enter Try.func10, Try.ntmps10
      go_wp2_with fail
      refine (rmay_any n i s _).mono ?_
      rintro e w1 ⟨rfl, hk1⟩
      rw [h1]
      have bu := hk1.old (heap_alloc_new w (.cells #[.int .i64 n, .int .u64 i, .int .i64 s] 34)) id
      have K1 := Lib.hid (((Keep.refl (fun _ => False) w).alloc (.cells #[.int .i64 n, .int .u64 i, .int .i64 s] 34)).step hk1)
      have c2 : w1.cell? ⟨w.heap.size, 2, none⟩ = some (.int .i64 s) := by simp [World.cell?, bu]
      clear hk1 bu
      go_wp2
      go_ret2
      exact ⟨rfl, K1.out⟩
  · have h1' : mayU n s = false := by simpa using h1
    go_enter Try.func10, Try.ntmps10
    go_wp2_with fail
    refine (rmay_any n i s _).mono ?_
    rintro e w1 ⟨rfl, hk1⟩
    rw [h1']
    have K1 := Lib.hid (((Keep.refl (fun _ => False) w).alloc (.cells #[.int .i64 n, .int .u64 i, .int .i64 s] 34)).step hk1)
    clear hk1
    go_wp2
    go_ret2
    exact ⟨rfl, K1.out⟩

/-- two slices lie in blocks of their own. -/
def Dj (a b : Value) : Prop := ∀ q, a.ownBlock = some q → b.ownBlock ≠ some q
structure ROverIs (w w' : World) (r : Nat) (v : Value) (R' : List Db) (G : List Db) (e : Ending) : Prop where
  row : ∃ A c, e = .returned (.slice A G.length c) ∧ w'.ownsRow w.heap.size 34 3 (.slice A G.length c) G.length (upCells G)
  ref : ∃ v', IsRf w' r v' R' ∧ ∀ g, v'.ownBlock = some g → v.ownBlock = some g ∨ w.heap.size ≤ g
  keep : Keep (fun j => j = r) w w'

set_option maxRecDepth 100000 in
set_option maxHeartbeats 4000000 in
theorem rover_any {w : World} {r : Nat} {v : Value} {R : List Db} (h : IsRf w r v R) (now : Int) (hl : R.length ≤ 1000) (L : List Db) (hLd : allR R 64 = L) (hAl : L.length ≤ 1000) :
    Calls Try.prog 15 #[.pointer (some ⟨r, 0, none⟩), .int .u64 now] w fun e w' => ROverIs w w' r v (leftR now R L L.length) (L.filter (goneB now)) e := by
  obtain ⟨j0, hj, hj2⟩ : ∃ i0, Try.prog.info? 34 = some i0 ∧ (i0.zero, i0.size, i0.bytes) = (some (.agg #[.int .i64 0, .int .u64 0, .int .i64 0]), 3, 24) := by
    have := info34
    rw [Option.map_eq_some_iff] at this
    exact this
  simp only [Prod.mk.injEq] at hj2
  obtain ⟨hy0, hy1, hy2⟩ := hj2
  have Hj := Lib.hid hj
  have Hy0 := Lib.hid hy0
  have Hy1 := Lib.hid hy1
  have Hy2 := Lib.hid hy2
  have H := Lib.hid h
  have LR := Lib.hid hl
  have HB : Hid (∀ q, v.ownBlock = some q → q < w.heap.size) := Lib.hid (fun q hq => (h.own.lt q hq).2)
  have RA := rall_any (w := w.alloc (.cells #[] 34)) (h.keep0 ((Keep.refl _ w).alloc _)) hl
  rw [hLd] at RA
  have HRA := Lib.hid RA
  have E0 := Lib.hid (own_empty w 34 3 w.heap.size (Nat.le_refl _))
  have KA : Hid (Keep (fun _ => False) w (w.alloc (.cells #[] 34))) := Lib.hid ((Keep.refl _ w).alloc _)
  have HLT := h.lt
  clear h hj hy0 hy1 hy2 hl RA hLd
  have LL := Lib.hid hAl
  clear hAl
  go_enter Try.func15, Try.ntmps15
  go_wp2_with fail
  refine HRA.out.mono ?_
  rintro e w1 ⟨A1, c1, rfl, ho1, hk1⟩
  have HO1 := Lib.hid ho1
  have K1 := Lib.hid (KA.out.step hk1)
  have E1 : Hid (w1.ownsRow w.heap.size 34 3 (.slice (some ⟨w.heap.size, 0, none⟩) 0 0) 0 []) := Lib.hid (own_keepV E0.out hk1 fun _ _ h => h)
  have NB : Hid (∀ q, (Value.slice A1 L.length c1).ownBlock = some q → w.heap.size < q) := Lib.hid (fun q hq => by
    have := (ho1.lt q hq).1
    simp at this
    omega)
  have LZ := Lib.hid (leftR_zero now R L)
  clear ho1 hk1 E0
  go_wp2_with fail
  go_loopg [5, 7] L.length (fun z v5 v7 wr => ∃ (i : Nat) (A2 : Option Addr) (c2 n2 : Nat) (v' : Value), i + z = L.length ∧ v7 = .int .i64 i ∧ v5 = .slice A2 n2 c2 ∧ n2 = ((L.take i).filter (goneB now)).length ∧ wr.ownsRow w.heap.size 34 3 (.slice A2 n2 c2) n2 (upCells ((L.take i).filter (goneB now))) ∧ IsRf wr r v' (leftR now R L i) ∧ (∀ g, v'.ownBlock = some g → v.ownBlock = some g ∨ w.heap.size ≤ g) ∧ Dj (.slice A2 n2 c2) v' ∧ Dj (.slice A2 n2 c2) (.slice A1 L.length c1) ∧ Keep (fun j => j = r) w wr ∧ wr.ownsRow w.heap.size 65 7 (.slice A1 L.length c1) L.length (dbCells L))
  case atStart => exact ⟨0, _, _, 0, v, by omega, rfl, rfl, rfl, E1.out, by rw [LZ.out]; exact H.out.keep0 K1.out, fun g hg => .inl hg, fun q hq hv => by
      have hq : some w.heap.size = some q := hq
      injection hq with hq
      have := HB.out q hv
      omega, fun q hq hv => by
      have hq : some w.heap.size = some q := hq
      injection hq with hq
      have := NB.out q hv
      omega, K1.out.mono (fun _ h _ => absurd h id), own_base HO1.out (by simp)⟩
  case round =>
    clear E1 LZ HO1
    obtain ⟨i, A2, c2, n2, v', hz, rfl, rfl, hn2, ho, hrf, hfr, hdj, hdl, hk, hol⟩ := hrel
    have HO := Lib.hid ho
    have K := Lib.hid hk
    have HZ := Lib.hid hz
    have HN2 := Lib.hid hn2
    have HR := Lib.hid hrf
    have HFR := Lib.hid hfr
    have DJ := Lib.hid hdj
    have DL := Lib.hid hdl
    have OL := Lib.hid hol
    clear ho hk hn2 hrf hfr hdj hdl hol
    by_cases hlt : i < L.length
    · have t1 : decide ((i : Int) < (L.length : Int)) = true := decide_eq_true (by omega)
      have t2 : (i : Int) < (L.length : Int) := by omega
      have t3 : (0 : Int) ≤ (i : Int) := by omega
      have ew : IntKind.i64.wrap ((i : Int) + 1) = ((i + 1 : Nat) : Int) := by have := LL.out; rw [IntKind.wrap_i64]; omega
      obtain ⟨g, rfl, _⟩ := own_at OL.out (by omega)
      have rc := rd_cells OL.out rfl i hlt
      have hfs := filter_take L (goneB now) i hlt
      have hls := leftR_succ (now := now) (R := R) hlt
      rw [← db_of hlt] at hfs
      obtain ⟨x, hx⟩ : ∃ x, x = db L i := ⟨_, rfl⟩
      rw [← hx] at rc hfs hls
      have HFS := Lib.hid hfs
      have HLS := Lib.hid hls
      have HXD := Lib.hid hx
      obtain ⟨xn, xi, xs, xf, xc, xt, xu⟩ := x
      have r0 : wr.cell? ⟨g, i * 7, none⟩ = some (.int .i64 xn) := rc 0 (by omega)
      have r1 : wr.cell? ⟨g, i * 7 + 1, none⟩ = some (.int .u64 xi) := rc 1 (by omega)
      have r6 : wr.cell? ⟨g, i * 7 + 6, none⟩ = some (.int .u64 xu) := rc 6 (by omega)
      have hn2l : n2 ≤ i := by
        rw [HN2.out]
        exact Nat.le_trans (List.length_filter_le _ _) (by simp; omega)
      have HNL := Lib.hid hn2l
      have HL := Lib.hid hlt
      clear rc hx hfs hls hn2l hz hlt
      by_cases hle : xu ≤ now
      · have e1 : decide (xu ≤ now) = true := decide_eq_true hle
        have HG : Hid (goneB now (⟨xn, xi, xs, xf, xc, xt, xu⟩ : Db) = true) := Lib.hid e1
        have NBK : Hid ((wr.alloc (.cells #[.int .i64 xn, .int .u64 xi, .int .i64 3] 34)).drew.heap[wr.heap.size]? = some (.cells #[.int .i64 xn, .int .u64 xi, .int .i64 3] 34 (0, 0))) := Lib.hid (heap_alloc_new wr _)
        have KE : Hid (Keep (fun _ => False) wr (wr.alloc (.cells #[.int .i64 xn, .int .u64 xi, .int .i64 3] 34)).drew) := Lib.hid (((Keep.refl _ wr).alloc _).drew)
        have HOd : Hid ((wr.alloc (.cells #[.int .i64 xn, .int .u64 xi, .int .i64 3] 34)).drew.ownsRow w.heap.size 34 3 (.slice A2 n2 c2) n2 (upCells ((L.take i).filter (goneB now)))) := Lib.hid (HO.out.alloc _)
        have HBS : Hid (w.heap.size ≤ (wr.alloc (.cells #[.int .i64 xn, .int .u64 xi, .int .i64 3] 34)).drew.heap.size) := Lib.hid (Nat.le_trans K.out.size KE.out.size)
        have STP : Hid (∀ w6 v6, w6.ownsRow w.heap.size 34 3 v6 (n2 + 1) (upCells ((L.take i).filter (goneB now)) ++ upCells [⟨xn, xi, xs, xf, xc, xt, xu⟩]) → (wr.alloc (.cells #[.int .i64 xn, .int .u64 xi, .int .i64 3] 34)).drew.grownBy w6 (Value.slice A2 n2 c2).ownBlock → (v6.ownBlock = (Value.slice A2 n2 c2).ownBlock ∨ v6.ownBlock = some (wr.alloc (.cells #[.int .i64 xn, .int .u64 xi, .int .i64 3] 34)).drew.heap.size) →
            IsRf w6 r v' (leftR now R L i) ∧ w6.ownsRow w.heap.size 65 7 (.slice (some ⟨g, 0, none⟩) L.length c1) L.length (dbCells L) ∧ Keep (fun j => j = r) w w6 ∧ Dj v6 v' ∧ Dj v6 (.slice (some ⟨g, 0, none⟩) L.length c1) ∧ (∀ q, v6.ownBlock = some q → q < w6.heap.size ∧ w.heap.size ≤ q) ∧ n2 + 1 = ((L.take (i + 1)).filter (goneB now)).length ∧ w6.ownsRow w.heap.size 34 3 v6 (n2 + 1) (upCells ((L.take (i + 1)).filter (goneB now)))) := Lib.hid (fun w6 v6 hown hg hob => by
          have kk : Keep (fun q => (Value.slice A2 n2 c2).ownBlock = some q) wr w6 := (KE.out.mono (fun _ h _ => absurd h id)).grown hg (fun q hq _ => hq)
          have hsz : wr.heap.size ≤ (wr.alloc (.cells #[.int .i64 xn, .int .u64 xi, .int .i64 3] 34)).drew.heap.size := KE.out.size
          have dj6 : ∀ u : Value, Dj (.slice A2 n2 c2) u → (∀ q, u.ownBlock = some q → q < wr.heap.size) → Dj v6 u := fun u hu hlt q hq hv => by
            rcases hob with h | h
            · exact hu q (h ▸ hq) hv
            · rw [h] at hq
              injection hq with hq
              have := hlt q hv
              omega
          refine ⟨HR.out.keep kk ?_, own_keepV OL.out kk (fun q hq h => DL.out q h hq), K.out.trans kk (fun q hq hlt => ?_), dj6 _ DJ.out (fun q hq => (HR.out.own.lt q hq).2), dj6 _ DL.out (fun q hq => (OL.out.lt q hq).2), fun q hq => ⟨(hown.lt q hq).2, (hown.lt q hq).1⟩, ?_, ?_⟩
          · rintro q (rfl | hq) h
            · have := (HO.out.lt q h).1
              omega
            · exact DJ.out q h hq
          · have := (HO.out.lt q hq).1
            omega
          · rw [HFS.out, HG.out]
            simp only [if_true]
            rw [List.length_append, ← HN2.out]
            rfl
          · rw [HFS.out, HG.out]
            simp only [if_true]
            rw [upCells_append]
            exact hown)
        clear hle
        go_upto_region 7 with fail
        go_region_held3 (fun W => W.cell? ⟨g, i * 7, none⟩ = some (.int .i64 xn) ∧ W.cell? ⟨g, i * 7 + 1, none⟩ = some (.int .u64 xi)) (go_keep) (first
          | (refine step_append_own2 (by rfl) _ _ _ (by rfl) w.heap.size 34 j0 (.agg #[.int .i64 0, .int .u64 0, .int .i64 0]) 3 24 Try.underlying43 Hj.out Hy0.out Hy1.out Hy2.out rfl (by decide) (.slice A2 n2 c2) n2 (upCells ((L.take i).filter (goneB now))) (by rfl) HOd.out ⟨wr.heap.size, 0, none⟩ 1 1 (upCells [⟨xn, xi, xs, xf, xc, xt, xu⟩]) (by rfl) (by rfl) (World.news_of_block (cs := (#[.int .i64 xn, .int .u64 xi, .int .i64 3] : Array Value)) (t := 34) (fr := (0, 0)) NBK.out) (upCells_one _) (by have := HNL.out; have := LL.out; simp only [maxLen]; omega) (by have := HNL.out; have := LL.out; omega) HBS.out ?_; intro v6 w6 hown6 hg6 hob6; obtain ⟨a1, a2, a3, a4, a5, a6, a7, a8⟩ := STP.out w6 v6 hown6 hg6 hob6; have y0 : w6.cell? ⟨g, i * 7, none⟩ = some (.int .i64 xn) := (rd_cells a2 rfl i HL.out 0 (by omega)).trans (by rw [← HXD.out]; rfl); have y1 : w6.cell? ⟨g, i * 7 + 1, none⟩ = some (.int .u64 xi) := (rd_cells a2 rfl i HL.out 1 (by omega)).trans (by rw [← HXD.out]; rfl); obtain ⟨A6, c6, rfl⟩ := own_shape hown6; have HA := Lib.hid (And.intro a1 (And.intro a2 (And.intro a3 (And.intro a4 (And.intro a5 (And.intro a6 (And.intro a7 a8))))))); clear a1 a2 a3 a4 a5 a6 a7 a8 hown6 hg6 hob6))
        obtain ⟨wz, rfl⟩ : ∃ wz : World, wz = w6 := ⟨_, rfl⟩
        go_wp2_with fail
        refine (rdrop_any HA.out.1 xn (Nat.le_trans (List.length_filter_le _ _) LR.out)).mono ?_
        rintro e w8 ⟨b, rfl, _, ⟨v8, hrf8, hfr8⟩, hk8⟩
        have RES : Hid (w8.ownsRow w.heap.size 34 3 (.slice A6 (n2 + 1) c6) (n2 + 1) (upCells ((L.take (i + 1)).filter (goneB now))) ∧ IsRf w8 r v8 (leftR now R L (i + 1)) ∧ (∀ q, v8.ownBlock = some q → v.ownBlock = some q ∨ w.heap.size ≤ q) ∧ Dj (.slice A6 (n2 + 1) c6) v8 ∧ Keep (fun j => j = r) w w8 ∧ w8.ownsRow w.heap.size 65 7 (.slice (some ⟨g, 0, none⟩) L.length c1) L.length (dbCells L)) := Lib.hid (by
          obtain ⟨a1, a2, a3, a4, a5, a6, a7, a8⟩ := HA.out
          refine ⟨own_keepV a8 hk8 (fun q hq h => by have := (a6 q hq).2; omega), ?_, fun q hq => .inr (Nat.le_trans a3.size (hfr8 q hq)), fun q hq hv => by have := (a6 q hq).1; have := hfr8 q hv; omega, a3.step hk8, own_keepV a2 hk8 (fun q hq h => by have := (a2.lt q hq).1; omega)⟩
          rw [HLS.out, HG.out]
          exact hrf8)
        have A7 := Lib.hid HA.out.2.2.2.2.2.2.1
        have A5 := Lib.hid HA.out.2.2.2.2.1
        clear hrf8 hfr8 hk8 HA
        go_wp2_with fail
        go_roundg (L.length - (i + 1))
        case measure => have := HZ.out; have := HL.out; omega
        case rel => exact ⟨i + 1, A6, c6, n2 + 1, v8, by have := HL.out; omega, by go_num, rfl, A7.out, RES.out.1, RES.out.2.1, RES.out.2.2.1, RES.out.2.2.2.1, A5.out, RES.out.2.2.2.2.1, RES.out.2.2.2.2.2⟩
      · have e1 : decide (xu ≤ now) = false := decide_eq_false hle
        have HG : Hid (goneB now (⟨xn, xi, xs, xf, xc, xt, xu⟩ : Db) = false) := Lib.hid e1
        have HF2 : Hid (n2 = ((L.take (i + 1)).filter (goneB now)).length ∧ wr.ownsRow w.heap.size 34 3 (.slice A2 n2 c2) n2 (upCells ((L.take (i + 1)).filter (goneB now))) ∧ IsRf wr r v' (leftR now R L (i + 1))) := Lib.hid (by
          rw [HFS.out, HLS.out, HG.out]
          simp only [Bool.false_eq_true, if_false, List.append_nil]
          exact ⟨HN2.out, HO.out, HR.out⟩)
        clear hle
        go_wp2_with fail
        go_roundg (L.length - (i + 1))
        case measure => have := HZ.out; have := HL.out; omega
        case rel => exact ⟨i + 1, A2, c2, n2, v', by have := HL.out; omega, by go_num, rfl, HF2.out.1, HF2.out.2.1, HF2.out.2.2, HFR.out, DJ.out, DL.out, K.out, OL.out⟩
    · obtain rfl : L.length = i := by omega
      have t1 : decide ((L.length : Int) < (L.length : Int)) = false := by simp
      have RES : Hid (ROverIs w wr r v (leftR now R L L.length) (L.filter (goneB now)) (.returned (.slice A2 n2 c2))) := Lib.hid (by
        have h1 := HN2.out
        have h2 := HO.out
        rw [List.take_length] at h1 h2
        refine ⟨⟨A2, c2, by rw [h1], ?_⟩, ⟨v', HR.out, HFR.out⟩, K.out⟩
        rw [← h1]
        exact h2)
      clear hlt hz
      go_wp2
      exact bodyPost_ret (v := .slice A2 n2 c2) (by simp [results, Try.results15, go_sem]) rfl RES.out
end Go.Proofs.Ytojnmbpicmgcpaa
