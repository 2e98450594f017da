/- DoubtArgs, walked. -/
import Derived.Test.YtojnmbpicmgcpaaLawNew
namespace Go.Proofs.Ytojnmbpicmgcpaa
open Go.RowKit Sh
open Go.ChangeMaps (setBlock)
set_option linter.unusedVariables false

theorem sat_ge {x y : Int} (hx : x < 18446744073709551616) (hy : 0 ≤ y) : x ≤ sat x y := by
  unfold sat
  split <;> omega

theorem keepB_cell {w w' : World} {B g o : Nat} {v : Value} (k : Keep (fun k => some B = some k) w w') (h : w.cell? ⟨g, o, none⟩ = some v) (hg : g ≠ B) : w'.cell? ⟨g, o, none⟩ = some v :=
  (World.cell?_of_block (k.block g (World.block_lt_of_cell? w _ h) (fun e => hg (by injection e with e; exact e.symm)))).trans h
set_option maxRecDepth 100000 in
set_option maxHeartbeats 4000000 in
theorem args_law (n i s fr now nodes : Int) (base : Nat) (hi : 0 ≤ now ∧ now < 18446744073709551616) (hnd : -9223372036854775808 ≤ nodes ∧ nodes < 9223372036854775808) (w : World) :
    Calls Try.prog 7 #[.agg #[.int .i64 n, .int .u64 i, .int .i64 s], .int .i64 fr, .int .u64 now, .int .i64 nodes, .float .f64 base] w fun e w' => e = .returned (.bool true) ∧ Keep (fun _ => False) w w' := by
  have HI := Lib.hid hi
  have WT := Lib.hid (waitis_some base nodes hnd.1 hnd.2)
  clear hi hnd
  obtain ⟨may, hmay⟩ : ∃ b : Bool, (b = true ↔ (0 ≤ n ∧ n < 64 ∧ s = 1 ∧ 0 ≤ fr ∧ fr < 64)) := by
    by_cases c : (0 ≤ n ∧ n < 64 ∧ s = 1 ∧ 0 ≤ fr ∧ fr < 64)
    · exact ⟨true, by simp [c]⟩
    · exact ⟨false, by simp [c]⟩
  have MAY := Lib.hid hmay
  clear hmay
  go_enter Try.func7, Try.ntmps7
  go_upto_region 2 with fail
  obtain ⟨W1, hW1⟩ : ∃ W1, W1 = (w.alloc (.cells #[.int .i64 n, .int .u64 i, .int .i64 s] 34)).alloc (.cells #[.map none] 27) := ⟨_, rfl⟩
  rw [← hW1]
  have k1 : Keep (fun _ => False) w W1 := by rw [hW1]; exact ((Keep.refl _ w).alloc _).alloc _
  have q1 : IsQ W1 (w.heap.size + 1) none [] := by
    rw [hW1]
    have := IsQ.fresh (w.alloc (.cells #[.int .i64 n, .int .u64 i, .int .i64 s] 34))
    simpa using this
  have x1 : W1.heap[w.heap.size]? = some (.cells #[.int .i64 n, .int .u64 i, .int .i64 s] 34 (0, 0)) := by
    rw [hW1]
    exact ((Keep.refl (fun _ => False) _).alloc _).old (heap_alloc_new w _) id
  have s1 : W1.heap.size = w.heap.size + 2 := by rw [hW1]; simp
  clear hW1
  have c0 : W1.cell? ⟨w.heap.size, 0, none⟩ = some (.int .i64 n) := by simp [World.cell?, x1]
  have c1 : W1.cell? ⟨w.heap.size, 1, none⟩ = some (.int .u64 i) := by simp [World.cell?, x1]
  have c2 : W1.cell? ⟨w.heap.size, 2, none⟩ = some (.int .i64 s) := by simp [World.cell?, x1]
  have K1 := Lib.hid k1
  have Q1 := Lib.hid q1
  have X1 := Lib.hid x1
  have S1 := Lib.hid s1
  clear k1 q1 x1 s1
  go_cut [12] (fun v12 wx => v12 = .bool may ∧ W1 = wx)
  case first =>
    have hm := MAY.out
    by_cases h1 : 0 ≤ n
    · have d1 : decide (0 ≤ n) = true := decide_eq_true h1
      by_cases h2 : n < 64
      · have d2 : decide (n < 64) = true := decide_eq_true h2
        by_cases h3 : s = 1
        · have d3 : (s == 1) = true := by simp [h3]
          by_cases h4 : 0 ≤ fr
          · have d4 : decide (0 ≤ fr) = true := decide_eq_true h4
            by_cases h5 : fr < 64
            · have d5 : decide (fr < 64) = true := decide_eq_true h5
              have hb : may = true := hm.2 ⟨h1, h2, h3, h4, h5⟩
              clear hm h1 h2 h3 h4 h5
              go_wp2_with fail
              go_meet
              exact ⟨by rw [hb], rfl⟩
            · have d5 : decide (fr < 64) = false := decide_eq_false h5
              have hb : may = false := by cases may with | false => rfl | true => exact absurd (hm.1 rfl).2.2.2.2 h5
              clear hm h1 h2 h3 h4 h5
              go_wp2_with fail
              go_meet
              exact ⟨by rw [hb], rfl⟩
          · have d4 : decide (0 ≤ fr) = false := decide_eq_false h4
            have hb : may = false := by cases may with | false => rfl | true => exact absurd (hm.1 rfl).2.2.2.1 h4
            clear hm h1 h2 h3 h4
            go_wp2_with fail
            go_meet
            exact ⟨by rw [hb], rfl⟩
        · have d3 : (s == 1) = false := by rw [beq_eq_false_iff_ne]; exact h3
          have hb : may = false := by cases may with | false => rfl | true => exact absurd (hm.1 rfl).2.2.1 h3
          clear hm h1 h2
          go_wp2_with fail
          go_meet
          exact ⟨by rw [hb], rfl⟩
      · have d2 : decide (n < 64) = false := decide_eq_false h2
        have hb : may = false := by cases may with | false => rfl | true => exact absurd (hm.1 rfl).2.1 h2
        clear hm h1 h2
        go_wp2_with fail
        go_meet
        exact ⟨by rw [hb], rfl⟩
    · have d1 : decide (0 ≤ n) = false := decide_eq_false h1
      have hb : may = false := by cases may with | false => rfl | true => exact absurd (hm.1 rfl).1 h1
      clear hm h1
      go_wp2_with fail
      go_meet
      exact ⟨by rw [hb], rfl⟩
  case rest =>
    obtain ⟨rfl, rfl⟩ := hcut
    cases may with
    | false =>
      have hbad : ¬ (0 ≤ n ∧ n < 64 ∧ s = 1 ∧ 0 ≤ fr ∧ fr < 64) := fun h => by have := MAY.out.2 h; cases this
      clear MAY
      go_wp2_with fail
      refine (raise_bad (w.heap.size + 1) n i s fr now nodes base hbad).mono ?_
      rintro e W2 ⟨rfl, hk2⟩
      have Q2 := Lib.hid (Q1.out.keep0 hk2)
      have K2 := Lib.hid (K1.out.step hk2)
      clear hk2 hbad
      go_wp2_with fail
      refine (all_any Q2.out (by simp)).mono ?_
      rintro e W8 ⟨v, L8, rfl, hA⟩
      have e8 : L8 = [] := hA.perm.eq_nil
      subst e8
      obtain ⟨A8, c8, rfl, _, _⟩ := hA.row
      have K8 := Lib.hid (K2.out.step hA.keep)
      clear hA
      go_wp2_with fail
      refine (shown10 _).mono ?_
      rintro e W9 ⟨rfl, hk9⟩
      have K9 := Lib.hid (K8.out.step hk9)
      clear hk9
      go_wp2
      go_ret
      exact ⟨rfl, K9.out⟩
    | true =>
      obtain ⟨hn0, hn1, rfl, hf0, hf1⟩ := MAY.out.1 rfl
      obtain ⟨k, rfl⟩ : ∃ k : Nat, fr = (k : Int) := ⟨fr.toNat, by omega⟩
      have hk63 : k ≤ 63 := by omega
      clear MAY hf0 hf1
      go_wp2_with fail
      refine (raise_new Q1.out WT.out n i k now ⟨hn0, hn1⟩ hk63 HI.out (by simp)).mono ?_
      rintro e W2 ⟨rfl, ⟨B, t, ⟨_, ht0, ht1⟩, hq, hB⟩, hk2⟩
      have hge := sat_ge HI.out.2 ht0
      have hq' : IsQ W2 (w.heap.size + 1) (some B) [⟨n, i, 1, (2 : Int) ^ k, now, 0, sat now t⟩] := hq
      have hBs : w.heap.size + 2 ≤ B := by
        rcases hB with h | ⟨_, h⟩
        · cases h
        · have := S1.out; omega
      have hkq := hk2.old X1.out (by rintro (h | h) <;> first | omega | cases h)
      have Q2 := Lib.hid hq'
      have X2 := Lib.hid hkq
      have K2 := Lib.hid (Keep.drop K1.out hk2 (by omega) (fun B h => by cases h))
      have HBS := Lib.hid hBs
      generalize hu : sat now t = u at *
      clear hq hq' hB hk2 hkq hu ht0 ht1 hBs c0 c1 c2
      go_wp2_with fail
      refine (all_any Q2.out (by simp)).mono ?_
      rintro e W4 ⟨v, L, rfl, hA⟩
      obtain ⟨g, c, rfl, hg, hdr, hk4⟩ := all_one hA
      have Q4 : Hid (IsQ W4.drew (w.heap.size + 1) (some B) [⟨n, i, 1, (2 : Int) ^ k, now, 0, u⟩]) := Lib.hid (Q2.out.keep0 hk4.drew)
      have x4 := hk4.old X2.out id
      have K4 := Lib.hid (K2.out.step hk4).drew
      have hgB : g ≠ B := by have := Q2.out.blt; omega
      have y0 : W4.drew.cell? ⟨w.heap.size, 0, none⟩ = some (.int .i64 n) := by show W4.cell? _ = _; simp [World.cell?, x4]
      have y1 : W4.drew.cell? ⟨w.heap.size, 1, none⟩ = some (.int .u64 i) := by show W4.cell? _ = _; simp [World.cell?, x4]
      have y2 : W4.drew.cell? ⟨w.heap.size, 2, none⟩ = some (.int .i64 1) := by show W4.cell? _ = _; simp [World.cell?, x4]
      have hd5 := hdr.keep ((Keep.refl (fun _ => False) W4).drew) id
      have r0 := hd5 0 (by simp) 0 (by omega)
      have r1 := hd5 0 (by simp) 1 (by omega)
      have r2 := hd5 0 (by simp) 2 (by omega)
      have r3 := hd5 0 (by simp) 3 (by omega)
      have r6 := hd5 0 (by simp) 6 (by omega)
      simp only [db, dbC, List.getD_cons_zero, Nat.zero_mul, Nat.zero_add, List.getElem?_cons_zero, List.getElem?_cons_succ] at r0 r1 r2 r3 r6
      have heq := fun W => eq34 W n i 1
      have e1 := pow_u64 k hk63
      have t3 : ((2 : Int) ^ k == (2 : Int) ^ k) = true := by simp
      have t4 : decide (now ≤ u) = true := decide_eq_true hge
      clear hA hk4 hdr hg hd5 x4 Q2 K2 X2
      go_upto_region 7 with fail
      have p0 := y0
      have p1 := y1
      have p2 := y2
      have p3 := r0
      have p4 := r1
      have p5 := r2
      have p6 := r3
      have p7 := r6
      go_region_held3 (fun W => W.cell? ⟨w.heap.size, 0, none⟩ = some (.int .i64 n) ∧ W.cell? ⟨w.heap.size, 1, none⟩ = some (.int .u64 i) ∧ W.cell? ⟨w.heap.size, 2, none⟩ = some (.int .i64 1) ∧ W.cell? ⟨g, 0, none⟩ = some (.int .i64 n) ∧ W.cell? ⟨g, 1, none⟩ = some (.int .u64 i) ∧ W.cell? ⟨g, 2, none⟩ = some (.int .i64 1) ∧ W.cell? ⟨g, 3, none⟩ = some (.int .u64 ((2 : Int) ^ k)) ∧ W.cell? ⟨g, 6, none⟩ = some (.int .u64 u)) (go_keep) (first
        | (go_at_call 11; refine (drop_any Q4.out n).mono ?_; rintro e w6 ⟨b, rfl, hd6⟩; obtain rfl : b = true := hd6.was.2 ⟨_, List.mem_singleton.2 rfl, rfl⟩; have Q6 : Hid (IsQ w6 (w.heap.size + 1) (some B) []) := Lib.hid (by have := hd6.que; simpa using this); have K6 : Hid (Keep (fun _ => False) w w6) := Lib.hid (Keep.drop K4.out (Keep.qs (q := w.heap.size + 1) hd6.keep) (by omega) (fun B' h => by injection h with h; have := HBS.out; omega)); have a0 := keepB_cell hd6.keep p0 (by have := HBS.out; omega); have a1 := keepB_cell hd6.keep p1 (by have := HBS.out; omega); have a2 := keepB_cell hd6.keep p2 (by have := HBS.out; omega); have a3 := keepB_cell hd6.keep p3 hgB; have a4 := keepB_cell hd6.keep p4 hgB; have a5 := keepB_cell hd6.keep p5 hgB; have a6 := keepB_cell hd6.keep p6 hgB; have a7 := keepB_cell hd6.keep p7 hgB; clear hd6)
        | (go_at_call 11; refine (drop_any Q6.out n).mono ?_; rintro e w7 ⟨b, rfl, hd7⟩; obtain rfl : b = false := (by cases b with | false => rfl | true => obtain ⟨_, hx, _⟩ := hd7.was.1 rfl; exact absurd hx (by simp)); have K7 : Hid (Keep (fun _ => False) w w7) := Lib.hid (Keep.drop K6.out (Keep.qs (q := w.heap.size + 1) hd7.keep) (by omega) (fun B' h => by injection h with h; have := HBS.out; omega)); have b0 := keepB_cell hd7.keep a0 (by have := HBS.out; omega); have b1 := keepB_cell hd7.keep a1 (by have := HBS.out; omega); have b2 := keepB_cell hd7.keep a2 (by have := HBS.out; omega); have b3 := keepB_cell hd7.keep a3 hgB; have b4 := keepB_cell hd7.keep a4 hgB; have b5 := keepB_cell hd7.keep a5 hgB; have b6 := keepB_cell hd7.keep a6 hgB; have b7 := keepB_cell hd7.keep a7 hgB; clear hd7)
        | (go_at_call 8; refine (shown10 _).mono ?_; rintro e w8 ⟨rfl, hk8⟩; have K8 := Lib.hid (K7.out.step hk8); have c0 := hk8.cell b0; have c1 := hk8.cell b1; have c2 := hk8.cell b2; have c3 := hk8.cell b3; have c4 := hk8.cell b4; have c5 := hk8.cell b5; have c6 := hk8.cell b6; have c7 := hk8.cell b7; clear hk8))
      all_goals
        go_wp2
        go_ret
        exact ⟨rfl, K8.out⟩

theorem wf_u64 {n : Int} (h : (Lit.int .u64 n).wf = true) : 0 ≤ n ∧ n < 18446744073709551616 := by
  simp [Lit.wf, IntKind.min, IntKind.max, IntKind.bits, IntKind.signed] at h
  omega
theorem wf_i64 {n : Int} (h : (Lit.int .i64 n).wf = true) : -9223372036854775808 ≤ n ∧ n < 9223372036854775808 := by
  simp [Lit.wf, IntKind.min, IntKind.max, IntKind.bits, IntKind.signed] at h
  omega
theorem args_row (a0b a0c a0d a1 a2 a3 : Int) (a4 : Nat) (w0b : (Lit.int .i64 a0b).wf = true) (w0c : (Lit.int .u64 a0c).wf = true) (w0d : (Lit.int .i64 a0d).wf = true) (w1 : (Lit.int .i64 a1).wf = true) (w2 : (Lit.int .u64 a2).wf = true) (w3 : (Lit.int .i64 a3).wf = true) (w4 : (Lit.float .f64 a4).wf = true) (w : World) :
    Calls Try.prog 7 #[.agg #[.int .i64 a0b, .int .u64 a0c, .int .i64 a0d], .int .i64 a1, .int .u64 a2, .int .i64 a3, .float .f64 a4] w fun e w' => e = .returned (.bool true) ∧ Below w.heap.size w w' :=
  (args_law a0b a0c a0d a1 a2 a3 a4 (wf_u64 w2) (wf_i64 w3) w).mono fun _ _ ⟨h1, h2⟩ => ⟨h1, h2.below⟩

end Go.Proofs.Ytojnmbpicmgcpaa
