/- The law SpanMay, walked. -/
import Derived.Test.YtkbmggclecimeaaSpanH
namespace Go.Proofs.Ytkbmggclecimeaa
open Go.RowKit Sh
set_option linter.unusedVariables false

theorem three_new (w : World) (A B C : Obj) : Keep (fun _ => False) w (((w.alloc A).alloc B).alloc C) ∧ (((w.alloc A).alloc B).alloc C).heap[w.heap.size]? = some A ∧ (((w.alloc A).alloc B).alloc C).heap[w.heap.size + 1]? = some B ∧ (((w.alloc A).alloc B).alloc C).heap[w.heap.size + 2]? = some C := by
  have e1 : (w.alloc A).heap.size = w.heap.size + 1 := by simp
  have e2 : ((w.alloc A).alloc B).heap.size = w.heap.size + 2 := by simp
  have h1 := heap_alloc_new (w.alloc A) B
  have h2 := heap_alloc_new ((w.alloc A).alloc B) C
  rw [e1] at h1
  rw [e2] at h2
  exact ⟨(((Keep.refl _ w).alloc _).alloc _).alloc _, (((Keep.refl (fun _ => False) (w.alloc A)).alloc B).alloc C).old (heap_alloc_new w A) (fun h => h), ((Keep.refl (fun _ => False) ((w.alloc A).alloc B)).alloc C).old h1 (fun h => h), h2⟩

set_option maxRecDepth 100000 in
set_option maxHeartbeats 4000000 in
theorem mayLaw_walk (a0 a1 b0 b1 : Int) (h0 : 0 ≤ a0 ∧ a0 < 18446744073709551616) (h1 : 0 ≤ a1 ∧ a1 < 18446744073709551616) (h2 : 0 ≤ b0 ∧ b0 < 18446744073709551616) (h3 : 0 ≤ b1 ∧ b1 < 18446744073709551616) (w : World) :
    Calls Try.prog 11 #[.agg #[.int .u64 a0, .int .u64 a1], .agg #[.int .u64 b0, .int .u64 b1]] w fun e w' => e = .returned (.bool true) ∧ Keep (fun _ => False) w w' := by
  have HR := Lib.hid (rng2 h0 h1 h2 h3)
  have HO := Lib.hid (@ok2 a0 a1 b0 b1)
  have HM := Lib.hid (fun n => @mem2 a0 a1 b0 b1 n)
  obtain ⟨p, hp⟩ : ∃ p, p = okB [⟨a0, a1⟩, ⟨b0, b1⟩] := ⟨_, rfl⟩
  have HP := Lib.hid hp
  clear hp
  go_enter Try.func11, Try.ntmps11
  go_upto_region 2 with fail
  go_cut [6] (fun v wx => v = .bool p ∧ Keep (fun _ => False) w wx ∧ wx.heap[w.heap.size]? = some (.cells #[.int .u64 a0, .int .u64 a1] 46 (0, 0)) ∧ wx.heap[w.heap.size + 1]? = some (.cells #[.int .u64 b0, .int .u64 b1] 46 (0, 0)) ∧ wx.heap[w.heap.size + 2]? = some (.cells #[.int .u64 a0, .int .u64 a1, .int .u64 b0, .int .u64 b1] 46 (0, 0)))
  case first =>
    have fin : Hid (Keep (fun _ => False) w (((w.alloc (.cells #[.int .u64 a0, .int .u64 a1] 46)).alloc (.cells #[.int .u64 b0, .int .u64 b1] 46)).alloc (.cells #[.int .u64 a0, .int .u64 a1, .int .u64 b0, .int .u64 b1] 46)) ∧ (((w.alloc (.cells #[.int .u64 a0, .int .u64 a1] 46)).alloc (.cells #[.int .u64 b0, .int .u64 b1] 46)).alloc (.cells #[.int .u64 a0, .int .u64 a1, .int .u64 b0, .int .u64 b1] 46)).heap[w.heap.size]? = some (.cells #[.int .u64 a0, .int .u64 a1] 46 (0, 0)) ∧ (((w.alloc (.cells #[.int .u64 a0, .int .u64 a1] 46)).alloc (.cells #[.int .u64 b0, .int .u64 b1] 46)).alloc (.cells #[.int .u64 a0, .int .u64 a1, .int .u64 b0, .int .u64 b1] 46)).heap[w.heap.size + 1]? = some (.cells #[.int .u64 b0, .int .u64 b1] 46 (0, 0)) ∧ (((w.alloc (.cells #[.int .u64 a0, .int .u64 a1] 46)).alloc (.cells #[.int .u64 b0, .int .u64 b1] 46)).alloc (.cells #[.int .u64 a0, .int .u64 a1, .int .u64 b0, .int .u64 b1] 46)).heap[w.heap.size + 2]? = some (.cells #[.int .u64 a0, .int .u64 a1, .int .u64 b0, .int .u64 b1] 46 (0, 0))) :=
      three_new w _ _ _
    by_cases c0 : a0 ≤ a1
    · have d0 : decide (a0 ≤ a1) = true := decide_eq_true c0
      by_cases c1 : b0 ≤ b1
      · have d1 : decide (b0 ≤ b1) = true := decide_eq_true c1
        by_cases c2 : b1 < 18446744073709551615
        · have d2 : decide (b1 < 18446744073709551615) = true := decide_eq_true c2
          by_cases c3 : a1 < 18446744073709551614
          · have d3 : decide (a1 < 18446744073709551614) = true := decide_eq_true c3
            have e1 : IntKind.u64.wrap (a1 + 1) = a1 + 1 := by rw [IntKind.wrap_u64]; omega
            by_cases c4 : a1 + 1 < b0
            · have d4 : decide (a1 + 1 < b0) = true := decide_eq_true c4
              obtain rfl : p = true := by rw [HP.out]; exact okB_true (HO.out.2 ⟨c0, c1, c2, c3, c4⟩)
              go_wp2
              go_meet
              exact ⟨rfl, fin.out⟩
            · have d4 : decide (a1 + 1 < b0) = false := decide_eq_false c4
              obtain rfl : p = false := by rw [HP.out]; exact okB_false (fun h => by have := HO.out.1 h; omega)
              go_wp2
              go_meet
              exact ⟨rfl, fin.out⟩
          · have d3 : decide (a1 < 18446744073709551614) = false := decide_eq_false c3
            obtain rfl : p = false := by rw [HP.out]; exact okB_false (fun h => by have := HO.out.1 h; omega)
            go_wp2
            go_meet
            exact ⟨rfl, fin.out⟩
        · have d2 : decide (b1 < 18446744073709551615) = false := decide_eq_false c2
          obtain rfl : p = false := by rw [HP.out]; exact okB_false (fun h => by have := HO.out.1 h; omega)
          go_wp2
          go_meet
          exact ⟨rfl, fin.out⟩
      · have d1 : decide (b0 ≤ b1) = false := decide_eq_false c1
        obtain rfl : p = false := by rw [HP.out]; exact okB_false (fun h => by have := HO.out.1 h; omega)
        go_wp2
        go_meet
        exact ⟨rfl, fin.out⟩
    · have d0 : decide (a0 ≤ a1) = false := decide_eq_false c0
      obtain rfl : p = false := by rw [HP.out]; exact okB_false (fun h => by have := HO.out.1 h; omega)
      go_wp2
      go_meet
      exact ⟨rfl, fin.out⟩
  case rest =>
    obtain ⟨rfl, hk, g0, g1, g2⟩ := hcut
    have HL := Lib.hid (isL2 g2)
    have HK := Lib.hid hk
    have c0 : wc.cell? ⟨w.heap.size, 0, none⟩ = some (.int .u64 a0) := by simp [World.cell?, g0]
    have c1 : wc.cell? ⟨w.heap.size, 1, none⟩ = some (.int .u64 a1) := by simp [World.cell?, g0]
    have c2 : wc.cell? ⟨w.heap.size + 1, 0, none⟩ = some (.int .u64 b0) := by simp [World.cell?, g1]
    have c3 : wc.cell? ⟨w.heap.size + 1, 1, none⟩ = some (.int .u64 b1) := by simp [World.cell?, g1]
    have C0 := Lib.hid c0
    have C1 := Lib.hid c1
    have C2 := Lib.hid c2
    have C3 := Lib.hid c3
    clear hk g0 g1 g2 c0 c1 c2 c3
    by_cases hO : Ok [⟨a0, a1⟩, ⟨b0, b1⟩]
    · obtain rfl : p = true := by rw [HP.out]; exact okB_true hO
      have hi := HO.out.1 hO
      have HH := Lib.hid hO
      clear hO
      go_wp2_with fail
      refine (may_any _ _ _ HL.out HR.out).mono ?_
      rintro e w1 ⟨rfl, hk1⟩
      rw [← HP.out]
      have HK1 := Lib.hid hk1
      clear hk1
      go_wp2_with fail
      refine (shown12 w1).mono ?_
      rintro e w2 ⟨rfl, hk2⟩
      have HK2 := Lib.hid (HK1.out.step hk2)
      clear hk2
      have c0 := HK2.out.cell C0.out
      go_wp2_with fail
      refine (has_span _ _ a0 _ (HL.out.keep HK2.out) HR.out).mono ?_
      rintro e w3 ⟨rfl, hk3⟩
      have HK3 := Lib.hid (HK2.out.step hk3)
      clear hk3 c0
      rw [hasLB_true ⟨HH.out, (HM.out a0).2 (.inl ⟨by omega, by omega⟩)⟩]
      have c3 := HK3.out.cell C3.out
      go_wp2_with fail
      refine (has_span _ _ b1 _ (HL.out.keep HK3.out) HR.out).mono ?_
      rintro e w4 ⟨rfl, hk4⟩
      have HK4 := Lib.hid (HK3.out.step hk4)
      clear hk4 c3
      rw [hasLB_true ⟨HH.out, (HM.out b1).2 (.inr ⟨by omega, by omega⟩)⟩]
      have c1 := HK4.out.cell C1.out
      have e1 : IntKind.u64.wrap (a1 + 1) = a1 + 1 := by rw [IntKind.wrap_u64]; omega
      go_wp2_with fail
      refine (has_span _ _ (a1 + 1) _ (HL.out.keep HK4.out) HR.out).mono ?_
      rintro e w5 ⟨rfl, hk5⟩
      have HK5 := Lib.hid (HK4.out.step hk5)
      clear hk5 c1
      rw [hasLB_false (fun h => by have := (HM.out (a1 + 1)).1 h.2; omega)]
      go_wp2
      go_ret
      exact ⟨rfl, HK.out.step HK5.out⟩
    · obtain rfl : p = false := by rw [HP.out]; exact okB_false hO
      have HH := Lib.hid hO
      clear hO
      go_wp2_with fail
      refine (may_any _ _ _ HL.out HR.out).mono ?_
      rintro e w1 ⟨rfl, hk1⟩
      rw [← HP.out]
      have HK1 := Lib.hid hk1
      clear hk1
      go_wp2_with fail
      refine (shown12 w1).mono ?_
      rintro e w2 ⟨rfl, hk2⟩
      have HK2 := Lib.hid (HK1.out.step hk2)
      clear hk2
      have c0 := HK2.out.cell C0.out
      go_wp2_with fail
      refine (has_span _ _ a0 _ (HL.out.keep HK2.out) HR.out).mono ?_
      rintro e w3 ⟨rfl, hk3⟩
      have HK3 := Lib.hid (HK2.out.step hk3)
      clear hk3 c0
      rw [hasLB_false (fun h => HH.out h.1)]
      go_wp2_with fail
      refine (many_any _ _ _ (HL.out.keep HK3.out) HR.out).mono ?_
      rintro e w4 ⟨rfl, hk4⟩
      have HK4 := Lib.hid (HK3.out.step hk4)
      clear hk4
      rw [show manyL [⟨a0, a1⟩, ⟨b0, b1⟩] = 0 by rw [manyL, if_neg (by rw [okB_false HH.out]; simp)]]
      go_wp2_with fail
      refine (join_not (HL.out.keep HK4.out) HR.out HH.out).mono ?_
      rintro e w5 ⟨rfl, hk5⟩
      have HK5 := Lib.hid (HK4.out.step hk5)
      clear hk5
      go_wp2_with fail
      refine (minus_not (HL.out.keep HK5.out) HR.out HH.out).mono ?_
      rintro e w6 ⟨rfl, hk6⟩
      have HK6 := Lib.hid (HK5.out.step hk6)
      clear hk6
      have c0 := HK6.out.cell C0.out
      go_wp2_with fail
      refine (reach_span _ _ a0 _ (HL.out.keep HK6.out) HR.out h0.1 h0.2).mono ?_
      rintro e w7 ⟨⟨r, rfl, hr⟩, hk7⟩
      have HK7 := Lib.hid (HK6.out.step hk7)
      clear hk7 c0
      obtain rfl : r = 0 := by
        rcases hr with h | h | h
        · exact h.2
        · exact absurd h.1 HH.out
        · exact absurd h.1 HH.out
      clear hr
      go_wp2_with fail
      refine (first_not 9 (HL.out.keep HK7.out) HR.out HH.out).mono ?_
      rintro e w8 ⟨rfl, hk8⟩
      have HK8 := Lib.hid (HK7.out.step hk8)
      clear hk8
      go_wp2
      go_ret
      exact ⟨rfl, HK.out.step HK8.out⟩

end Go.Proofs.Ytkbmggclecimeaa
