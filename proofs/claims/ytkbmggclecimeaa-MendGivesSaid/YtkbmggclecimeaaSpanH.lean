/- Join, Minus and First of spans that may not be; the law SpanMay, walked. -/
import Derived.Test.YtkbmggclecimeaaSpanG
namespace Go.Proofs.Ytkbmggclecimeaa
open Go.RowKit Sh
set_option linter.unusedVariables false

theorem join_not {w : World} {va vb : Value} {a : List Sp} (ha : IsL w va a) (ra : Rng a) (hn : ¬ Ok a) :
    Calls Try.prog 29 #[va, vb] w fun e w' => e = .returned (.slice none 0 0) ∧ Keep (fun _ => False) w w' := by
  have HA := Lib.hid ha
  have RA := Lib.hid ra
  have HN := Lib.hid (okB_false hn)
  clear ha ra hn
  go_enter Try.func29, Try.ntmps29
  go_wp2_with fail
  refine (may_any va a _ HA.out RA.out).mono ?_
  rintro e w1 ⟨rfl, hk1⟩
  rw [HN.out]
  have HK1 := Lib.hid hk1
  clear hk1
  go_wp2
  go_ret
  exact ⟨rfl, HK1.out⟩
theorem minus_not {w : World} {va vb : Value} {a : List Sp} (ha : IsL w va a) (ra : Rng a) (hn : ¬ Ok a) :
    Calls Try.prog 30 #[va, vb] w fun e w' => e = .returned (.slice none 0 0) ∧ Keep (fun _ => False) w w' := by
  have HA := Lib.hid ha
  have RA := Lib.hid ra
  have HN := Lib.hid (okB_false hn)
  clear ha ra hn
  go_enter Try.func30, Try.ntmps30
  go_wp2_with fail
  refine (may_any va a _ HA.out RA.out).mono ?_
  rintro e w1 ⟨rfl, hk1⟩
  rw [HN.out]
  have HK1 := Lib.hid hk1
  clear hk1
  go_wp2
  go_ret
  exact ⟨rfl, HK1.out⟩
theorem first_not {w : World} {va : Value} {a : List Sp} (n : Int) (ha : IsL w va a) (ra : Rng a) (hn : ¬ Ok a) :
    Calls Try.prog 41 #[va, .int .u64 n] w fun e w' => e = .returned (.slice none 0 0) ∧ Keep (fun _ => False) w w' := by
  have HA := Lib.hid ha
  have RA := Lib.hid ra
  have HN := Lib.hid (okB_false hn)
  clear ha ra hn
  go_enter Try.func41, Try.ntmps41
  go_wp2_with fail
  refine (may_any va a _ HA.out RA.out).mono ?_
  rintro e w1 ⟨rfl, hk1⟩
  rw [HN.out]
  have HK1 := Lib.hid hk1
  clear hk1
  go_wp2
  go_ret
  exact ⟨rfl, HK1.out⟩

theorem ok2 {a0 a1 b0 b1 : Int} : Ok [⟨a0, a1⟩, ⟨b0, b1⟩] ↔ (a0 ≤ a1 ∧ b0 ≤ b1 ∧ b1 < 18446744073709551615 ∧ a1 < 18446744073709551614 ∧ a1 + 1 < b0) := by
  constructor
  · intro h
    have h0 := h 0 (by simp)
    have h1 := h 1 (by simp)
    simp [sp] at h0 h1
    omega
  · intro h j hj
    rcases (by simp at hj; omega : j = 0 ∨ j = 1) with rfl | rfl
    · simp [sp]; omega
    · simp [sp]; omega
theorem rng2 {a0 a1 b0 b1 : Int} (h0 : 0 ≤ a0 ∧ a0 < 18446744073709551616) (h1 : 0 ≤ a1 ∧ a1 < 18446744073709551616) (h2 : 0 ≤ b0 ∧ b0 < 18446744073709551616) (h3 : 0 ≤ b1 ∧ b1 < 18446744073709551616) : Rng [⟨a0, a1⟩, ⟨b0, b1⟩] := by
  intro j hj
  rcases (by simp at hj; omega : j = 0 ∨ j = 1) with rfl | rfl
  · simp [sp]; omega
  · simp [sp]; omega
theorem isL2 {w : World} {b : Nat} {a0 a1 b0 b1 : Int} (h : w.heap[b]? = some (.cells #[.int .u64 a0, .int .u64 a1, .int .u64 b0, .int .u64 b1] 46 (0, 0))) : IsL w (.slice (some ⟨b, 0, none⟩) 2 2) [⟨a0, a1⟩, ⟨b0, b1⟩] := by
  refine ⟨some ⟨b, 0, none⟩, 2, rfl, by simp, by simp, fun _ => ⟨b, 0, rfl, fun i hi => ?_⟩⟩
  rcases (by simp at hi; omega : i = 0 ∨ i = 1) with rfl | rfl
  · simp [World.cell?, h, sp]
  · simp [World.cell?, h, sp]
theorem mem2 {a0 a1 b0 b1 n : Int} : mem [⟨a0, a1⟩, ⟨b0, b1⟩] n ↔ (a0 ≤ n ∧ n ≤ a1) ∨ (b0 ≤ n ∧ n ≤ b1) := by
  rw [mem_cons, mem_cons]
  constructor
  · rintro (g | g | g)
    · exact .inl g
    · exact .inr g
    · exact absurd g (mem_nil _)
  · rintro (g | g)
    · exact .inl g
    · exact .inr (.inl g)

end Go.Proofs.Ytkbmggclecimeaa
