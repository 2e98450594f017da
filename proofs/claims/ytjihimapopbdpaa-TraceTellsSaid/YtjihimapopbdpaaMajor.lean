/- The document's majority is the program's. -/
import Derived.Test.YtjihimapopbdpaaRBand
import Derived.Laws.BitsAllLaws
namespace Go.Proofs.Ytjihimapopbdpaa
open Go.RowKit Sh
open Go.ChangeMaps (setBlock)
set_option linter.unusedVariables false

theorem hasP_nat (B n : Nat) (hB : B < 18446744073709551616) (hn : n < 64) : hasP (B : Int) (n : Int) = B.testBit n := by
  have hb : bitP (n : Int) = ((2 ^ n : Nat) : Int) := by
    rw [bitP, if_pos ⟨by omega, by omega⟩]
    push_cast
    rfl
  have hp : (2 : Nat) ^ n ≤ 2 ^ 63 := Nat.pow_le_pow_right (by omega) (by omega)
  unfold hasP
  rw [hb, bits_and_u64_nat B (2 ^ n) (by omega) (by omega)]
  have := and_pow_ne B n
  cases h : B.testBit n
  · rw [h] at this
    have h2 : B &&& 2 ^ n = 0 := by
      by_cases z : B &&& 2 ^ n = 0
      · exact z
      · exact absurd (this.1 z) (by simp)
    rw [h2]; rfl
  · have h2 := this.2 h
    simp only [bne_iff_ne, ne_eq]
    omega
def cb (X : Nat) : Nat → Nat
  | 0 => 0
  | k + 1 => cb X k + (X.testBit k).toNat
theorem cb_shift (X : Nat) : ∀ k, cb X (k + 1) = X % 2 + cb (X / 2) k
  | 0 => by
    simp only [cb, Nat.testBit_zero, Nat.zero_add, Nat.add_zero]
    rcases Nat.mod_two_eq_zero_or_one X with h | h <;> rw [h] <;> rfl
  | k + 1 => by
    rw [cb, cb_shift X k, cb, Nat.testBit_succ]
    omega
theorem cnt_cb : ∀ (k X : Nat), cntN k X = cb X k
  | 0, X => rfl
  | k + 1, X => by rw [cntN, cnt_cb k, cb_shift]
theorem list_cb (X : Nat) (hX : X < 18446744073709551616) : ∀ k, k ≤ 64 → (listP (X : Int) k).length = cb X k
  | 0, _ => rfl
  | k + 1, h => by
    rw [listP_succ, List.length_append, list_cb X hX k (by omega), cb, hasP_nat X k hX (by omega)]
    cases X.testBit k <;> rfl
theorem popP_list (X : Nat) (hX : X < 18446744073709551616) : popP (X : Int) = ((listP (X : Int) 64).length : Int) := by
  rw [pop_nat X hX, cnt_cb, list_cb X hX 64 (by omega)]
theorem bothP_nat (A B : Nat) (hA : A < 18446744073709551616) (hB : B < 18446744073709551616) : ∀ k, k ≤ 64 → ∃ C : Nat, bothP (A : Int) (B : Int) k = (C : Int) ∧ C < 18446744073709551616 ∧ ∀ i, C.testBit i = (decide (i < k) && A.testBit i && B.testBit i)
  | 0, _ => ⟨0, rfl, by decide, fun i => by simp⟩
  | k + 1, h => by
    obtain ⟨C, h1, h2, h3⟩ := bothP_nat A B hA hB k (by omega)
    rw [bothP, hasP_nat A k hA (by omega), hasP_nat B k hB (by omega), h1]
    by_cases c : (A.testBit k && B.testBit k) = true
    · rw [if_pos c]
      have hp : (2 : Nat) ^ k ≤ 2 ^ 63 := Nat.pow_le_pow_right (by omega) (by omega)
      refine ⟨C ||| 2 ^ k, ?_, ?_, fun i => ?_⟩
      · unfold withR
        rw [show ((2 : Int) ^ k) = ((2 ^ k : Nat) : Int) by push_cast; rfl, bits_or_u64_nat C (2 ^ k) h2 (by omega)]
      · exact Nat.or_lt_two_pow (n := 64) h2 (by omega)
      · rw [Nat.testBit_or, h3, Nat.testBit_two_pow]
        rw [Bool.and_eq_true] at c
        by_cases e : k = i
        · subst e; simp [c.1, c.2]
        · have e2 : (decide (i < k + 1)) = decide (i < k) := by
            rw [decide_eq_decide]; omega
          simp [e, e2]
    · rw [if_neg c]
      refine ⟨C, rfl, h2, fun i => ?_⟩
      rw [h3]
      by_cases e : i = k
      · subst e
        have c2 : (A.testBit i && B.testBit i) = false := by simpa using c
        rw [Bool.and_assoc, Bool.and_assoc, c2]
        simp
      · have e2 : (decide (i < k + 1)) = decide (i < k) := by
          rw [decide_eq_decide]; omega
        rw [e2]
theorem cb_le (X : Nat) : ∀ k, cb X k ≤ k
  | 0 => Nat.le_refl _
  | k + 1 => by have := cb_le X k; rw [cb]; cases X.testBit k <;> simp <;> omega
theorem cb_parts (X Y Z : Nat) (n : Nat) (h : ∀ i, i < n → (X.testBit i).toNat + (Y.testBit i).toNat = (Z.testBit i).toNat) : ∀ k, k ≤ n → cb X k + cb Y k = cb Z k
  | 0, _ => rfl
  | k + 1, hk => by
    have := cb_parts X Y Z n h k (by omega)
    have := h k (by omega)
    simp only [cb]
    omega
theorem cb_eq (X Y : Nat) (n : Nat) (h : ∀ i, i < n → X.testBit i = Y.testBit i) : ∀ k, k ≤ n → cb X k = cb Y k
  | 0, _ => rfl
  | k + 1, hk => by
    rw [cb, cb, cb_eq X Y n h k (by omega), h k (by omega)]
/-- The document's: twice so many as are in both. -/
def majorR (b f : Int) : Bool := decide (((listP f 64).length : Int) < 2 * ((listP (bothP b f 64) 64).length : Int))
theorem majorR_eq (b f : Int) (h0 : 0 ≤ b) (h1 : b < 18446744073709551616) (h2 : 0 ≤ f) (h3 : f < 18446744073709551616) : majorR b f = majorP b f := by
  obtain ⟨B, rfl⟩ : ∃ B : Nat, b = B := ⟨b.toNat, by omega⟩
  obtain ⟨F, rfl⟩ : ∃ F : Nat, f = F := ⟨f.toNat, by omega⟩
  have hB : B < 18446744073709551616 := by omega
  have hF : F < 18446744073709551616 := by omega
  obtain ⟨C, e1, e2, e3⟩ := bothP_nat B F hB hF 64 (by omega)
  have l1 : F &&& B < 18446744073709551616 := Nat.lt_of_le_of_lt Nat.and_le_left hF
  have l2 : F &&& (18446744073709551615 - B) < 18446744073709551616 := Nat.lt_of_le_of_lt Nat.and_le_left hF
  unfold majorR majorP
  rw [e1, bits_and_u64_nat B F hB hF, u64_andNot_nat F B hF hB, Nat.and_comm B F]
  rw [popP_list _ l1, popP_list _ l2, list_cb _ l1 64 (by omega), list_cb _ l2 64 (by omega), list_cb _ e2 64 (by omega), list_cb _ hF 64 (by omega)]
  have s1 : cb C 64 = cb (F &&& B) 64 := cb_eq C (F &&& B) 64 (fun i hi => by
    rw [e3, Nat.testBit_and]
    simp [hi, Bool.and_comm]) 64 (by omega)
  have s2 : cb (F &&& B) 64 + cb (F &&& (18446744073709551615 - B)) 64 = cb F 64 := cb_parts _ _ _ 64 (fun i hi => by
    rw [Nat.testBit_and, Nat.testBit_and]
    have : (18446744073709551615 - B).testBit i = !B.testBit i := by
      rw [show 18446744073709551615 - B = 2 ^ 64 - (B + 1) by omega, Nat.testBit_two_pow_sub_succ hB]
      simp [hi]
    rw [this]
    cases F.testBit i <;> cases B.testBit i <;> rfl) 64 (by omega)
  rw [decide_eq_decide]
  omega
set_option maxHeartbeats 1000000 in
theorem rmajor_any (b f : Int) (w : World) (h0 : 0 ≤ b) (h1 : b < 18446744073709551616) (h2 : 0 ≤ f) (h3 : f < 18446744073709551616) :
    Calls Try.prog 48 #[.int .u64 b, .int .u64 f] w fun e w' => e = .returned (.bool (majorP b f)) ∧ Keep (fun _ => False) w w' := by
  have HE := Lib.hid (majorR_eq b f h0 h1 h2 h3)
  have hC : 0 ≤ bothP b f 64 ∧ bothP b f 64 < 18446744073709551616 := by
    obtain ⟨B, rfl⟩ : ∃ B : Nat, b = B := ⟨b.toNat, by omega⟩
    obtain ⟨F, rfl⟩ : ∃ F : Nat, f = F := ⟨f.toNat, by omega⟩
    obtain ⟨C, e1, e2, e3⟩ := bothP_nat B F (by omega) (by omega) 64 (by omega)
    rw [e1]
    omega
  have HB := Lib.hid (rboth_any b f · h0 h1 h2 h3)
  have HM := Lib.hid (rmany_any (bothP b f 64) · hC.1 hC.2)
  have HF := Lib.hid (rmany_any f · h2 h3)
  have L1 := listP_le f 64
  have L2 := listP_le (bothP b f 64) 64
  have e2 : IntKind.i64.wrap (2 * ((listP (bothP b f 64) 64).length : Int)) = 2 * ((listP (bothP b f 64) 64).length : Int) := IntWalk.i64_in _ (by omega)
  clear h0 h1 h2 h3 hC
  go_enter Try.func48, Try.ntmps48
  go_wp2_with fail
  refine (HB.out _).mono ?_
  rintro e w' ⟨rfl, rfl⟩
  go_wp2_with fail
  refine (HM.out _).mono ?_
  rintro e w1 ⟨rfl, hk1⟩
  have HK1 := Lib.hid hk1
  clear hk1
  go_wp2_with fail
  refine (HF.out _).mono ?_
  rintro e w2 ⟨rfl, hk2⟩
  have HK2 := Lib.hid (HK1.out.step hk2)
  clear hk2
  go_wp2
  go_ret
  exact ⟨by rw [← HE.out]; rfl, HK2.out⟩
end Go.Proofs.Ytjihimapopbdpaa
