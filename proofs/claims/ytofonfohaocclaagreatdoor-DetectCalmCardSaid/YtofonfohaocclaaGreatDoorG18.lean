/- Bands of the program: bit, Has, Many (the ones of a word, as OnesCount64 counts them, are its bits that are set), With, Less. Walks of the bands' functions, for any node: bit, Has, With, Less, Many, List. -/
import Derived.Test.YtofonfohaocclaaGreatDoorG17
import Derived.Test.YtofonfohaocclaaGreatDoorG16
import Derived.Laws.BitsLemmas
import Derived.Test.YtofonfohaocclaaGreatDoorG15
import Derived.Test.YtofonfohaocclaaGreatDoorG07
import Derived.Laws.BitsAllLaws
namespace Go.Proofs.YtofonfohaocclaaGreatDoor.B
open Go.RowKit Sh
set_option linter.unusedVariables false

theorem bit_any (n : Int) (w : World) : Calls Tryz.prog 90 #[.int .i64 n] w fun e w' => e = .returned (.int .u64 (bitP n)) ∧ w' = w := by
  by_cases h0 : 0 ≤ n
  · by_cases h1 : n ≤ 63
    · obtain ⟨k, rfl⟩ : ∃ k : Nat, n = k := ⟨n.toNat, by omega⟩
      have d1 : decide ((k : Int) < 0) = false := decide_eq_false (by omega)
      have d2 : decide ((63 : Int) < (k : Int)) = false := decide_eq_false (by omega)
      have d3 : ¬ (63 : Int) < (k : Int) := by omega
      have e1 := pow_u64 k (by omega)
      have eb : bitP (k : Int) = (2 : Int) ^ k := by simp [bitP, h1]
      rw [eb]
      go_enter Tryz.func90, Tryz.ntmps90
      go_wp2
      go_ret
      exact ⟨rfl, rfl⟩
    · have d1 : decide (n < 0) = false := decide_eq_false (by omega)
      have d2 : decide ((63 : Int) < n) = true := decide_eq_true (by omega)
      have eb : bitP n = 0 := by simp [bitP, h1]
      rw [eb]
      go_enter Tryz.func90, Tryz.ntmps90
      go_wp2
      go_ret
      exact ⟨rfl, rfl⟩
  · have d1 : decide (n < 0) = true := decide_eq_true (by omega)
    have eb : bitP n = 0 := by simp [bitP, h0]
    rw [eb]
    go_enter Tryz.func90, Tryz.ntmps90
    go_wp2
    go_ret
    exact ⟨rfl, rfl⟩
theorem has_any (b n : Int) (w : World) : Calls Tryz.prog 72 #[.int .u64 b, .int .i64 n] w fun e w' => e = .returned (.bool (hasP b n)) ∧ w' = w := by
  go_enter Tryz.func72, Tryz.ntmps72
  go_wp2_with fail
  refine (bit_any n _).mono ?_
  rintro e w' ⟨rfl, rfl⟩
  go_wp2
  go_ret
  exact ⟨rfl, rfl⟩
def pop1 (x : Int) : Int := IntKind.u64.wrap (bits BinOp.and IntKind.u64 (x / 2) 6148914691236517205 + bits BinOp.and IntKind.u64 x 6148914691236517205)
def pop2 (x : Int) : Int := IntKind.u64.wrap (bits BinOp.and IntKind.u64 (x / 4) 3689348814741910323 + bits BinOp.and IntKind.u64 x 3689348814741910323)
def pop3 (x : Int) : Int := bits BinOp.and IntKind.u64 (IntKind.u64.wrap (x / 16 + x)) 1085102592571150095
def pop4 (x : Int) : Int := IntKind.u64.wrap (x + x / 256)
def pop5 (x : Int) : Int := IntKind.u64.wrap (x + x / 65536)
def pop6 (x : Int) : Int := IntKind.u64.wrap (x + x / 4294967296)
def popP (x : Int) : Int := bits BinOp.and IntKind.i64 (wrap64 (pop6 (pop5 (pop4 (pop3 (pop2 (pop1 x))))))) 127
theorem ones_any (x : Int) (w : World) : Calls Tryz.prog 153 #[.int .u64 x] w fun e w' => e = .returned (.int .i64 (popP x)) ∧ w' = w := by
  go_enter Tryz.func153, Tryz.ntmps153
  go_wp2
  go_ret
  refine ⟨?_, rfl⟩
  congr 1
theorem many_any (x : Int) (w : World) : Calls Tryz.prog 125 #[.int .u64 x] w fun e w' => e = .returned (.int .i64 (popP x)) ∧ w' = w := by
  go_enter Tryz.func125, Tryz.ntmps125
  go_wp2_with fail
  refine (ones_any x _).mono ?_
  rintro e w' ⟨rfl, rfl⟩
  go_wp2
  go_ret
  exact ⟨rfl, rfl⟩
/-- Digits of 2^w each, put together. -/
def val (w : Nat) : List Nat → Nat
  | [] => 0
  | d :: l => 2 ^ w * val w l + d
def msk (w m : Nat) : Nat → Nat
  | 0 => 0
  | n + 1 => 2 ^ w * msk w m n + m
def halves (w : Nat) : List Nat → List Nat
  | [] => []
  | d :: l => (d / 2 ^ w + d % 2 ^ w) :: halves w l
theorem and_low (x w : Nat) : x &&& (2 ^ w - 1) = x % 2 ^ w := Nat.and_two_pow_sub_one_eq_mod x w
theorem step_val (w : Nat) (hw : 0 < w) : ∀ (l : List Nat), (∀ d ∈ l, d < 2 ^ (2 * w)) →
    (val (2 * w) l / 2 ^ w &&& msk (2 * w) (2 ^ w - 1) l.length) + (val (2 * w) l &&& msk (2 * w) (2 ^ w - 1) l.length) = val (2 * w) (halves w l)
  | [], _ => by simp [val, halves, msk]
  | d :: l, h => by
    have hd := h d (by simp)
    have ih := step_val w hw l fun e he => h e (by simp [he])
    have hp : 0 < 2 ^ w := Nat.two_pow_pos w
    have hpp : 2 ^ (2 * w) = 2 ^ w * 2 ^ w := by rw [Nat.two_mul, Nat.pow_add]
    have hm : 2 ^ w - 1 < 2 ^ (2 * w) := by
      have : 2 ^ w ≤ 2 ^ (2 * w) := Nat.pow_le_pow_right (by omega) (by omega)
      omega
    simp only [val, halves, msk, List.length_cons]
    rw [and_join _ _ _ _ _ hd hm]
    have e1 : (2 ^ (2 * w) * val (2 * w) l + d) / 2 ^ w = 2 ^ (2 * w) * (val (2 * w) l / 2 ^ w) + (2 ^ w * (val (2 * w) l % 2 ^ w) + d / 2 ^ w) := by
      rw [hpp, Nat.mul_assoc, Nat.mul_add_div hp]
      have := Nat.div_add_mod (val (2 * w) l) (2 ^ w)
      conv => lhs; rw [← this]
      rw [Nat.mul_add, ← Nat.mul_assoc, Nat.add_assoc]
    have hq : d / 2 ^ w < 2 ^ w := by rw [Nat.div_lt_iff_lt_mul hp, ← hpp]; exact hd
    have hb : 2 ^ w * (val (2 * w) l % 2 ^ w) + d / 2 ^ w < 2 ^ (2 * w) := by
      have hr := Nat.mod_lt (val (2 * w) l) hp
      rw [hpp]
      have h3 : 2 ^ w * (val (2 * w) l % 2 ^ w) ≤ 2 ^ w * (2 ^ w - 1) := Nat.mul_le_mul_left _ (by omega)
      rw [Nat.mul_sub, Nat.mul_one] at h3
      have h4 : 2 ^ w ≤ 2 ^ w * 2 ^ w := Nat.le_mul_of_pos_left _ hp
      omega
    rw [e1, and_join _ _ _ _ _ hb hm, and_low, and_low, Nat.mul_add_mod, Nat.mod_eq_of_lt hq, ← ih, Nat.mul_add]
    omega
def pairs (w : Nat) : List Nat → List Nat
  | a :: b :: l => (2 ^ w * b + a) :: pairs w l
  | _ => []
def adds : List Nat → List Nat
  | a :: b :: l => (a + b) :: adds l
  | _ => []
def bitsOf : Nat → Nat → List Nat
  | 0, _ => []
  | n + 1, x => x % 2 :: bitsOf n (x / 2)
def sumL : List Nat → Nat
  | [] => 0
  | a :: l => a + sumL l
theorem val_bits : ∀ (n x : Nat), x < 2 ^ n → val 1 (bitsOf n x) = x
  | 0, x, h => by simp at h; simp [bitsOf, val, h]
  | n + 1, x, h => by
    rw [bitsOf, val, val_bits n (x / 2) (by rw [Nat.pow_succ] at h; omega)]
    omega
theorem bits_len : ∀ (n x : Nat), (bitsOf n x).length = n
  | 0, _ => rfl
  | n + 1, x => by simp [bitsOf, bits_len n]
theorem bits_lt : ∀ (n x : Nat), ∀ d ∈ bitsOf n x, d ≤ 1
  | 0, _ => by simp [bitsOf]
  | n + 1, x => by
    intro d hd
    rcases List.mem_cons.1 hd with rfl | h
    · omega
    · exact bits_lt n _ d h
theorem pairs_spec (w B : Nat) (hB : B < 2 ^ w) : ∀ (n : Nat) (l : List Nat), l.length = 2 * n → (∀ d ∈ l, d ≤ B) →
    val (2 * w) (pairs w l) = val w l ∧ (pairs w l).length = n ∧ (∀ d ∈ pairs w l, d < 2 ^ (2 * w)) ∧ halves w (pairs w l) = adds l ∧ (adds l).length = n ∧ (∀ d ∈ adds l, d ≤ 2 * B) ∧ sumL (adds l) = sumL l
  | 0, l, h, _ => by
    obtain rfl : l = [] := List.eq_nil_of_length_eq_zero (by omega)
    simp [pairs, val, halves, adds]
  | n + 1, [], h, _ => by simp at h
  | n + 1, [a], h, _ => by simp at h; omega
  | n + 1, a :: b :: l, h, hd => by
    obtain ⟨h1, h2, h3, h4, h5, h6, h7⟩ := pairs_spec w B hB n l (by simp at h; omega) fun d hd' => hd d (by simp [hd'])
    have ha := hd a (by simp)
    have hb := hd b (by simp)
    have hp : 0 < 2 ^ w := Nat.two_pow_pos w
    have hpp : 2 ^ (2 * w) = 2 ^ w * 2 ^ w := by rw [Nat.two_mul, Nat.pow_add]
    refine ⟨?_, by simp [pairs, h2], ?_, ?_, by simp [adds, h5], ?_, ?_⟩
    · simp only [pairs, val, h1]
      rw [Nat.two_mul, Nat.pow_add, Nat.mul_add, Nat.mul_assoc, Nat.add_assoc]
    · intro d hd'
      rcases List.mem_cons.1 hd' with rfl | h'
      · rw [hpp]
        have h3 : 2 ^ w * b ≤ 2 ^ w * (2 ^ w - 1) := Nat.mul_le_mul_left _ (by omega)
        rw [Nat.mul_sub, Nat.mul_one] at h3
        have h4 : 2 ^ w ≤ 2 ^ w * 2 ^ w := Nat.le_mul_of_pos_left _ hp
        omega
      · exact h3 d h'
    · simp only [pairs, halves, adds, h4]
      rw [Nat.mul_add_div hp, Nat.div_eq_of_lt (show a < 2 ^ w by omega), Nat.mul_add_mod, Nat.mod_eq_of_lt (show a < 2 ^ w by omega)]
      congr 1
      omega
    · intro d hd'
      rcases List.mem_cons.1 hd' with rfl | h'
      · omega
      · exact h6 d h'
    · simp only [adds, sumL, h7]; omega
/-- One step of the counting: neighbours are put together. -/
theorem pop_step (w B n : Nat) (hw : 0 < w) (hB : B < 2 ^ w) (l : List Nat) (hl : l.length = 2 * n) (hd : ∀ d ∈ l, d ≤ B) :
    (val w l / 2 ^ w &&& msk (2 * w) (2 ^ w - 1) n) + (val w l &&& msk (2 * w) (2 ^ w - 1) n) = val (2 * w) (adds l) ∧ (adds l).length = n ∧ (∀ d ∈ adds l, d ≤ 2 * B) ∧ sumL (adds l) = sumL l := by
  obtain ⟨h1, h2, h3, h4, h5, h6, h7⟩ := pairs_spec w B hB n l hl hd
  have := step_val w hw (pairs w l) h3
  rw [h1, h2, h4] at this
  exact ⟨this, h5, h6, h7⟩
theorem val_and (w m : Nat) : ∀ (l : List Nat), m < 2 ^ w → (∀ d ∈ l, d < 2 ^ w) → val w l &&& msk w m l.length = val w (l.map (· &&& m))
  | [], _, _ => by simp [val, msk]
  | d :: l, hm, h => by
    simp only [val, msk, List.length_cons, List.map_cons]
    rw [and_join _ _ _ _ _ (h d (by simp)) hm, val_and w m l hm fun e he => h e (by simp [he])]
theorem list16 {α : Type} {l : List α} (h : l.length = 16) : ∃ a b c d e f g i j k m n o p q r, l = [a, b, c, d, e, f, g, i, j, k, m, n, o, p, q, r] := by
  match l, h with
  | [a, b, c, d, e, f, g, i, j, k, m, n, o, p, q, r], _ => exact ⟨a, b, c, d, e, f, g, i, j, k, m, n, o, p, q, r, rfl⟩
def cntN : Nat → Nat → Nat
  | 0, _ => 0
  | n + 1, x => x % 2 + cntN n (x / 2)
theorem sum_bits : ∀ (n x : Nat), sumL (bitsOf n x) = cntN n x
  | 0, _ => rfl
  | n + 1, x => by rw [bitsOf, sumL, sum_bits n, cntN]
theorem div_hi (B a r : Nat) (h : a < B) : (a + B * r) / B = r := by
  rw [Nat.add_mul_div_left _ _ (by omega), Nat.div_eq_of_lt h, Nat.zero_add]
def by8 (c0 c1 c2 c3 c4 c5 c6 c7 : Nat) : Nat := c0 + 256 * c1 + 65536 * c2 + 16777216 * c3 + 4294967296 * c4 + 1099511627776 * c5 + 281474976710656 * c6 + 72057594037927936 * c7
theorem by8_1 (c0 c1 c2 c3 c4 c5 c6 c7 : Nat) (h0 : c0 ≤ 8) (h1 : c1 ≤ 8) (h2 : c2 ≤ 8) (h3 : c3 ≤ 8) (h4 : c4 ≤ 8) (h5 : c5 ≤ 8) (h6 : c6 ≤ 8) (h7 : c7 ≤ 8) :
    (by8 c0 c1 c2 c3 c4 c5 c6 c7 + by8 c0 c1 c2 c3 c4 c5 c6 c7 / 256) % 18446744073709551616 = by8 (c0 + c1) (c1 + c2) (c2 + c3) (c3 + c4) (c4 + c5) (c5 + c6) (c6 + c7) c7 := by
  have x1 : by8 c0 c1 c2 c3 c4 c5 c6 c7 / 256 = by8 c1 c2 c3 c4 c5 c6 c7 0 := by
    rw [show by8 c0 c1 c2 c3 c4 c5 c6 c7 = c0 + 256 * by8 c1 c2 c3 c4 c5 c6 c7 0 by unfold by8; omega]
    exact div_hi _ _ _ (by omega)
  rw [x1]
  have e : by8 c0 c1 c2 c3 c4 c5 c6 c7 + by8 c1 c2 c3 c4 c5 c6 c7 0 = by8 (c0 + c1) (c1 + c2) (c2 + c3) (c3 + c4) (c4 + c5) (c5 + c6) (c6 + c7) c7 := by unfold by8; omega
  rw [e]
  exact Nat.mod_eq_of_lt (by unfold by8; omega)
theorem by8_2 (c0 c1 c2 c3 c4 c5 c6 c7 : Nat) (h0 : c0 ≤ 16) (h1 : c1 ≤ 16) (h2 : c2 ≤ 16) (h3 : c3 ≤ 16) (h4 : c4 ≤ 16) (h5 : c5 ≤ 16) (h6 : c6 ≤ 16) (h7 : c7 ≤ 8) :
    (by8 c0 c1 c2 c3 c4 c5 c6 c7 + by8 c0 c1 c2 c3 c4 c5 c6 c7 / 65536) % 18446744073709551616 = by8 (c0 + c2) (c1 + c3) (c2 + c4) (c3 + c5) (c4 + c6) (c5 + c7) c6 c7 := by
  have x1 : by8 c0 c1 c2 c3 c4 c5 c6 c7 / 65536 = by8 c2 c3 c4 c5 c6 c7 0 0 := by
    rw [show by8 c0 c1 c2 c3 c4 c5 c6 c7 = (c0 + 256 * c1) + 65536 * by8 c2 c3 c4 c5 c6 c7 0 0 by unfold by8; omega]
    exact div_hi _ _ _ (by omega)
  rw [x1]
  have e : by8 c0 c1 c2 c3 c4 c5 c6 c7 + by8 c2 c3 c4 c5 c6 c7 0 0 = by8 (c0 + c2) (c1 + c3) (c2 + c4) (c3 + c5) (c4 + c6) (c5 + c7) c6 c7 := by unfold by8; omega
  rw [e]
  exact Nat.mod_eq_of_lt (by unfold by8; omega)
theorem by8_3 (c0 c1 c2 c3 c4 c5 c6 c7 : Nat) (h0 : c0 ≤ 32) (h1 : c1 ≤ 32) (h2 : c2 ≤ 32) (h3 : c3 ≤ 32) (h4 : c4 ≤ 32) (h5 : c5 ≤ 32) (h6 : c6 ≤ 16) (h7 : c7 ≤ 8) :
    (by8 c0 c1 c2 c3 c4 c5 c6 c7 + by8 c0 c1 c2 c3 c4 c5 c6 c7 / 4294967296) % 18446744073709551616 = by8 (c0 + c4) (c1 + c5) (c2 + c6) (c3 + c7) c4 c5 c6 c7 := by
  have x1 : by8 c0 c1 c2 c3 c4 c5 c6 c7 / 4294967296 = by8 c4 c5 c6 c7 0 0 0 0 := by
    rw [show by8 c0 c1 c2 c3 c4 c5 c6 c7 = (c0 + 256 * c1 + 65536 * c2 + 16777216 * c3) + 4294967296 * by8 c4 c5 c6 c7 0 0 0 0 by unfold by8; omega]
    exact div_hi _ _ _ (by omega)
  rw [x1]
  have e : by8 c0 c1 c2 c3 c4 c5 c6 c7 + by8 c4 c5 c6 c7 0 0 0 0 = by8 (c0 + c4) (c1 + c5) (c2 + c6) (c3 + c7) c4 c5 c6 c7 := by unfold by8; omega
  rw [e]
  exact Nat.mod_eq_of_lt (by unfold by8; omega)
theorem by8_low (c0 c1 c2 c3 c4 c5 c6 c7 : Nat) (h0 : c0 ≤ 64) (h7 : c7 ≤ 8) (h1 : c1 ≤ 64) (h2 : c2 ≤ 64) (h3 : c3 ≤ 64) (h4 : c4 ≤ 64) (h5 : c5 ≤ 64) (h6 : c6 ≤ 64) : by8 c0 c1 c2 c3 c4 c5 c6 c7 % 128 = c0 ∧ by8 c0 c1 c2 c3 c4 c5 c6 c7 < 9223372036854775808 := by
  refine ⟨?_, by unfold by8; omega⟩
  rw [show by8 c0 c1 c2 c3 c4 c5 c6 c7 = c0 + 128 * (2 * by8 c1 c2 c3 c4 c5 c6 c7 0) by unfold by8; omega, Nat.add_mul_mod_self_left]
  exact Nat.mod_eq_of_lt (by omega)
set_option maxRecDepth 100000 in
theorem pop3_nat (l : List Nat) (hl : l.length = 16) (hd : ∀ d ∈ l, d ≤ 4) : ∃ c0 c1 c2 c3 c4 c5 c6 c7 : Nat, (val 4 l / 16 + val 4 l) % 18446744073709551616 &&& 1085102592571150095 = by8 c0 c1 c2 c3 c4 c5 c6 c7 ∧
    c0 + c1 + c2 + c3 + c4 + c5 + c6 + c7 = sumL l ∧ c0 ≤ 8 ∧ c1 ≤ 8 ∧ c2 ≤ 8 ∧ c3 ≤ 8 ∧ c4 ≤ 8 ∧ c5 ≤ 8 ∧ c6 ≤ 8 ∧ c7 ≤ 8 := by
  obtain ⟨a, b, c, d, e, f, g, i, j, k, m, n, o, p, q, r, rfl⟩ := list16 hl
  simp only [List.mem_cons, List.not_mem_nil, or_false, forall_eq_or_imp, forall_eq] at hd
  obtain ⟨h1, h2, h3, h4, h5, h6, h7, h8, h9, h10, h11, h12, h13, h14, h15, h16⟩ := hd
  have he : (val 4 [a, b, c, d, e, f, g, i, j, k, m, n, o, p, q, r] / 16 + val 4 [a, b, c, d, e, f, g, i, j, k, m, n, o, p, q, r]) % 18446744073709551616 =
      val 8 [(a + b) + 16 * (b + c), (c + d) + 16 * (d + e), (e + f) + 16 * (f + g), (g + i) + 16 * (i + j), (j + k) + 16 * (k + m), (m + n) + 16 * (n + o), (o + p) + 16 * (p + q), (q + r) + 16 * r] := by
    simp only [val]
    omega
  have hv := val_and 8 15 [(a + b) + 16 * (b + c), (c + d) + 16 * (d + e), (e + f) + 16 * (f + g), (g + i) + 16 * (i + j), (j + k) + 16 * (k + m), (m + n) + 16 * (n + o), (o + p) + 16 * (p + q), (q + r) + 16 * r] (by decide) (by
    simp only [List.mem_cons, List.not_mem_nil, or_false, forall_eq_or_imp, forall_eq]
    omega)
  have hk : msk 8 15 8 = 1085102592571150095 := by decide +kernel
  simp only [List.length_cons, List.length_nil] at hv
  rw [show 0 + 1 + 1 + 1 + 1 + 1 + 1 + 1 + 1 = 8 from rfl, hk] at hv
  rw [he, hv]
  have m15 : ∀ x, x &&& 15 = x % 16 := fun x => and_low x 4
  refine ⟨a + b, c + d, e + f, g + i, j + k, m + n, o + p, q + r, ?_, by simp only [sumL]; omega, by omega, by omega, by omega, by omega, by omega, by omega, by omega, by omega⟩
  have md : ∀ x y : Nat, x ≤ 8 → (x + 16 * y) % 16 = x := fun x y h => by omega
  simp only [List.map_cons, List.map_nil, m15]
  rw [md _ _ (by omega), md _ _ (by omega), md _ _ (by omega), md _ _ (by omega), md _ _ (by omega), md _ _ (by omega), md _ _ (by omega), show (q + r + 16 * r) % 16 = q + r from md _ _ (by omega)]
  simp only [val, by8]
  omega
theorem wrap_nat (n : Nat) : IntKind.u64.wrap (n : Int) = ((n % 18446744073709551616 : Nat) : Int) := by rw [IntKind.wrap_u64]; omega
theorem mask7 (v : Nat) (h : v < 9223372036854775808) : bits BinOp.and IntKind.i64 (v : Int) 127 = ((v % 128 : Nat) : Int) := by
  have e2 := bits_mask .i64 63 (by decide) (fun n h0 h1 => by rw [IntKind.wrap_i64]; omega) 7 (by omega) (v : Int) (by omega) (by omega)
  rw [show (127 : Int) = 2 ^ 7 - 1 by decide, e2]
  omega
theorem pop1_nat (x z : Nat) (hx : x < 18446744073709551616) (h : (x / 2 ^ 1 &&& 6148914691236517205) + (x &&& 6148914691236517205) = z) : pop1 (x : Int) = (z : Int) ∧ z < 18446744073709551616 := by
  have q1 : x / 2 ^ 1 &&& 6148914691236517205 ≤ 6148914691236517205 := Nat.and_le_right
  have q2 : x &&& 6148914691236517205 ≤ 6148914691236517205 := Nat.and_le_right
  have hz : z < 18446744073709551616 := by omega
  refine ⟨?_, hz⟩
  unfold pop1
  rw [show ((x : Int) / 2) = ((x / 2 ^ 1 : Nat) : Int) by omega]
  rw [show (6148914691236517205 : Int) = ((6148914691236517205 : Nat) : Int) from rfl, bits_and_u64_nat _ _ (by omega) (by omega), bits_and_u64_nat _ _ (by omega) (by omega), ← Int.natCast_add, wrap_nat, h, Nat.mod_eq_of_lt hz]
theorem pop2_nat (x z : Nat) (hx : x < 18446744073709551616) (h : (x / 2 ^ 2 &&& 3689348814741910323) + (x &&& 3689348814741910323) = z) : pop2 (x : Int) = (z : Int) ∧ z < 18446744073709551616 := by
  have q1 : x / 2 ^ 2 &&& 3689348814741910323 ≤ 3689348814741910323 := Nat.and_le_right
  have q2 : x &&& 3689348814741910323 ≤ 3689348814741910323 := Nat.and_le_right
  have hz : z < 18446744073709551616 := by omega
  refine ⟨?_, hz⟩
  unfold pop2
  rw [show ((x : Int) / 4) = ((x / 2 ^ 2 : Nat) : Int) by omega]
  rw [show (3689348814741910323 : Int) = ((3689348814741910323 : Nat) : Int) from rfl, bits_and_u64_nat _ _ (by omega) (by omega), bits_and_u64_nat _ _ (by omega) (by omega), ← Int.natCast_add, wrap_nat, h, Nat.mod_eq_of_lt hz]
theorem pop3_int (x z : Nat) (h : (x / 16 + x) % 18446744073709551616 &&& 1085102592571150095 = z) : pop3 (x : Int) = (z : Int) := by
  unfold pop3
  rw [show ((x : Int) / 16 + x) = ((x / 16 + x : Nat) : Int) by omega, wrap_nat]
  rw [show (1085102592571150095 : Int) = ((1085102592571150095 : Nat) : Int) from rfl, bits_and_u64_nat _ _ (by omega) (by omega), h]
theorem pop4_int (x z : Nat) (h : (x + x / 256) % 18446744073709551616 = z) : pop4 (x : Int) = (z : Int) := by
  unfold pop4
  rw [show ((x : Int) + x / 256) = ((x + x / 256 : Nat) : Int) by omega, wrap_nat, h]
theorem pop5_int (x z : Nat) (h : (x + x / 65536) % 18446744073709551616 = z) : pop5 (x : Int) = (z : Int) := by
  unfold pop5
  rw [show ((x : Int) + x / 65536) = ((x + x / 65536 : Nat) : Int) by omega, wrap_nat, h]
theorem pop6_int (x z : Nat) (h : (x + x / 4294967296) % 18446744073709551616 = z) : pop6 (x : Int) = (z : Int) := by
  unfold pop6
  rw [show ((x : Int) + x / 4294967296) = ((x + x / 4294967296 : Nat) : Int) by omega, wrap_nat, h]
theorem pop_nat (x : Nat) (hx : x < 18446744073709551616) : popP (x : Int) = (cntN 64 x : Int) := by
  have hv := val_bits 64 x hx
  obtain ⟨a1, a2, a3, a4⟩ := pop_step 1 1 32 (by omega) (by omega) (bitsOf 64 x) (bits_len 64 x) (bits_lt 64 x)
  obtain ⟨b1, b2, b3, b4⟩ := pop_step 2 2 16 (by omega) (by omega) _ a2 a3
  rw [hv] at a1
  have m1 : msk (2 * 1) (2 ^ 1 - 1) 32 = 6148914691236517205 := by decide +kernel
  have m2 : msk (2 * 2) (2 ^ 2 - 1) 16 = 3689348814741910323 := by decide +kernel
  rw [m1] at a1
  rw [m2] at b1
  obtain ⟨s1, l1⟩ := pop1_nat x _ hx a1
  obtain ⟨s2, l2⟩ := pop2_nat _ _ l1 b1
  obtain ⟨c0, c1, c2, c3, c4, c5, c6, c7, hc, hs, h0, h1, h2, h3, h4, h5, h6, h7⟩ := pop3_nat _ b2 b3
  have s3 := pop3_int _ _ hc
  have s4 := pop4_int _ _ (by8_1 c0 c1 c2 c3 c4 c5 c6 c7 h0 h1 h2 h3 h4 h5 h6 h7)
  have s5 := pop5_int _ _ (by8_2 (c0 + c1) (c1 + c2) (c2 + c3) (c3 + c4) (c4 + c5) (c5 + c6) (c6 + c7) c7 (by omega) (by omega) (by omega) (by omega) (by omega) (by omega) (by omega) (by omega))
  have s6 := pop6_int _ _ (by8_3 (c0 + c1 + (c2 + c3)) (c1 + c2 + (c3 + c4)) (c2 + c3 + (c4 + c5)) (c3 + c4 + (c5 + c6)) (c4 + c5 + (c6 + c7)) (c5 + c6 + c7) (c6 + c7) c7 (by omega) (by omega) (by omega) (by omega) (by omega) (by omega) (by omega) (by omega))
  obtain ⟨hL, hL2⟩ := by8_low (c0 + c1 + (c2 + c3) + (c4 + c5 + (c6 + c7))) (c1 + c2 + (c3 + c4) + (c5 + c6 + c7)) (c2 + c3 + (c4 + c5) + (c6 + c7)) (c3 + c4 + (c5 + c6) + c7) (c4 + c5 + (c6 + c7)) (c5 + c6 + c7) (c6 + c7) c7 (by omega) (by omega) (by omega) (by omega) (by omega) (by omega) (by omega) (by omega)
  unfold popP
  rw [s1, s2]
  rw [show pop3 ((val (2 * 2) (adds (adds (bitsOf 64 x))) : Nat) : Int) = _ from s3, s4, s5, s6, IntWalk.wrap64_in _ ⟨by omega, by omega⟩, mask7 _ hL2, hL]
  rw [show c0 + c1 + (c2 + c3) + (c4 + c5 + (c6 + c7)) = c0 + c1 + c2 + c3 + c4 + c5 + c6 + c7 by omega, hs, b4, a4, sum_bits]

end Go.Proofs.YtofonfohaocclaaGreatDoor.B

namespace Go.Proofs.YtofonfohaocclaaGreatDoor
open Go.RowKit Sh
open Go.ChangeMaps (setBlock)
set_option linter.unusedVariables false

theorem bitN_lt (n : Int) : bitN n < 18446744073709551616 := by
  unfold bitN
  split
  · have h1 : (2 : Nat) ^ n.toNat ≤ 2 ^ 63 := Nat.pow_le_pow_right (by omega) (by omega)
    omega
  · omega
theorem bit_all (n : Int) (w : World) : Calls Tryz.prog 90 #[.int .i64 n] w fun e w' => e = .returned (.int .u64 (bitN n : Nat)) ∧ w = w' := by
  by_cases h : 0 ≤ n ∧ n < 64
  · obtain ⟨k, rfl⟩ : ∃ k : Nat, n = (k : Int) := ⟨n.toNat, by omega⟩
    have e : ((bitN (k : Int) : Nat) : Int) = (2 : Int) ^ k := by
      unfold bitN
      rw [if_pos h]
      push_cast
      rfl
    rw [e]
    exact D.bit_any k (by omega) w
  · have e : bitN n = 0 := if_neg h
    rw [e]
    by_cases h0 : n < 0
    · have d1 : decide (n < 0) = true := decide_eq_true h0
      clear e
      go_enter Tryz.func90, Tryz.ntmps90
      go_wp2
      go_ret
      exact ⟨rfl, rfl⟩
    · have d1 : decide (n < 0) = false := decide_eq_false h0
      have d2 : decide (63 < n) = true := decide_eq_true (by omega)
      clear e
      go_enter Tryz.func90, Tryz.ntmps90
      go_wp2
      go_ret
      exact ⟨rfl, rfl⟩
theorem bHas_ne (b : Nat) (n : Int) : (((b &&& bitN n : Nat) : Int) != 0) = bHas b n := by
  unfold bHas bitN
  by_cases h : 0 ≤ n ∧ n < 64
  · rw [if_pos h, decide_eq_true h, Bool.true_and, Bool.eq_iff_iff, bne_iff_ne, ← D.and_pow_ne]
    omega
  · rw [if_neg h, decide_eq_false h]; simp
theorem has_all (b : Nat) (n : Int) (hb : b < 18446744073709551616) (w : World) : Calls Tryz.prog 72 #[.int .u64 (b : Int), .int .i64 n] w fun e w' => e = .returned (.bool (bHas b n)) ∧ w = w' := by
  have e1 : bits BinOp.and IntKind.u64 (b : Int) (bitN n : Nat) = ((b &&& bitN n : Nat) : Int) := bits_and_u64_nat b _ hb (bitN_lt n)
  have e2 := bHas_ne b n
  have HB := Lib.hid (fun W => bit_all n W)
  clear hb
  generalize bitN n = p at *
  generalize (b &&& p) = r at *
  generalize bHas b n = x at *
  go_enter Tryz.func72, Tryz.ntmps72
  go_wp2_with fail
  refine (HB.out _).mono ?_
  rintro e w' ⟨rfl, rfl⟩
  go_wp2
  go_ret
  exact ⟨by rw [← e2]; rfl, rfl⟩
theorem with_all (b : Nat) (n : Int) (hb : b < 18446744073709551616) (w : World) : Calls Tryz.prog 43 #[.int .u64 (b : Int), .int .i64 n] w fun e w' => e = .returned (.int .u64 ((bWith b n : Nat) : Int)) ∧ w = w' := by
  have e1 : bits BinOp.or IntKind.u64 (b : Int) (bitN n : Nat) = ((b ||| bitN n : Nat) : Int) := bits_or_u64_nat b _ hb (bitN_lt n)
  have HB := Lib.hid (fun W => bit_all n W)
  clear hb
  unfold bWith
  generalize bitN n = p at *
  generalize (b ||| p) = r at *
  go_enter Tryz.func43, Tryz.ntmps43
  go_wp2_with fail
  refine (HB.out _).mono ?_
  rintro e w' ⟨rfl, rfl⟩
  go_wp2
  go_ret
  exact ⟨rfl, rfl⟩
theorem less_all (b : Nat) (n : Int) (hb : b < 18446744073709551616) (w : World) : Calls Tryz.prog 81 #[.int .u64 (b : Int), .int .i64 n] w fun e w' => e = .returned (.int .u64 ((bLess b n : Nat) : Int)) ∧ w = w' := by
  have e1 : bits BinOp.andNot IntKind.u64 (b : Int) (bitN n : Nat) = ((b &&& (18446744073709551615 - bitN n) : Nat) : Int) := u64_andNot_nat b _ hb (bitN_lt n)
  have HB := Lib.hid (fun W => bit_all n W)
  clear hb
  unfold bLess
  generalize bitN n = p at *
  generalize (b &&& (18446744073709551615 - p)) = r at *
  go_enter Tryz.func81, Tryz.ntmps81
  go_wp2_with fail
  refine (HB.out _).mono ?_
  rintro e w' ⟨rfl, rfl⟩
  go_wp2
  go_ret
  exact ⟨rfl, rfl⟩
theorem cntN_len : ∀ (n x : Nat), B.cntN n x = ((List.range n).filter fun k => x.testBit k).length
  | 0, _ => rfl
  | n + 1, x => by
    rw [B.cntN, cntN_len n (x / 2), List.range_succ_eq_map, List.filter_cons]
    have e : ((List.map Nat.succ (List.range n)).filter fun k => x.testBit k).length = ((List.range n).filter fun k => (x / 2).testBit k).length := by
      rw [List.filter_map, List.length_map]
      congr 1
      refine List.filter_congr fun k _ => ?_
      simp [Function.comp, Nat.testBit_succ]
    by_cases h : x % 2 = 1
    · have : x.testBit 0 = true := by rw [Nat.testBit_zero]; simpa using h
      rw [if_pos this, List.length_cons, e]; omega
    · have : ¬ x.testBit 0 = true := by rw [Nat.testBit_zero]; simpa using h
      rw [if_neg this, e]; omega
theorem many_all (b : Nat) (hb : b < 18446744073709551616) (w : World) : Calls Tryz.prog 125 #[.int .u64 (b : Int)] w fun e w' => e = .returned (.int .i64 ((bMany b : Nat) : Int)) ∧ w = w' := by
  have e1 : B.popP (b : Int) = ((bMany b : Nat) : Int) := by rw [B.pop_nat b hb, cntN_len]; rfl
  have HB := Lib.hid (fun W => B.ones_any (b : Int) W)
  rw [e1] at HB
  clear e1 hb
  generalize bMany b = r at *
  go_enter Tryz.func125, Tryz.ntmps125
  go_wp2_with fail
  refine (HB.out _).mono ?_
  rintro e w' ⟨rfl, rfl⟩
  go_wp2
  go_ret
  exact ⟨rfl, rfl⟩
theorem bNat_gs (b : Nat) (hb : b < 18446744073709551616) : (B.gs b 64).map (·.1) = bNat b := by
  rw [B.gs_list b hb 64 (by omega)]
  unfold B.listP bNat
  refine List.filter_congr fun n hn => ?_
  exact B.hasP_nat b n hb (by simpa using hn)
theorem nC_ints (b : Nat) (hb : b < 18446744073709551616) : B.nC (B.gs b 64) = intsC (bList b) := by
  rw [B.nC_natC, bNat_gs b hb]
  simp [B.natC, intsC, bList, List.map_map, Function.comp]
theorem bList_len (b : Nat) : (bList b).length = bMany b := by simp [bList, bMany]
theorem bMany_le (b : Nat) : bMany b ≤ 64 := by
  have := List.length_filter_le (fun n => b.testBit n) (List.range 64)
  simpa [bMany, bNat] using this
theorem list_all (b : Nat) (hb : b < 18446744073709551616) (w : World) (hT : TabAt 0 B.tabS w) :
    Calls Tryz.prog 44 #[.int .u64 (b : Int)] w fun e w' => ∃ v, e = .returned v ∧ w'.ownsRow (w.heap.size + 2) 3 1 v (bList b).length (intsC (bList b)) ∧ Keep (fun _ => False) w w' := by
  have h0 : 0 < w.heap.size := World.block_lt_of_cell? w _ (hT 0 (by decide))
  refine (B.list_any b hb w hT h0).mono ?_
  rintro e w' ⟨v, rfl, h1, h2⟩
  refine ⟨v, rfl, ?_, h2⟩
  rw [nC_ints b hb] at h1
  have : (B.gs b 64).length = (bList b).length := by rw [bList_len, bMany, ← bNat_gs b hb, List.length_map]
  rw [← this]
  exact h1
end Go.Proofs.YtofonfohaocclaaGreatDoor
