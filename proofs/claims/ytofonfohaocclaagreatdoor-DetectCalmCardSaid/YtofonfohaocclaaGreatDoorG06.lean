/- Reals that are not below zero, as words: their order, sums, products, and how they are rounded: all rises with the words. Walks of real.Clean, real.Wait, real.Ticks: in words; the more tell, the less it waits. -/
import Ieee.Arith
import Derived.Test.YtofonfohaocclaaGreatDoorG02
namespace Go.Proofs.YtofonfohaocclaaGreatDoor.D
open Ieee
set_option linter.unusedVariables false

/-- n / 2^d, to the nearest, between two the even one. -/
def rhe (n d : Nat) : Nat := n / 2 ^ d + (decide (2 ^ d < 2 * (n % 2 ^ d)) || (2 ^ d == 2 * (n % 2 ^ d) && n / 2 ^ d % 2 == 1)).toNat
theorem lt_log (n : Nat) : n < 2 ^ (n.log2 + 1) := Nat.lt_log2_self
theorem log_le {n : Nat} (h : n ≠ 0) : 2 ^ n.log2 ≤ n := Nat.log2_self_le h
theorem cut_even (neg : Bool) (n d : Nat) : Toward.even.cut neg n d = rhe n d := by
  unfold Toward.cut rhe
  simp only [Nat.shiftLeft_eq, Nat.one_mul]
  by_cases h : d ≤ n.log2 + 2
  · rw [Nat.min_eq_left h]
  · rw [Nat.min_eq_right (by omega)]
    have h1 := lt_log n
    have e2 : 2 ^ (n.log2 + 2) = 2 ^ (n.log2 + 1) * 2 := Nat.pow_succ ..
    have h3 : 2 ^ (n.log2 + 2) ≤ 2 ^ d := Nat.pow_le_pow_right (by omega) (by omega)
    have a1 : n / 2 ^ (n.log2 + 2) = 0 := Nat.div_eq_of_lt (by omega)
    have a2 : n % 2 ^ (n.log2 + 2) = n := Nat.mod_eq_of_lt (by omega)
    have b1 : n / 2 ^ d = 0 := Nat.div_eq_of_lt (by omega)
    have b2 : n % 2 ^ d = n := Nat.mod_eq_of_lt (by omega)
    rw [a1, a2, b1, b2]
    have c1 : decide (2 ^ (n.log2 + 2) < 2 * n) = false := decide_eq_false (by omega)
    have c2 : decide (2 ^ d < 2 * n) = false := decide_eq_false (by omega)
    rw [c1, c2]
    simp
theorem rhe_scale (n d k : Nat) : rhe (n * 2 ^ k) (d + k) = rhe n d := by
  unfold rhe
  have hk : 0 < 2 ^ k := Nat.two_pow_pos k
  rw [Nat.pow_add, Nat.mul_div_mul_right _ _ hk, Nat.mul_mod_mul_right]
  have e1 : 2 * (n % 2 ^ d * 2 ^ k) = 2 * (n % 2 ^ d) * 2 ^ k := (Nat.mul_assoc ..).symm
  rw [e1]
  have e2 : decide (2 ^ d * 2 ^ k < 2 * (n % 2 ^ d) * 2 ^ k) = decide (2 ^ d < 2 * (n % 2 ^ d)) := by
    rw [decide_eq_decide]; exact Nat.mul_lt_mul_right hk
  have e3 : (2 ^ d * 2 ^ k == 2 * (n % 2 ^ d) * 2 ^ k) = (2 ^ d == 2 * (n % 2 ^ d)) := by
    rw [Bool.eq_iff_iff, beq_iff_eq, beq_iff_eq]
    exact ⟨fun h => Nat.eq_of_mul_eq_mul_right hk h, fun h => congrArg (· * 2 ^ k) h⟩
  rw [e2, e3]
theorem rhe_le (n d : Nat) : n / 2 ^ d ≤ rhe n d ∧ rhe n d ≤ n / 2 ^ d + 1 := by
  unfold rhe
  refine ⟨Nat.le_add_right _ _, Nat.add_le_add_left (Bool.toNat_le _) _⟩
theorem bool_le {a b : Bool} (h : a = true → b = true) : a.toNat ≤ b.toNat := by
  cases a <;> cases b <;> simp at *
theorem rhe_mono {n n' : Nat} (d : Nat) (h : n ≤ n') : rhe n d ≤ rhe n' d := by
  have h1 : n / 2 ^ d ≤ n' / 2 ^ d := Nat.div_le_div_right h
  by_cases c : n / 2 ^ d = n' / 2 ^ d
  · have m1 := Nat.div_add_mod n (2 ^ d)
    have m2 := Nat.div_add_mod n' (2 ^ d)
    rw [c] at m1
    have m3 : n % 2 ^ d ≤ n' % 2 ^ d := by omega
    unfold rhe
    rw [c]
    refine Nat.add_le_add_left ?_ _
    refine bool_le ?_
    intro hb
    simp only [Bool.or_eq_true, decide_eq_true_eq, Bool.and_eq_true, beq_iff_eq] at hb ⊢
    omega
  · have := (rhe_le n d).2
    have := (rhe_le n' d).1
    omega
theorem rhe_exact (n d : Nat) : rhe (n * 2 ^ d) d = n := by
  have := rhe_scale n 0 d
  rw [Nat.zero_add] at this
  rw [this]
  have e1 : n % 1 = 0 := Nat.mod_one n
  unfold rhe
  rw [Nat.pow_zero, e1, Nat.div_one]
  simp

theorem rhe_zero (d : Nat) : rhe 0 d = 0 := by
  have hp := Nat.two_pow_pos d
  unfold rhe
  rw [Nat.zero_div, Nat.zero_mod]
  have e1 : decide (2 ^ d < 2 * 0) = false := decide_eq_false (by omega)
  have e2 : (2 ^ d == 2 * 0) = false := by rw [beq_eq_false_iff_ne]; omega
  rw [e1, e2]
  rfl
/-- The rung nearest to N * 2^-3000. -/
def sh (N : Nat) : Nat := max (N.log2 - 52) 1926
def rungN (N : Nat) : Nat := (sh N - 1926) * 2 ^ 52 + rhe N (sh N)
theorem log2_mono {a b : Nat} (h : a ≤ b) : a.log2 ≤ b.log2 := by
  by_cases h0 : a = 0
  · subst h0; simp
  · have h1 := log_le h0
    have h2 := lt_log b
    have h3 : 2 ^ a.log2 < 2 ^ (b.log2 + 1) := by omega
    have := (Nat.pow_lt_pow_iff_right (by omega)).1 h3
    omega
theorem rungN_mono {N M : Nat} (h : N ≤ M) : rungN N ≤ rungN M := by
  have hl := log2_mono h
  have hs : sh N ≤ sh M := by unfold sh; omega
  unfold rungN
  by_cases c : sh N = sh M
  · rw [c]; exact Nat.add_le_add_left (rhe_mono _ h) _
  · have e1 : sh M = M.log2 - 52 ∧ 1926 < sh M := by unfold sh at *; omega
    have e2 : N.log2 ≤ sh N + 52 := by unfold sh; omega
    have m0 : M ≠ 0 := by rintro rfl; simp at e1; omega
    have a1 : N / 2 ^ sh N < 2 ^ 53 := by
      rw [Nat.div_lt_iff_lt_mul (Nat.two_pow_pos _), ← Nat.pow_add]
      exact Nat.lt_of_lt_of_le (lt_log N) (Nat.pow_le_pow_right (by omega) (by omega))
    have a2 : 2 ^ 52 ≤ M / 2 ^ sh M := by
      rw [Nat.le_div_iff_mul_le (Nat.two_pow_pos _), ← Nat.pow_add]
      exact Nat.le_trans (Nat.pow_le_pow_right (by omega) (by omega)) (log_le m0)
    have b1 := (rhe_le N (sh N)).2
    have b2 := (rhe_le M (sh M)).1
    have b0 : 1926 ≤ sh N := by unfold sh; omega
    have e3 : sh M - 1926 = (sh N - 1926) + 1 + (sh M - sh N - 1) := by omega
    rw [e3]
    omega
theorem rungN_zero : rungN 0 = 0 := by
  have h : sh 0 = 1926 := by unfold sh; rw [Nat.log2_zero]; omega
  unfold rungN
  rw [rhe_zero, h]
def INF : Nat := 9218868437227405312
/-- The word nearest to N * 2^-3000. -/
def wordN (N : Nat) : Nat := min (rungN N) INF
theorem wordN_mono {N M : Nat} (h : N ≤ M) : wordN N ≤ wordN M := by
  have := rungN_mono h
  unfold wordN
  omega
theorem log2_mul_pow {m : Nat} (h : m ≠ 0) (k : Nat) : (m * 2 ^ k).log2 = m.log2 + k := by
  have h0 : m * 2 ^ k ≠ 0 := Nat.mul_ne_zero h (by have := Nat.two_pow_pos k; omega)
  have h1 := log_le h
  have h2 := lt_log m
  have h3 := log_le h0
  have h4 := lt_log (m * 2 ^ k)
  have hk := Nat.two_pow_pos k
  have a : 2 ^ (m.log2 + k) ≤ m * 2 ^ k := by rw [Nat.pow_add]; exact Nat.mul_le_mul_right _ h1
  have b : m * 2 ^ k < 2 ^ (m.log2 + 1 + k) := by rw [Nat.pow_add]; exact Nat.mul_lt_mul_of_pos_right h2 hk
  have c : 2 ^ (m.log2 + k) < 2 ^ ((m * 2 ^ k).log2 + 1) := by omega
  have d : 2 ^ (m * 2 ^ k).log2 < 2 ^ (m.log2 + 1 + k) := by omega
  have := (Nat.pow_lt_pow_iff_right (by omega)).1 c
  have := (Nat.pow_lt_pow_iff_right (by omega)).1 d
  omega
theorem nearest_eq (m : Nat) (e : Int) (he : -3000 ≤ e) : double.nearest false m e = wordN (m * 2 ^ (e + 3000).toNat) := by
  by_cases h0 : m = 0
  · subst h0
    unfold Format.nearest Format.word wordN
    rw [if_pos rfl, Nat.zero_mul, rungN_zero, if_neg (by simp)]
    exact (Nat.zero_min _).symm
  · obtain ⟨E, hE⟩ : ∃ E : Nat, e = (E : Int) - 3000 := ⟨(e + 3000).toNat, by omega⟩
    subst hE
    have e0 : ((E : Int) - 3000 + 3000).toNat = E := by omega
    rw [e0]
    have l1 := log2_mul_pow h0 E
    have f1 : (double.fractionBits : Nat) = 52 := rfl
    have f2 : double.leastPlace = -1074 := by decide
    have f3 : double.binade = 2 ^ 52 := rfl
    have f4 : double.infRung = INF := by decide
    unfold Format.nearest Format.word
    rw [if_neg h0]
    simp only [Bool.false_eq_true, if_false, f1, f2, f3, f4]
    have hlast : max ((E : Int) - 3000 + (m.log2 : Int) - ((52 : Nat) : Int)) (-1074) = (sh (m * 2 ^ E) : Int) - 3000 := by
      unfold sh; rw [l1]; omega
    rw [hlast]
    generalize hs : sh (m * 2 ^ E) = s
    have s0 : 1926 ≤ s := by rw [← hs]; unfold sh; omega
    have q : ((s : Int) - 3000 - -1074).toNat = s - 1926 := by omega
    rw [q, cut_even, Nat.shiftLeft_eq]
    unfold wordN rungN
    rw [hs]
    congr 2
    by_cases c : s ≤ E
    · have t1 : ((E : Int) - 3000 - ((s : Int) - 3000)).toNat = E - s := by omega
      have t2 : ((s : Int) - 3000 - ((E : Int) - 3000)).toNat = 0 := by omega
      rw [t1, t2]
      have := rhe_scale (m * 2 ^ (E - s)) 0 s
      rw [Nat.zero_add, Nat.mul_assoc, ← Nat.pow_add, Nat.sub_add_cancel c] at this
      exact this.symm
    · have t1 : ((E : Int) - 3000 - ((s : Int) - 3000)).toNat = 0 := by omega
      have t2 : ((s : Int) - 3000 - ((E : Int) - 3000)).toNat = s - E := by omega
      rw [t1, t2]
      have := rhe_scale m (s - E) E
      rw [Nat.sub_add_cancel (by omega)] at this
      rw [Nat.pow_zero, Nat.mul_one]
      exact this.symm

/-- What the word x stands for, times 2^3000; x < INF. -/
def mg (x : Nat) : Nat := if x < 2 ^ 52 then x else 2 ^ 52 + x % 2 ^ 52
def pl (x : Nat) : Nat := if x < 2 ^ 52 then 0 else x / 2 ^ 52 - 1
def val (x : Nat) : Nat := mg x * 2 ^ (1926 + pl x)
theorem read_word {x : Nat} (h : x < INF) : double.read x = .number false (mg x) ((pl x : Int) - 1074) := by
  have f1 : double.signWeight = 9223372036854775808 := by decide
  have f2 : double.leastPlace = -1074 := by decide
  have f3 : double.binade = 2 ^ 52 := rfl
  have f4 : double.infRung = INF := by decide
  unfold INF at h
  have a1 : (x / 9223372036854775808 % 2 == 1) = false := by
    rw [beq_eq_false_iff_ne]; omega
  have a2 : x % 9223372036854775808 = x := Nat.mod_eq_of_lt (by omega)
  unfold Format.read
  simp only [f1, f2, f3, f4, a1, a2]
  unfold mg pl
  by_cases c : x < 2 ^ 52
  · rw [if_pos c, if_pos c, if_pos c]; rfl
  · rw [if_neg c, if_neg c, if_neg c, if_pos (by unfold INF; omega)]
    congr 1
theorem wordN_val {x : Nat} (h : x < INF) : wordN (val x) = x := by
  have key : rungN (val x) = x := by
    by_cases h0 : x = 0
    · subst h0
      have : val 0 = 0 := by unfold val mg; rw [if_pos (by omega), Nat.zero_mul]
      rw [this, rungN_zero]
    unfold rungN
    have hm : mg x ≠ 0 := by unfold mg; split <;> omega
    have hl : (val x).log2 = (mg x).log2 + (1926 + pl x) := log2_mul_pow hm _
    have hs : sh (val x) = 1926 + pl x := by
      unfold sh
      rw [hl]
      by_cases c : x < 2 ^ 52
      · have : mg x = x := if_pos c
        have p0 : pl x = 0 := if_pos c
        have : (mg x).log2 < 52 := (Nat.log2_lt hm).2 (by omega)
        omega
      · have e : mg x = 2 ^ 52 + x % 2 ^ 52 := if_neg c
        have l1 : (mg x).log2 < 53 := (Nat.log2_lt hm).2 (by omega)
        have l2 : 52 ≤ (mg x).log2 := (Nat.le_log2 hm).2 (by omega)
        omega
    rw [hs]
    have : rhe (val x) (1926 + pl x) = mg x := rhe_exact _ _
    rw [this]
    unfold mg pl
    by_cases c : x < 2 ^ 52
    · rw [if_pos c, if_pos c]; omega
    · rw [if_neg c, if_neg c]; omega
  unfold wordN
  rw [key]
  omega
theorem val_lt {x y : Nat} (hx : x < INF) (hy : y < INF) (h : x < y) : val x < val y := by
  rcases Nat.lt_or_ge (val x) (val y) with c | c
  · exact c
  · have := wordN_mono c
    rw [wordN_val hx, wordN_val hy] at this
    omega
theorem val_le {x y : Nat} (hx : x < INF) (hy : y < INF) (h : x ≤ y) : val x ≤ val y := by
  rcases Nat.eq_or_lt_of_le h with rfl | c
  · exact Nat.le_refl _
  · exact Nat.le_of_lt (val_lt hx hy c)
theorem signed_f (m k : Nat) : signed false m k = ((m * 2 ^ k : Nat) : Int) := by
  unfold signed; rw [Nat.shiftLeft_eq]; rfl
theorem signed_t (m k : Nat) : signed true m k = -((m * 2 ^ k : Nat) : Int) := by
  unfold signed; rw [Nat.shiftLeft_eq]; rfl
theorem val_base {x : Nat} (b : Nat) (h : b ≤ pl x) : mg x * 2 ^ (pl x - b) * 2 ^ (1926 + b) = val x := by
  unfold val
  rw [Nat.mul_assoc, ← Nat.pow_add]
  congr 2
  omega
theorem base_eq (a b : Nat) : min ((a : Int) - 1074) ((b : Int) - 1074) = ((min a b : Nat) : Int) - 1074 := by omega
theorem up_eq (a c : Nat) (h : c ≤ a) : ((a : Int) - 1074 - ((c : Int) - 1074)).toNat = a - c := by omega
theorem order_word {x y : Nat} (hx : x < INF) (hy : y < INF) : double.order x y = some (compare x y) := by
  unfold Format.order
  rw [read_word hx, read_word hy]
  simp only [Datum.order, base_eq]
  rw [up_eq _ _ (Nat.min_le_left _ _), up_eq _ _ (Nat.min_le_right _ _), signed_f, signed_f]
  have v1 := val_base (x := x) _ (Nat.min_le_left (pl x) (pl y))
  have v2 := val_base (x := y) _ (Nat.min_le_right (pl x) (pl y))
  have hp := Nat.two_pow_pos (1926 + min (pl x) (pl y))
  congr 1
  generalize mg x * 2 ^ (pl x - min (pl x) (pl y)) = A at *
  generalize mg y * 2 ^ (pl y - min (pl x) (pl y)) = B at *
  generalize 2 ^ (1926 + min (pl x) (pl y)) = C at *
  rcases Nat.lt_trichotomy x y with c | c | c
  · have := val_lt hx hy c
    rw [← v1, ← v2] at this
    have : A < B := (Nat.mul_lt_mul_right hp).1 this
    rw [Nat.compare_eq_lt.2 c, Int.compare_eq_lt.2 (by omega)]
  · subst c
    have : A = B := Nat.eq_of_mul_eq_mul_right hp (by rw [v1, v2])
    subst this
    simp
  · have := val_lt hy hx c
    rw [← v1, ← v2] at this
    have : B < A := (Nat.mul_lt_mul_right hp).1 this
    rw [Nat.compare_eq_gt.2 c, Int.compare_eq_gt.2 (by omega)]
theorem sub_word {x y : Nat} (hx : x < INF) (hy : y < INF) (h : y ≤ x) : double.sub x y = some (wordN (val x - val y)) := by
  unfold Format.sub
  rw [read_word hx, read_word hy]
  simp only [Datum.opposite, Datum.sum, base_eq, Bool.not_false, Option.map_some]
  rw [up_eq _ _ (Nat.min_le_left _ _), up_eq _ _ (Nat.min_le_right _ _), signed_f, signed_t]
  have v1 := val_base (x := x) _ (Nat.min_le_left (pl x) (pl y))
  have v2 := val_base (x := y) _ (Nat.min_le_right (pl x) (pl y))
  have hv := val_le hy hx h
  have hp := Nat.two_pow_pos (1926 + min (pl x) (pl y))
  generalize hb : min (pl x) (pl y) = b at *
  generalize mg x * 2 ^ (pl x - b) = A at *
  generalize mg y * 2 ^ (pl y - b) = B at *
  have hAB : B ≤ A := by
    rw [← v1, ← v2] at hv
    exact Nat.le_of_mul_le_mul_right hv hp
  have e1 : ((A : Int) + -(B : Int)) = ((A - B : Nat) : Int) := by omega
  rw [e1]
  have e2 : (if ((A - B : Nat) : Int) = 0 then (false && true) else decide (((A - B : Nat) : Int) < 0)) = false := by
    split
    · rfl
    · exact decide_eq_false (by omega)
  rw [e2, Int.natAbs_natCast]
  show some (double.nearest false (A - B) ((b : Int) - 1074)) = _
  rw [nearest_eq _ _ (by omega)]
  have e3 : ((b : Int) - 1074 + 3000).toNat = 1926 + b := by omega
  rw [e3, Nat.sub_mul, v1, v2]
def K3 : Nat := 3000
/-- The product of two words, times 2^3000. -/
def prod (x y : Nat) : Nat := mg x * mg y * 2 ^ (852 + pl x + pl y)
theorem prod_val (x y : Nat) : prod x y * 2 ^ K3 = val x * val y := by
  unfold prod val
  have e : 2 ^ (852 + pl x + pl y) * 2 ^ K3 = 2 ^ (1926 + pl x) * 2 ^ (1926 + pl y) := by
    rw [← Nat.pow_add, ← Nat.pow_add]; congr 1; have hK : K3 = 3000 := rfl; omega
  rw [Nat.mul_assoc, e, Nat.mul_mul_mul_comm]
theorem prod_mono {x x' y y' : Nat} (h : val x ≤ val x') (k : val y ≤ val y') : prod x y ≤ prod x' y' := by
  have : prod x y * 2 ^ K3 ≤ prod x' y' * 2 ^ K3 := by
    rw [prod_val, prod_val]; exact Nat.mul_le_mul h k
  exact Nat.le_of_mul_le_mul_right this (Nat.two_pow_pos _)
theorem mul_word {x y : Nat} (hx : x < INF) (hy : y < INF) : double.mul x y = some (wordN (prod x y)) := by
  unfold Format.mul
  rw [read_word hx, read_word hy]
  simp only [Datum.product, Option.map_some, Format.write, Bool.xor_self]
  rw [nearest_eq _ _ (by omega)]
  unfold prod
  have e : ((pl x : Int) - 1074 + ((pl y : Int) - 1074) + 3000).toNat = 852 + pl x + pl y := by omega
  rw [e]

/-- N * 2^-3000 made whole, upwards. -/
def cu (n d : Nat) : Nat := n / 2 ^ d + (n % 2 ^ d != 0).toNat
theorem cut_up (n d : Nat) : Toward.up.cut false n d = cu n d := by
  unfold Toward.cut cu
  simp only [Nat.shiftLeft_eq, Nat.one_mul, Bool.not_false, Bool.true_and]
  by_cases h : d ≤ n.log2 + 2
  · rw [Nat.min_eq_left h]
  · rw [Nat.min_eq_right (by omega)]
    have h1 := lt_log n
    have e2 : 2 ^ (n.log2 + 2) = 2 ^ (n.log2 + 1) * 2 := Nat.pow_succ ..
    have h3 : 2 ^ (n.log2 + 2) ≤ 2 ^ d := Nat.pow_le_pow_right (by omega) (by omega)
    rw [Nat.div_eq_of_lt (by omega), Nat.mod_eq_of_lt (by omega), Nat.div_eq_of_lt (by omega : n < 2 ^ d), Nat.mod_eq_of_lt (by omega : n < 2 ^ d)]
theorem cut_zero (n d : Nat) : Toward.zero.cut false n d = n / 2 ^ d := by
  unfold Toward.cut
  simp only [Nat.shiftLeft_eq, Nat.one_mul]
  by_cases h : d ≤ n.log2 + 2
  · rw [Nat.min_eq_left h]; rfl
  · rw [Nat.min_eq_right (by omega)]
    have h1 := lt_log n
    have e2 : 2 ^ (n.log2 + 2) = 2 ^ (n.log2 + 1) * 2 := Nat.pow_succ ..
    have h3 : 2 ^ (n.log2 + 2) ≤ 2 ^ d := Nat.pow_le_pow_right (by omega) (by omega)
    rw [Nat.div_eq_of_lt (by omega), Nat.div_eq_of_lt (by omega : n < 2 ^ d)]; rfl
theorem cu_scale (n d k : Nat) : cu (n * 2 ^ k) (d + k) = cu n d := by
  unfold cu
  have hk : 0 < 2 ^ k := Nat.two_pow_pos k
  rw [Nat.pow_add, Nat.mul_div_mul_right _ _ hk, Nat.mul_mod_mul_right]
  congr 2
  rw [Bool.eq_iff_iff, bne_iff_ne, bne_iff_ne, ne_eq, ne_eq, Nat.mul_eq_zero]
  omega
theorem cu_mono {n n' : Nat} (d : Nat) (h : n ≤ n') : cu n d ≤ cu n' d := by
  have h1 : n / 2 ^ d ≤ n' / 2 ^ d := Nat.div_le_div_right h
  unfold cu
  by_cases c : n / 2 ^ d = n' / 2 ^ d
  · have m1 := Nat.div_add_mod n (2 ^ d)
    have m2 := Nat.div_add_mod n' (2 ^ d)
    rw [c] at m1 ⊢
    refine Nat.add_le_add_left (bool_le ?_) _
    intro hb
    simp only [bne_iff_ne, ne_eq] at hb ⊢
    omega
  · have := Bool.toNat_le (n % 2 ^ d != 0)
    omega
/-- a word's cut, in terms of what it stands for. -/
theorem cut_val (P : Nat → Nat → Nat) (hP : ∀ n d k, P (n * 2 ^ k) (d + k) = P n d) (x : Nat) : P (mg x <<< ((pl x : Int) - 1074).toNat) (-((pl x : Int) - 1074)).toNat = P (val x) K3 := by
  rw [Nat.shiftLeft_eq]
  unfold val
  by_cases c : 1074 ≤ pl x
  · have e1 : ((pl x : Int) - 1074).toNat = pl x - 1074 := by omega
    have e2 : (-((pl x : Int) - 1074)).toNat = 0 := by omega
    rw [e1, e2]
    have := hP (mg x * 2 ^ (pl x - 1074)) 0 K3
    rw [Nat.zero_add, Nat.mul_assoc, ← Nat.pow_add] at this
    rw [← this, show 1926 + pl x = pl x - 1074 + K3 by have hK : K3 = 3000 := rfl; omega]
  · have e1 : ((pl x : Int) - 1074).toNat = 0 := by omega
    have e2 : (-((pl x : Int) - 1074)).toNat = 1074 - pl x := by omega
    rw [e1, e2, Nat.pow_zero, Nat.mul_one]
    have := hP (mg x) (1074 - pl x) (1926 + pl x)
    rw [← this, show 1074 - pl x + (1926 + pl x) = K3 by have hK : K3 = 3000 := rfl; omega]
theorem div_scale (n d k : Nat) : n * 2 ^ k / 2 ^ (d + k) = n / 2 ^ d := by
  rw [Nat.pow_add, Nat.mul_div_mul_right _ _ (Nat.two_pow_pos k)]
/-- A word made whole, upwards: a word. -/
def ceilW (x : Nat) : Nat := wordN (cu (val x) K3 * 2 ^ K3)
theorem ceil_word {x : Nat} (h : x < INF) : double.write ((double.read x).integral .up) = ceilW x := by
  rw [read_word h]
  have e : (Datum.number false (mg x) ((pl x : Int) - 1074)).integral .up = .number false (cu (val x) K3) 0 := by
    unfold Datum.integral
    simp only
    rw [cut_up, cut_val cu cu_scale]
  rw [e]
  have e0 : ((0 : Int) + 3000).toNat = K3 := by unfold K3; omega
  have h1 := nearest_eq (cu (val x) K3) 0 (by omega)
  rw [e0] at h1
  exact h1
theorem ceilW_mono {x y : Nat} (hx : x < INF) (hy : y < INF) (h : x ≤ y) : ceilW x ≤ ceilW y :=
  wordN_mono (Nat.mul_le_mul_right _ (cu_mono _ (val_le hx hy h)))
def truncW (x : Nat) : Nat := val x / 2 ^ K3
theorem trunc_word {x : Nat} (h : x < INF) : (double.read x).toInt .zero = some (truncW x : Int) := by
  rw [read_word h]
  unfold Datum.toInt Datum.integral
  simp only
  have h1 := cut_val (fun n d => n / 2 ^ d) div_scale x
  rw [cut_zero, h1, signed_f, Nat.pow_zero, Nat.mul_one]
  unfold truncW
  exact Eq.refl _
theorem truncW_mono {x y : Nat} (hx : x < INF) (hy : y < INF) (h : x ≤ y) : truncW x ≤ truncW y :=
  Nat.div_le_div_right (val_le hx hy h)
end Go.Proofs.YtofonfohaocclaaGreatDoor.D

namespace Go.Proofs.YtofonfohaocclaaGreatDoor.D
open Go.RowKit Sh Go.Shelf
set_option linter.unusedVariables false

def K1000 : Nat := 4652007308841189376
def W64 : Nat := 4634204016564240384
def C64K : Nat := 4679028906605412352
def ONE : Nat := 4607182418800017408
def Q1 : Nat := 4599676419421066581
def Q2 : Nat := 4604180019048437077
theorem f64_double : FloatKind.f64.format = Ieee.double := rfl
theorem gt_inf {x : Nat} (hx : x < 18446744073709551616) (hn : Num x) (h : FloatKind.f64.format.order x 0 = some .gt) : x < INF := by
  obtain ⟨s, m, e, hd⟩ := hn
  have f1 : FloatKind.f64.format.signWeight = 9223372036854775808 := by decide
  have f3 : FloatKind.f64.format.binade = 4503599627370496 := by decide
  have f4 : FloatKind.f64.format.infRung = INF := by decide
  by_cases c : x < 9223372036854775808
  · have a2 : x % 9223372036854775808 = x := Nat.mod_eq_of_lt c
    unfold Ieee.Format.read at hd
    simp only [f1, f3, f4, a2] at hd
    by_cases c2 : x < INF
    · exact c2
    · rw [if_neg (by unfold INF at c2; omega), if_neg c2] at hd
      split at hd <;> cases hd
  · have hs : s = true := by
      have a1 : (x / 9223372036854775808 % 2 == 1) = true := by rw [beq_iff_eq]; omega
      unfold Ieee.Format.read at hd
      simp only [f1, f3, f4, a1] at hd
      split at hd
      · injection hd with h1; exact h1.symm
      · split at hd
        · injection hd with h1; exact h1.symm
        · split at hd <;> cases hd
    subst hs
    obtain ⟨s0, m0, e0, h0⟩ := num_zero
    have hz : FloatKind.f64.format.read 0 = .number false 0 (-1074) := by kernel_rfl
    unfold Ieee.Format.order at h
    rw [hd, hz] at h
    simp only [Ieee.Datum.order, signed_t, signed_f] at h
    injection h with h
    rw [Int.compare_eq_gt] at h
    omega
set_option maxRecDepth 100000 in
theorem clean_word (x : Nat) (hx : x < 18446744073709551616) : ∃ y, y ≤ K1000 ∧ ∀ w, Calls Tryz.prog 189 #[.float .f64 x, .float .f64 0, .float .f64 4652007308841189376] w fun e w' => e = .returned (.float .f64 y) ∧ w = w' := by
  cases hd : FloatKind.f64.format.read x with
  | nan s t =>
    have o1 : FloatKind.f64.format.order x x = none := order_nan hd
    have hb := isnan_any x true (by rw [o1]; rfl)
    refine ⟨0, by decide, fun w => ?_⟩
    go_enter Tryz.func189, Tryz.ntmps189
    go_wp2_with fail
    refine (hb _).mono ?_
    rintro e w2 ⟨rfl, rfl⟩
    go_wp2
    go_ret
    exact ⟨rfl, rfl⟩
  | infinity s =>
    have o1 : FloatKind.f64.format.order x x = some .eq := by
      unfold Ieee.Format.order
      rw [hd]
      cases s <;> rfl
    have hb := isnan_any x false (by rw [o1]; rfl)
    obtain ⟨_, _, _, h0⟩ := num_zero
    obtain ⟨_, _, _, hk⟩ := num_k
    cases s with
    | true =>
      have o2 : FloatKind.f64.format.order x 0 = some .lt := by unfold Ieee.Format.order; rw [hd, h0]; rfl
      refine ⟨0, by decide, fun w => ?_⟩
      go_enter Tryz.func189, Tryz.ntmps189
      go_wp2_with fail
      refine (hb _).mono ?_
      rintro e w2 ⟨rfl, rfl⟩
      go_wp2
      go_ret
      exact ⟨rfl, rfl⟩
    | false =>
      have o2 : FloatKind.f64.format.order x 0 = some .gt := by unfold Ieee.Format.order; rw [hd, h0]; rfl
      have o3 : FloatKind.f64.format.order x 4652007308841189376 = some .gt := by unfold Ieee.Format.order; rw [hd, hk]; rfl
      refine ⟨4652007308841189376, by decide, fun w => ?_⟩
      go_enter Tryz.func189, Tryz.ntmps189
      go_wp2_with fail
      refine (hb _).mono ?_
      rintro e w2 ⟨rfl, rfl⟩
      go_wp2
      go_ret
      exact ⟨rfl, rfl⟩
  | number s m e =>
    have hn : Num x := ⟨s, m, e, hd⟩
    have hb := isnan_any x false (by rw [order_self hn]; rfl)
    obtain ⟨c0, o2⟩ := order_num hn num_zero
    obtain ⟨c1, o3⟩ := order_num hn num_k
    clear hd
    cases c0 with
    | lt =>
      refine ⟨0, by decide, fun w => ?_⟩
      go_enter Tryz.func189, Tryz.ntmps189
      go_wp2_with fail
      refine (hb _).mono ?_
      rintro e w2 ⟨rfl, rfl⟩
      go_wp2
      go_ret
      exact ⟨rfl, rfl⟩
    | eq =>
      cases c1 with
      | gt =>
        refine ⟨4652007308841189376, by decide, fun w => ?_⟩
        go_enter Tryz.func189, Tryz.ntmps189
        go_wp2_with fail
        refine (hb _).mono ?_
        rintro e w2 ⟨rfl, rfl⟩
        go_wp2
        go_ret
        exact ⟨rfl, rfl⟩
      | lt =>
        refine ⟨0, by decide, fun w => ?_⟩
        go_enter Tryz.func189, Tryz.ntmps189
        go_wp2_with fail
        refine (hb _).mono ?_
        rintro e w2 ⟨rfl, rfl⟩
        go_wp2
        go_ret
        exact ⟨rfl, rfl⟩
      | eq =>
        refine ⟨0, by decide, fun w => ?_⟩
        go_enter Tryz.func189, Tryz.ntmps189
        go_wp2_with fail
        refine (hb _).mono ?_
        rintro e w2 ⟨rfl, rfl⟩
        go_wp2
        go_ret
        exact ⟨rfl, rfl⟩
    | gt =>
      have hi := gt_inf hx hn o2
      have ho : FloatKind.f64.format.order x 4652007308841189376 = some (compare x 4652007308841189376) := order_word hi (by decide)
      rw [ho] at o3
      injection o3 with o3
      cases c1 with
      | gt =>
        rw [o3] at ho
        refine ⟨4652007308841189376, by decide, fun w => ?_⟩
        go_enter Tryz.func189, Tryz.ntmps189
        go_wp2_with fail
        refine (hb _).mono ?_
        rintro e w2 ⟨rfl, rfl⟩
        go_wp2
        go_ret
        exact ⟨rfl, rfl⟩
      | lt =>
        have hle : x ≤ K1000 := by unfold K1000; have := Nat.compare_eq_lt.1 o3; omega
        rw [o3] at ho
        clear o3
        refine ⟨x, hle, fun w => ?_⟩
        go_enter Tryz.func189, Tryz.ntmps189
        go_wp2_with fail
        refine (hb _).mono ?_
        rintro e w2 ⟨rfl, rfl⟩
        go_wp2
        go_ret
        exact ⟨rfl, rfl⟩
      | eq =>
        have hle : x ≤ K1000 := by unfold K1000; have := Nat.compare_eq_eq.1 o3; omega
        rw [o3] at ho
        clear o3
        refine ⟨x, hle, fun w => ?_⟩
        go_enter Tryz.func189, Tryz.ntmps189
        go_wp2_with fail
        refine (hb _).mono ?_
        rintro e w2 ⟨rfl, rfl⟩
        go_wp2
        go_ret
        exact ⟨rfl, rfl⟩

def bW (b : Nat) : Nat := wordN (b * 2 ^ K3)
def gW (y b : Nat) : Nat := max (wordN (prod y (bW b))) y
def dW (y b : Nat) : Nat := wordN (val (gW y b) - val y)
def pW (y b q : Nat) : Nat := wordN (prod q (dW y b))
def lW (y b q : Nat) : Nat := max (wordN (val (gW y b) - val (pW y b q))) y
def waitW (y b t : Nat) : Nat := if t = 0 then gW y b else if t = 1 then lW y b Q1 else if t = 2 then lW y b Q2 else y
theorem bW_nearest (b : Nat) : FloatKind.f64.nearest (b : Int) = bW b := by
  have h := nearest_eq b 0 (by omega)
  have e1 : decide ((b : Int) < 0) = false := decide_eq_false (by omega)
  have e0 : ((0 : Int) + 3000).toNat = K3 := by unfold K3; omega
  rw [e0] at h
  unfold FloatKind.nearest FloatKind.encode bW
  rw [e1, Int.natAbs_natCast, f64_double]
  exact h
theorem bW_le {b : Nat} (h : b ≤ 64) : bW b ≤ W64 := by
  have : wordN (64 * 2 ^ K3) = W64 := by kernel_rfl
  rw [← this]
  exact wordN_mono (Nat.mul_le_mul_right _ h)
theorem w64_inf : W64 < INF := by decide
theorem k_inf : K1000 < INF := by decide
theorem c_inf : C64K < INF := by decide
theorem g_le {y b : Nat} (hy : y ≤ K1000) (hb : b ≤ 64) : gW y b ≤ C64K := by
  have h1 : wordN (prod K1000 W64) = C64K := by kernel_rfl
  have h2 : wordN (prod y (bW b)) ≤ C64K := by
    rw [← h1]
    exact wordN_mono (prod_mono (val_le (Nat.lt_of_le_of_lt hy k_inf) k_inf hy) (val_le (Nat.lt_of_le_of_lt (bW_le hb) w64_inf) w64_inf (bW_le hb)))
  have h3 : K1000 ≤ C64K := by decide
  unfold gW
  omega
theorem y_le_g (y b : Nat) : y ≤ gW y b := Nat.le_max_right _ _
theorem sub_le {x n : Nat} (hx : x < INF) : wordN (val x - n) ≤ x := by
  have := wordN_mono (Nat.sub_le (val x) n)
  rwa [wordN_val hx] at this
theorem d_le {y b : Nat} (hy : y ≤ K1000) (hb : b ≤ 64) : dW y b ≤ gW y b := sub_le (Nat.lt_of_le_of_lt (g_le hy hb) c_inf)
theorem val_of {x a b c : Nat} (h1 : mg x = 2 ^ a) (h2 : 1926 + pl x = b) (h : a + b = c) : val x = 2 ^ c := by
  unfold val
  rw [h1, h2, ← Nat.pow_add, h]
theorem val_one : val ONE = 2 ^ K3 := by
  have h1 : mg ONE = 2 ^ 52 := by decide
  have h2 : pl ONE = 1022 := by decide
  exact val_of h1 rfl (by rw [h2]; unfold K3; omega)
theorem p_le {y b q : Nat} (hy : y ≤ K1000) (hb : b ≤ 64) (hq : q ≤ ONE) : pW y b q ≤ gW y b := by
  have hg := Nat.lt_of_le_of_lt (g_le hy hb) c_inf
  have hd : dW y b < INF := Nat.lt_of_le_of_lt (d_le hy hb) hg
  have e : prod ONE (dW y b) = val (dW y b) := by
    have := prod_val ONE (dW y b)
    rw [val_one, Nat.mul_comm (2 ^ K3)] at this
    exact Nat.eq_of_mul_eq_mul_right (Nat.two_pow_pos K3) this
  have := wordN_mono (prod_mono (val_le (Nat.lt_of_le_of_lt hq (by decide)) (by decide) hq) (Nat.le_refl (val (dW y b))))
  rw [e, wordN_val hd] at this
  exact Nat.le_trans this (d_le hy hb)
theorem one_inf : ONE < INF := by decide
theorem l_mono {y b q q' : Nat} (hy : y ≤ K1000) (hb : b ≤ 64) (hq : q ≤ q') (hq' : q' ≤ ONE) : lW y b q' ≤ lW y b q := by
  have hg := Nat.lt_of_le_of_lt (g_le hy hb) c_inf
  have hp : pW y b q ≤ pW y b q' := wordN_mono (prod_mono (val_le (Nat.lt_of_le_of_lt (Nat.le_trans hq hq') one_inf) (Nat.lt_of_le_of_lt hq' one_inf) hq) (Nat.le_refl _))
  have hv := val_le (Nat.lt_of_le_of_lt (p_le hy hb (Nat.le_trans hq hq')) hg) (Nat.lt_of_le_of_lt (p_le hy hb hq') hg) hp
  have := wordN_mono (Nat.sub_le_sub_left hv (val (gW y b)))
  exact Nat.max_le.2 ⟨Nat.le_trans this (Nat.le_max_left _ _), Nat.le_max_right _ _⟩
theorem l_le {y b q : Nat} (hy : y ≤ K1000) (hb : b ≤ 64) : lW y b q ≤ gW y b :=
  Nat.max_le.2 ⟨sub_le (n := val (pW y b q)) (Nat.lt_of_le_of_lt (g_le hy hb) c_inf), y_le_g y b⟩
theorem w0 (y b : Nat) : waitW y b 0 = gW y b := if_pos rfl
theorem w1 (y b : Nat) : waitW y b 1 = lW y b Q1 := (if_neg (by omega)).trans (if_pos rfl)
theorem w2 (y b : Nat) : waitW y b 2 = lW y b Q2 := (if_neg (by omega)).trans ((if_neg (by omega)).trans (if_pos rfl))
theorem w3 (y b t : Nat) (h : 3 ≤ t) : waitW y b t = y := (if_neg (by omega)).trans ((if_neg (by omega)).trans (if_neg (by omega)))
theorem q_one : Q1 ≤ Q2 ∧ Q2 ≤ ONE := by unfold Q1 Q2 ONE; omega
theorem wait_anti {y b : Nat} (hy : y ≤ K1000) (hb : b ≤ 64) (t : Nat) : waitW y b (t + 1) ≤ waitW y b t := by
  rcases Nat.lt_or_ge t 3 with h | h
  · obtain rfl | rfl | rfl : t = 0 ∨ t = 1 ∨ t = 2 := by omega
    · rw [w0, w1]; exact l_le hy hb
    · rw [w1, w2]; exact l_mono hy hb q_one.1 q_one.2
    · rw [w2, w3 _ _ _ (by omega)]; exact Nat.le_max_right _ _
  · rw [w3 _ _ _ h, w3 _ _ _ (by omega)]; exact Nat.le_refl _
theorem wait_le {y b : Nat} (hy : y ≤ K1000) (hb : b ≤ 64) (t : Nat) : waitW y b t ≤ C64K := by
  induction t with
  | zero => rw [w0]; exact g_le hy hb
  | succ t ih => exact Nat.le_trans (wait_anti hy hb t) ih
def tickW (x : Nat) : Nat := if x = 0 then 0 else truncW (ceilW x)
theorem ceil_le {x : Nat} (h : x ≤ C64K) : ceilW x ≤ C64K := by
  have e : ceilW C64K = C64K := by kernel_rfl
  rw [← e]
  exact ceilW_mono (Nat.lt_of_le_of_lt h c_inf) c_inf h
theorem tick_mono {x y : Nat} (h : x ≤ y) (hy : y ≤ C64K) : tickW x ≤ tickW y := by
  unfold tickW
  by_cases c : x = 0
  · rw [if_pos c]; exact Nat.zero_le _
  · rw [if_neg c, if_neg (by omega)]
    have h1 := ceil_le hy
    have h2 := ceil_le (Nat.le_trans h hy)
    exact truncW_mono (Nat.lt_of_le_of_lt h2 c_inf) (Nat.lt_of_le_of_lt h1 c_inf) (ceilW_mono (Nat.lt_of_le_of_lt (Nat.le_trans h hy) c_inf) (Nat.lt_of_le_of_lt hy c_inf) h)
theorem tick_le {x : Nat} (h : x ≤ C64K) : tickW x ≤ 64000 := by
  have e : truncW C64K = 64000 := by kernel_rfl
  unfold tickW
  split
  · omega
  · rw [← e]
    exact truncW_mono (Nat.lt_of_le_of_lt (ceil_le h) c_inf) c_inf (ceil_le h)
end Go.Proofs.YtofonfohaocclaaGreatDoor.D
