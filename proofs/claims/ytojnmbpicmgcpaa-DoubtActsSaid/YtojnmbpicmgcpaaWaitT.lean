/- Walks of real.Clean, real.Wait, real.Ticks: in words; the more tell, the less it waits. -/
import Derived.Test.YtojnmbpicmgcpaaWait
import Derived.Test.YtojnmbpicmgcpaaRound
namespace Go.Proofs.Ytojnmbpicmgcpaa
open Go.RowKit Sh Go.Shelf
set_option linter.unusedVariables false

def K1000 : Nat := 4652007308841189376
def W64 : Nat := 4634204016564240384
def C64K : Nat := 4679028906605412352
def ONE : Nat := 4607182418800017408
def Q1 : Nat := 4599676419421066581
def Q2 : Nat := 4604180019048437077
theorem f64_double : FloatKind.f64.format = Ieee.double := rfl
theorem gt_inf {x : Nat} (hx : x < 18446744073709551616) (hn : Num x) (h : FloatKind.f64.format.order x 0 = some .gt) : x < INF := by
  obtain ⟨s, m, e, hd⟩ := hn
  have f1 : FloatKind.f64.format.signWeight = 9223372036854775808 := by decide
  have f3 : FloatKind.f64.format.binade = 4503599627370496 := by decide
  have f4 : FloatKind.f64.format.infRung = INF := by decide
  by_cases c : x < 9223372036854775808
  · have a2 : x % 9223372036854775808 = x := Nat.mod_eq_of_lt c
    unfold Ieee.Format.read at hd
    simp only [f1, f3, f4, a2] at hd
    by_cases c2 : x < INF
    · exact c2
    · rw [if_neg (by unfold INF at c2; omega), if_neg c2] at hd
      split at hd <;> cases hd
  · have hs : s = true := by
      have a1 : (x / 9223372036854775808 % 2 == 1) = true := by rw [beq_iff_eq]; omega
      unfold Ieee.Format.read at hd
      simp only [f1, f3, f4, a1] at hd
      split at hd
      · injection hd with h1; exact h1.symm
      · split at hd
        · injection hd with h1; exact h1.symm
        · split at hd <;> cases hd
    subst hs
    obtain ⟨s0, m0, e0, h0⟩ := num_zero
    have hz : FloatKind.f64.format.read 0 = .number false 0 (-1074) := by kernel_rfl
    unfold Ieee.Format.order at h
    rw [hd, hz] at h
    simp only [Ieee.Datum.order, signed_t, signed_f] at h
    injection h with h
    rw [Int.compare_eq_gt] at h
    omega
set_option maxRecDepth 100000 in
theorem clean_word (x : Nat) (hx : x < 18446744073709551616) : ∃ y, y ≤ K1000 ∧ ∀ w, Calls Try.prog 43 #[.float .f64 x, .float .f64 0, .float .f64 4652007308841189376] w fun e w' => e = .returned (.float .f64 y) ∧ w = w' := by
  cases hd : FloatKind.f64.format.read x with
  | nan s t =>
    have o1 : FloatKind.f64.format.order x x = none := order_nan hd
    have hb := isnan_any x true (by rw [o1]; rfl)
    refine ⟨0, by decide, fun w => ?_⟩
    go_enter Try.func43, Try.ntmps43
    go_wp2_with fail
    refine (hb _).mono ?_
    rintro e w2 ⟨rfl, rfl⟩
    go_wp2
    go_ret
    exact ⟨rfl, rfl⟩
  | infinity s =>
    have o1 : FloatKind.f64.format.order x x = some .eq := by
      unfold Ieee.Format.order
      rw [hd]
      cases s <;> rfl
    have hb := isnan_any x false (by rw [o1]; rfl)
    obtain ⟨_, _, _, h0⟩ := num_zero
    obtain ⟨_, _, _, hk⟩ := num_k
    cases s with
    | true =>
      have o2 : FloatKind.f64.format.order x 0 = some .lt := by unfold Ieee.Format.order; rw [hd, h0]; rfl
      refine ⟨0, by decide, fun w => ?_⟩
      go_enter Try.func43, Try.ntmps43
      go_wp2_with fail
      refine (hb _).mono ?_
      rintro e w2 ⟨rfl, rfl⟩
      go_wp2
      go_ret
      exact ⟨rfl, rfl⟩
    | false =>
      have o2 : FloatKind.f64.format.order x 0 = some .gt := by unfold Ieee.Format.order; rw [hd, h0]; rfl
      have o3 : FloatKind.f64.format.order x 4652007308841189376 = some .gt := by unfold Ieee.Format.order; rw [hd, hk]; rfl
      refine ⟨4652007308841189376, by decide, fun w => ?_⟩
      go_enter Try.func43, Try.ntmps43
      go_wp2_with fail
      refine (hb _).mono ?_
      rintro e w2 ⟨rfl, rfl⟩
      go_wp2
      go_ret
      exact ⟨rfl, rfl⟩
  | number s m e =>
    have hn : Num x := ⟨s, m, e, hd⟩
    have hb := isnan_any x false (by rw [order_self hn]; rfl)
    obtain ⟨c0, o2⟩ := order_num hn num_zero
    obtain ⟨c1, o3⟩ := order_num hn num_k
    clear hd
    cases c0 with
    | lt =>
      refine ⟨0, by decide, fun w => ?_⟩
      go_enter Try.func43, Try.ntmps43
      go_wp2_with fail
      refine (hb _).mono ?_
      rintro e w2 ⟨rfl, rfl⟩
      go_wp2
      go_ret
      exact ⟨rfl, rfl⟩
    | eq =>
      cases c1 with
      | gt =>
        refine ⟨4652007308841189376, by decide, fun w => ?_⟩
        go_enter Try.func43, Try.ntmps43
        go_wp2_with fail
        refine (hb _).mono ?_
        rintro e w2 ⟨rfl, rfl⟩
        go_wp2
        go_ret
        exact ⟨rfl, rfl⟩
      | lt =>
        refine ⟨0, by decide, fun w => ?_⟩
        go_enter Try.func43, Try.ntmps43
        go_wp2_with fail
        refine (hb _).mono ?_
        rintro e w2 ⟨rfl, rfl⟩
        go_wp2
        go_ret
        exact ⟨rfl, rfl⟩
      | eq =>
        refine ⟨0, by decide, fun w => ?_⟩
        go_enter Try.func43, Try.ntmps43
        go_wp2_with fail
        refine (hb _).mono ?_
        rintro e w2 ⟨rfl, rfl⟩
        go_wp2
        go_ret
        exact ⟨rfl, rfl⟩
    | gt =>
      have hi := gt_inf hx hn o2
      have ho : FloatKind.f64.format.order x 4652007308841189376 = some (compare x 4652007308841189376) := order_word hi (by decide)
      rw [ho] at o3
      injection o3 with o3
      cases c1 with
      | gt =>
        rw [o3] at ho
        refine ⟨4652007308841189376, by decide, fun w => ?_⟩
        go_enter Try.func43, Try.ntmps43
        go_wp2_with fail
        refine (hb _).mono ?_
        rintro e w2 ⟨rfl, rfl⟩
        go_wp2
        go_ret
        exact ⟨rfl, rfl⟩
      | lt =>
        have hle : x ≤ K1000 := by unfold K1000; have := Nat.compare_eq_lt.1 o3; omega
        rw [o3] at ho
        clear o3
        refine ⟨x, hle, fun w => ?_⟩
        go_enter Try.func43, Try.ntmps43
        go_wp2_with fail
        refine (hb _).mono ?_
        rintro e w2 ⟨rfl, rfl⟩
        go_wp2
        go_ret
        exact ⟨rfl, rfl⟩
      | eq =>
        have hle : x ≤ K1000 := by unfold K1000; have := Nat.compare_eq_eq.1 o3; omega
        rw [o3] at ho
        clear o3
        refine ⟨x, hle, fun w => ?_⟩
        go_enter Try.func43, Try.ntmps43
        go_wp2_with fail
        refine (hb _).mono ?_
        rintro e w2 ⟨rfl, rfl⟩
        go_wp2
        go_ret
        exact ⟨rfl, rfl⟩

def bW (b : Nat) : Nat := wordN (b * 2 ^ K3)
def gW (y b : Nat) : Nat := max (wordN (prod y (bW b))) y
def dW (y b : Nat) : Nat := wordN (val (gW y b) - val y)
def pW (y b q : Nat) : Nat := wordN (prod q (dW y b))
def lW (y b q : Nat) : Nat := max (wordN (val (gW y b) - val (pW y b q))) y
def waitW (y b t : Nat) : Nat := if t = 0 then gW y b else if t = 1 then lW y b Q1 else if t = 2 then lW y b Q2 else y
theorem bW_nearest (b : Nat) : FloatKind.f64.nearest (b : Int) = bW b := by
  have h := nearest_eq b 0 (by omega)
  have e1 : decide ((b : Int) < 0) = false := decide_eq_false (by omega)
  have e0 : ((0 : Int) + 3000).toNat = K3 := by unfold K3; omega
  rw [e0] at h
  unfold FloatKind.nearest FloatKind.encode bW
  rw [e1, Int.natAbs_natCast, f64_double]
  exact h
theorem bW_le {b : Nat} (h : b ≤ 64) : bW b ≤ W64 := by
  have : wordN (64 * 2 ^ K3) = W64 := by kernel_rfl
  rw [← this]
  exact wordN_mono (Nat.mul_le_mul_right _ h)
theorem w64_inf : W64 < INF := by decide
theorem k_inf : K1000 < INF := by decide
theorem c_inf : C64K < INF := by decide
theorem g_le {y b : Nat} (hy : y ≤ K1000) (hb : b ≤ 64) : gW y b ≤ C64K := by
  have h1 : wordN (prod K1000 W64) = C64K := by kernel_rfl
  have h2 : wordN (prod y (bW b)) ≤ C64K := by
    rw [← h1]
    exact wordN_mono (prod_mono (val_le (Nat.lt_of_le_of_lt hy k_inf) k_inf hy) (val_le (Nat.lt_of_le_of_lt (bW_le hb) w64_inf) w64_inf (bW_le hb)))
  have h3 : K1000 ≤ C64K := by decide
  unfold gW
  omega
theorem y_le_g (y b : Nat) : y ≤ gW y b := Nat.le_max_right _ _
theorem sub_le {x n : Nat} (hx : x < INF) : wordN (val x - n) ≤ x := by
  have := wordN_mono (Nat.sub_le (val x) n)
  rwa [wordN_val hx] at this
theorem d_le {y b : Nat} (hy : y ≤ K1000) (hb : b ≤ 64) : dW y b ≤ gW y b := sub_le (Nat.lt_of_le_of_lt (g_le hy hb) c_inf)
theorem val_of {x a b c : Nat} (h1 : mg x = 2 ^ a) (h2 : 1926 + pl x = b) (h : a + b = c) : val x = 2 ^ c := by
  unfold val
  rw [h1, h2, ← Nat.pow_add, h]
theorem val_one : val ONE = 2 ^ K3 := by
  have h1 : mg ONE = 2 ^ 52 := by decide
  have h2 : pl ONE = 1022 := by decide
  exact val_of h1 rfl (by rw [h2]; unfold K3; omega)
theorem p_le {y b q : Nat} (hy : y ≤ K1000) (hb : b ≤ 64) (hq : q ≤ ONE) : pW y b q ≤ gW y b := by
  have hg := Nat.lt_of_le_of_lt (g_le hy hb) c_inf
  have hd : dW y b < INF := Nat.lt_of_le_of_lt (d_le hy hb) hg
  have e : prod ONE (dW y b) = val (dW y b) := by
    have := prod_val ONE (dW y b)
    rw [val_one, Nat.mul_comm (2 ^ K3)] at this
    exact Nat.eq_of_mul_eq_mul_right (Nat.two_pow_pos K3) this
  have := wordN_mono (prod_mono (val_le (Nat.lt_of_le_of_lt hq (by decide)) (by decide) hq) (Nat.le_refl (val (dW y b))))
  rw [e, wordN_val hd] at this
  exact Nat.le_trans this (d_le hy hb)
theorem one_inf : ONE < INF := by decide
theorem l_mono {y b q q' : Nat} (hy : y ≤ K1000) (hb : b ≤ 64) (hq : q ≤ q') (hq' : q' ≤ ONE) : lW y b q' ≤ lW y b q := by
  have hg := Nat.lt_of_le_of_lt (g_le hy hb) c_inf
  have hp : pW y b q ≤ pW y b q' := wordN_mono (prod_mono (val_le (Nat.lt_of_le_of_lt (Nat.le_trans hq hq') one_inf) (Nat.lt_of_le_of_lt hq' one_inf) hq) (Nat.le_refl _))
  have hv := val_le (Nat.lt_of_le_of_lt (p_le hy hb (Nat.le_trans hq hq')) hg) (Nat.lt_of_le_of_lt (p_le hy hb hq') hg) hp
  have := wordN_mono (Nat.sub_le_sub_left hv (val (gW y b)))
  exact Nat.max_le.2 ⟨Nat.le_trans this (Nat.le_max_left _ _), Nat.le_max_right _ _⟩
theorem l_le {y b q : Nat} (hy : y ≤ K1000) (hb : b ≤ 64) : lW y b q ≤ gW y b :=
  Nat.max_le.2 ⟨sub_le (n := val (pW y b q)) (Nat.lt_of_le_of_lt (g_le hy hb) c_inf), y_le_g y b⟩
theorem w0 (y b : Nat) : waitW y b 0 = gW y b := if_pos rfl
theorem w1 (y b : Nat) : waitW y b 1 = lW y b Q1 := (if_neg (by omega)).trans (if_pos rfl)
theorem w2 (y b : Nat) : waitW y b 2 = lW y b Q2 := (if_neg (by omega)).trans ((if_neg (by omega)).trans (if_pos rfl))
theorem w3 (y b t : Nat) (h : 3 ≤ t) : waitW y b t = y := (if_neg (by omega)).trans ((if_neg (by omega)).trans (if_neg (by omega)))
theorem q_one : Q1 ≤ Q2 ∧ Q2 ≤ ONE := by unfold Q1 Q2 ONE; omega
theorem wait_anti {y b : Nat} (hy : y ≤ K1000) (hb : b ≤ 64) (t : Nat) : waitW y b (t + 1) ≤ waitW y b t := by
  rcases Nat.lt_or_ge t 3 with h | h
  · obtain rfl | rfl | rfl : t = 0 ∨ t = 1 ∨ t = 2 := by omega
    · rw [w0, w1]; exact l_le hy hb
    · rw [w1, w2]; exact l_mono hy hb q_one.1 q_one.2
    · rw [w2, w3 _ _ _ (by omega)]; exact Nat.le_max_right _ _
  · rw [w3 _ _ _ h, w3 _ _ _ (by omega)]; exact Nat.le_refl _
theorem wait_le {y b : Nat} (hy : y ≤ K1000) (hb : b ≤ 64) (t : Nat) : waitW y b t ≤ C64K := by
  induction t with
  | zero => rw [w0]; exact g_le hy hb
  | succ t ih => exact Nat.le_trans (wait_anti hy hb t) ih
def tickW (x : Nat) : Nat := if x = 0 then 0 else truncW (ceilW x)
theorem ceil_le {x : Nat} (h : x ≤ C64K) : ceilW x ≤ C64K := by
  have e : ceilW C64K = C64K := by kernel_rfl
  rw [← e]
  exact ceilW_mono (Nat.lt_of_le_of_lt h c_inf) c_inf h
theorem tick_mono {x y : Nat} (h : x ≤ y) (hy : y ≤ C64K) : tickW x ≤ tickW y := by
  unfold tickW
  by_cases c : x = 0
  · rw [if_pos c]; exact Nat.zero_le _
  · rw [if_neg c, if_neg (by omega)]
    have h1 := ceil_le hy
    have h2 := ceil_le (Nat.le_trans h hy)
    exact truncW_mono (Nat.lt_of_le_of_lt h2 c_inf) (Nat.lt_of_le_of_lt h1 c_inf) (ceilW_mono (Nat.lt_of_le_of_lt (Nat.le_trans h hy) c_inf) (Nat.lt_of_le_of_lt hy c_inf) h)
theorem tick_le {x : Nat} (h : x ≤ C64K) : tickW x ≤ 64000 := by
  have e : truncW C64K = 64000 := by kernel_rfl
  unfold tickW
  split
  · omega
  · rw [← e]
    exact truncW_mono (Nat.lt_of_le_of_lt (ceil_le h) c_inf) c_inf (ceil_le h)
end Go.Proofs.Ytojnmbpicmgcpaa
