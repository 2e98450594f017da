/- The document's Ticks, later, May, Has, With, walked: they are the program's. -/
import Derived.Test.YtojnmbpicmgcpaaRWait
import Derived.Test.YtojnmbpicmgcpaaRaisU
namespace Go.Proofs.Ytojnmbpicmgcpaa
open Go.RowKit Sh Go.Shelf
set_option linter.unusedVariables false

theorem pow_lt' {a b : Nat} (h : a < b) : 2 ^ a < 2 ^ b := Nat.pow_lt_pow_right (by omega) h
theorem pow_le' {a b : Nat} (h : a ≤ b) : 2 ^ a ≤ 2 ^ b := Nat.pow_le_pow_right (by omega) h
theorem int_aux {k K : Nat} (hK : K = 3000) (h0 : k ≠ 0) (hk : k < 2 ^ 53) : ∃ m l, l ≤ 52 ∧ 2 ^ 52 ≤ m ∧ m < 2 ^ 53 ∧ k * 2 ^ K = m * 2 ^ (l + 2948) ∧ sh (k * 2 ^ K) = l + 2948 := by
  obtain ⟨l, hl⟩ : ∃ l, l = k.log2 := ⟨_, rfl⟩
  have h1 := log_le h0
  have h2 := lt_log k
  rw [← hl] at h1 h2
  have hl52 : l ≤ 52 := by
    have h3 : 2 ^ l < 2 ^ 53 := Nat.lt_of_le_of_lt h1 hk
    have := (Nat.pow_lt_pow_iff_right (by omega)).1 h3
    omega
  have hlog : (k * 2 ^ K).log2 = l + K := by rw [log2_mul_pow h0, hl]
  have hs : sh (k * 2 ^ K) = l + 2948 := by unfold sh; rw [hlog]; omega
  refine ⟨k * 2 ^ (52 - l), l, hl52, ?_, ?_, ?_, hs⟩
  · have e : 2 ^ 52 = 2 ^ l * 2 ^ (52 - l) := by rw [← Nat.pow_add, show l + (52 - l) = 52 by omega]
    rw [e]
    exact Nat.mul_le_mul_right _ h1
  · have e : 2 ^ 53 = 2 ^ (l + 1) * 2 ^ (52 - l) := by rw [← Nat.pow_add, show l + 1 + (52 - l) = 53 by omega]
    rw [e]
    exact Nat.mul_lt_mul_of_pos_right h2 (Nat.two_pow_pos _)
  · rw [Nat.mul_assoc, ← Nat.pow_add, show 52 - l + (l + 2948) = K by omega]
theorem rung_aux {N m l : Nat} (hN : N = m * 2 ^ (l + 2948)) (hs : sh N = l + 2948) : rungN N = (l + 1022) * 2 ^ 52 + m := by
  unfold rungN
  rw [hs, show rhe N (l + 2948) = m by rw [hN]; exact rhe_exact _ _, show l + 2948 - 1926 = l + 1022 by omega]
theorem val_aux {x m l N : Nat} (hx : x = (l + 1022) * 2 ^ 52 + m) (m1 : 2 ^ 52 ≤ m) (m2 : m < 2 ^ 53) (hN : N = m * 2 ^ (l + 2948)) : val x = N := by
  have g1 : mg x = m := by
    unfold mg
    rw [if_neg (by omega)]
    omega
  have g2 : pl x = l + 1022 := by
    unfold pl
    rw [if_neg (by omega)]
    omega
  unfold val
  rw [g1, g2, hN, show 1926 + (l + 1022) = l + 2948 by omega]
theorem bW_zero : bW 0 = 0 := by
  unfold bW wordN
  rw [Nat.zero_mul, rungN_zero]
  exact Nat.zero_min _
theorem val_zero : val 0 = 0 := by unfold val mg; rw [if_pos (by omega), Nat.zero_mul]
/-- a whole number that is not too great is a real as it is. -/
theorem word_int (k : Nat) (hk : k < 2 ^ 53) : bW k < INF ∧ val (bW k) = k * 2 ^ K3 := by
  by_cases h0 : k = 0
  · subst h0
    rw [bW_zero, val_zero, Nat.zero_mul]
    exact ⟨by unfold INF; omega, Eq.refl _⟩
  · obtain ⟨m, l, hl, m1, m2, hN, hs⟩ := int_aux (K := K3) (Eq.refl _) h0 hk
    have hr := rung_aux hN hs
    have hx : bW k = (l + 1022) * 2 ^ 52 + m := by
      unfold bW wordN
      rw [hr]
      unfold INF
      omega
    exact ⟨by rw [hx]; unfold INF; omega, val_aux hx m1 m2 hN⟩
theorem mod_aux (v P : Nat) (hp : 0 < P) : (v % P ≠ 0) ↔ v / P * P < v := by
  have h := Nat.div_add_mod v P
  rw [Nat.mul_comm] at h
  omega
theorem tick_eq {x : Nat} (hx : x ≤ C64K) : tickW x = if x = 0 then 0 else truncW x + (if bW (truncW x) < x then 1 else 0) := by
  by_cases h0 : x = 0
  · unfold tickW; rw [if_pos h0, if_pos h0]
  · have hi := Nat.lt_of_le_of_lt hx c_inf
    have e : truncW C64K = 64000 := by kernel_rfl
    have ht : truncW x ≤ 64000 := by rw [← e]; exact truncW_mono hi c_inf hx
    have hp := Nat.two_pow_pos K3
    have hc : cu (val x) K3 = truncW x + (val x % 2 ^ K3 != 0).toNat := Eq.refl _
    have hb := Bool.toNat_le (val x % 2 ^ K3 != 0)
    have ed : truncW x = val x / 2 ^ K3 := Eq.refl _
    have hma := mod_aux (val x) (2 ^ K3) hp
    rw [← ed] at hma
    have hk : cu (val x) K3 < 2 ^ 53 := by rw [hc]; omega
    have h1 := word_int _ hk
    have h2 := word_int (truncW x) (by omega)
    have ec : ceilW x = bW (cu (val x) K3) := Eq.refl _
    have ed2 : truncW (bW (cu (val x) K3)) = val (bW (cu (val x) K3)) / 2 ^ K3 := Eq.refl _
    have ht2 : truncW (ceilW x) = cu (val x) K3 := by
      rw [ec, ed2, h1.2, Nat.mul_div_cancel _ hp]
    unfold tickW
    rw [if_neg h0, if_neg h0, ht2, hc]
    rw [Nat.add_left_cancel_iff]
    have hlt : bW (truncW x) < x ↔ val x % 2 ^ K3 ≠ 0 := by
      rw [hma, ← h2.2]
      constructor
      · intro h
        exact val_lt h2.1 hi h
      · intro h
        rcases Nat.lt_or_ge (bW (truncW x)) x with c | c
        · exact c
        · exact absurd (val_le hi h2.1 c) (Nat.not_le.2 h)
    by_cases c : bW (truncW x) < x
    · rw [if_pos c]
      have : (val x % 2 ^ K3 != 0) = true := bne_iff_ne.2 (hlt.1 c)
      rw [this]; exact Eq.refl _
    · rw [if_neg c]
      have : (val x % 2 ^ K3 != 0) = false := by
        cases hb : (val x % 2 ^ K3 != 0) with
        | false => exact Eq.refl _
        | true => exact absurd (hlt.2 (bne_iff_ne.1 hb)) c
      rw [this]; exact Eq.refl _

set_option maxRecDepth 100000 in
theorem rticks_core (m n c T : Nat) (tb : Bool) (hn : n ≤ 64000) (h0 : FloatKind.f64.format.order m m = some .eq) (h1 : FloatKind.f64.format.order m 0 = some (compare m 0)) (h2 : FloatKind.f64.format.order m 4787326403894837248 = some .lt)
    (hv : ∀ w, (convert 35 32 (.float .f64 m)).run Try.prog w = .ok (.int .u64 (n : Int)) w) (hf : floatOfInt .f64 (n : Int) = c) (hl : (FloatKind.f64.format.order c m == some Ordering.lt) = tb) (hT : T = if m = 0 then 0 else n + (if tb = true then 1 else 0)) (w : World) :
    Calls Try.prog 28 #[.float .f64 m] w fun e w' => e = .returned (.int .u64 (T : Int)) ∧ w = w' := by
  by_cases hm : m = 0
  · subst hm
    have h3 : FloatKind.f64.format.order 0 0 = some .eq := h0
    rw [if_pos rfl] at hT
    subst hT
    clear h1 hv hf hl
    go_enter Try.func28, Try.ntmps28
    go_wp2
    go_ret
    exact ⟨rfl, rfl⟩
  · rw [if_neg hm] at hT
    rw [Nat.compare_eq_gt.2 (by omega)] at h1
    have e1 : IntKind.u64.wrap ((n : Int) + 1) = (n : Int) + 1 := by rw [IntKind.wrap_u64]; omega
    have HT := Lib.hid hT
    have hcv : ∀ W, (convert 32 35 (.int .u64 (n : Int))).run Try.prog W = .ok (.float .f64 c) W := fun W => by
      rw [← hf]
      go_simp
    clear hm hT hf
    cases tb
    · go_enter Try.func28, Try.ntmps28
      go_wp2
      go_ret
      exact ⟨by rw [HT.out]; simp, rfl⟩
    · go_enter Try.func28, Try.ntmps28
      go_wp2
      go_ret
      exact ⟨by rw [HT.out]; simp, rfl⟩
theorem rticks_word {m : Nat} (hm : m ≤ C64K) (w : World) : Calls Try.prog 28 #[.float .f64 m] w fun e w' => e = .returned (.int .u64 (tickW m : Int)) ∧ w = w' := by
  have hi := Nat.lt_of_le_of_lt hm c_inf
  have e : truncW C64K = 64000 := by kernel_rfl
  have ht : truncW m ≤ 64000 := by rw [← e]; exact truncW_mono hi c_inf hm
  have h1 : FloatKind.f64.format.order m 4787326403894837248 = some (compare m 4787326403894837248) := order_word hi (by decide)
  rw [Nat.compare_eq_lt.2 (by unfold C64K at hm; omega)] at h1
  have h2 : FloatKind.f64.format.order m m = some (compare m m) := order_word hi hi
  rw [Nat.compare_eq_eq.2 rfl] at h2
  have hw := word_int (truncW m) (by omega)
  refine rticks_core m (truncW m) (bW (truncW m)) _ (decide (bW (truncW m) < m)) ht h2 (order_word hi (by decide)) h1 (conv_word hi (by omega)) ?_ (lt_word hw.1 hi) ?_ w
  · rw [show floatOfInt .f64 (truncW m : Int) = FloatKind.f64.nearest (truncW m : Int) from rfl, bW_nearest]
  · rw [tick_eq hm]
    simp only [decide_eq_true_eq]
end Go.Proofs.Ytojnmbpicmgcpaa
