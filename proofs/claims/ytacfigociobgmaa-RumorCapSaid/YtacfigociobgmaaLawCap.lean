/- RumorCap, walked. -/
import Derived.Test.YtacfigociobgmaaShown
namespace Go.Proofs.Ytacfigociobgmaa
open Go.RowKit Sh
set_option linter.unusedVariables false

theorem bits_mono (a b : Int) (h0 : 0 ≤ a) (h : a ≤ b) (hb : b < 65536) : bitsI a ≤ bitsI b := by
  have key : ∀ (n x y : Nat), x ≤ n → x ≤ y → y < 65536 → Lib.bitLen x ≤ Lib.bitLen y := by
    intro n
    induction n with
    | zero =>
      intro x y hx hxy hy
      have : x = 0 := by omega
      subst this
      exact Nat.le_trans (Lib.bitLen_le 0 0 (by omega) (by omega)) (Nat.zero_le _)
    | succ n ih =>
      intro x y hx hxy hy
      by_cases c : x = 0
      · subst c
        exact Nat.le_trans (Lib.bitLen_le 0 0 (by omega) (by omega)) (Nat.zero_le _)
      · rw [Lib.bitLen_half x c (by omega), Lib.bitLen_half y (by omega) (by omega)]
        have := ih (x / 2) (y / 2) (by omega) (by omega) (by omega)
        omega
  exact key _ _ _ (Nat.le_refl _) (by omega) (by omega)
theorem bits_half (i : Int) (h0 : 0 < i) (h1 : i < 65536) : bitsI i = 1 + bitsI (i / 2) := by
  unfold bitsI
  rw [Lib.bitLen_half _ (by omega) (by omega)]
  congr 2
  omega
theorem bits_neg (i : Int) (h : i ≤ 0) : bitsI i = 0 := by
  unfold bitsI
  rw [show (max i 0).toNat = 0 by omega]
  exact Nat.le_zero.1 (Lib.bitLen_le 0 0 (by omega) (by omega))

set_option maxRecDepth 100000 in
set_option maxHeartbeats 1000000 in
theorem cap_law (n m : Int) (hn : 0 ≤ n ∧ n ≤ 65535) (hm : 0 ≤ m ∧ m ≤ 65535) (w : World) :
    Calls Try.prog 7 #[.int .u16 n, .int .u16 m] w fun e w' => e = .returned (.bool true) ∧ Keep (fun _ => False) w w' := by
  obtain ⟨p, hp⟩ : ∃ p, p = min n m := ⟨_, rfl⟩
  obtain ⟨q, hq⟩ : ∃ q, q = max n m := ⟨_, rfl⟩
  have ep : min n m = p := hp.symm
  have eq : max n m = q := hq.symm
  have wp1 : IntKind.i64.wrap p = p := by rw [IntKind.wrap_i64]; omega
  have wq1 : IntKind.i64.wrap q = q := by rw [IntKind.wrap_i64]; omega
  have wn1 : IntKind.i64.wrap n = n := by rw [IntKind.wrap_i64]; omega
  have wn2 : IntKind.i64.wrap (-n) = -n := by rw [IntKind.wrap_i64]; omega
  have CP : Hid (∀ W, Calls Try.prog 10 #[.int .i64 p] W fun e w' => e = .returned (.int .i64 (capI p)) ∧ W = w') := Lib.hid fun W => cap_any p W (by omega) (by omega)
  have CQ : Hid (∀ W, Calls Try.prog 10 #[.int .i64 q] W fun e w' => e = .returned (.int .i64 (capI q)) ∧ W = w') := Lib.hid fun W => cap_any q W (by omega) (by omega)
  have CN : Hid (∀ W, Calls Try.prog 10 #[.int .i64 n] W fun e w' => e = .returned (.int .i64 (capI n)) ∧ W = w') := Lib.hid fun W => cap_any n W (by omega) (by omega)
  have CM : Hid (∀ W, Calls Try.prog 10 #[.int .i64 (-n)] W fun e w' => e = .returned (.int .i64 1) ∧ W = w') := Lib.hid fun W => by
    have h1 : capI (-n) = 1 := by unfold capI; rw [bits_neg _ (by omega)]; rfl
    rw [← h1]
    exact cap_any (-n) W (by omega) (by omega)
  have hpq : capI p ≤ capI q := by
    have := bits_mono p q (by omega) (by omega) (by omega)
    unfold capI
    omega
  have hp1 := capI_pos p
  have hcn : capI n = max 1 (3 * (bitsI n : Int)) := rfl
  have hb64 := bits_le n (by omega)
  generalize capI p = cp at CP hpq hp1
  generalize capI q = cq at CQ hpq
  generalize capI n = cn at CN hcn
  have d1 : decide (cp ≤ cq) = true := decide_eq_true hpq
  have d2 : decide (1 ≤ cp) = true := decide_eq_true hp1
  have HN := Lib.hid hn
  have HCN := Lib.hid hcn
  clear hp hq hm hn hpq hp1 hcn
  go_enter Try.func7, Try.ntmps7
  go_wp2_with fail
  refine (CP.out _).mono ?_
  rintro e w1 ⟨rfl, rfl⟩
  go_wp2_with fail
  refine (CQ.out _).mono ?_
  rintro e w1 ⟨rfl, rfl⟩
  go_wp2_with fail
  go_loopg [7, 8] n.toNat (fun z v7 v8 wr => ∃ (k i : Int), v7 = .int .i64 k ∧ v8 = .int .i64 i ∧ z = i.toNat ∧ 0 ≤ i ∧ i ≤ n ∧ 0 ≤ k ∧ (bitsI n : Int) = k + bitsI i ∧ w = wr)
  case atStart => exact ⟨0, n, rfl, rfl, rfl, HN.out.1, Int.le_refl _, Int.le_refl _, by omega, rfl⟩
  case round =>
    obtain ⟨k, i, rfl, rfl, hz, hi0, hin, hk0, hb, rfl⟩ := hrel
    have HNN := HN.out
    by_cases hi : 0 < i
    · have t1 : decide (0 < i) = true := decide_eq_true hi
      have hbh := bits_half i hi (by omega)
      have e1 : IntKind.i64.wrap (k + 1) = k + 1 := by rw [IntKind.wrap_i64]; omega
      have e2 : IntKind.i64.wrap (i / 2) = i / 2 := by rw [IntKind.wrap_i64]; omega
      have e3 : i.tdiv 2 = i / 2 := Int.tdiv_eq_ediv_of_nonneg hi0
      have HZ := Lib.hid hz
      have HB := Lib.hid hb
      have HBH := Lib.hid hbh
      clear hz hb hbh HNN
      go_wp2
      go_roundg (i / 2).toNat
      case measure => have := HZ.out; omega
      case rel => exact ⟨k + 1, i / 2, rfl, rfl, rfl, by omega, by omega, by omega, by have := HB.out; have := HBH.out; omega, rfl⟩
    · have e0 : i = 0 := by omega
      subst e0
      have t1 : decide ((0 : Int) < 0) = false := by decide
      rw [bits_neg 0 (by omega)] at hb
      have hk : (bitsI n : Int) = k := by omega
      have e3 : IntKind.i64.wrap (3 * k) = 3 * k := by rw [IntKind.wrap_i64]; omega
      have e4 : (max (3 * k) 1 : Int) = cn := by rw [HCN.out, hk]; omega
      have t2 : (cn == cn) = true := by simp
      clear hb hk hz HNN hi
      go_wp2_with fail
      refine (CN.out _).mono ?_
      rintro e w1 ⟨rfl, rfl⟩
      go_wp2_with fail
      refine (CM.out _).mono ?_
      rintro e w1 ⟨rfl, rfl⟩
      go_wp2_with fail
      refine (shown8 _).mono ?_
      rintro e w1 ⟨rfl, hk1⟩
      have K1 := Lib.hid hk1
      clear hk1
      go_wp2
      go_ret
      exact ⟨rfl, K1.out⟩

theorem wf_u16 {n : Int} (h : (Lit.int .u16 n).wf = true) : 0 ≤ n ∧ n ≤ 65535 := by
  simp [Lit.wf, IntKind.min, IntKind.max, IntKind.bits, IntKind.signed] at h
  omega
theorem cap_row (a0 a1 : Int) (w0 : (Lit.int .u16 a0).wf = true) (w1 : (Lit.int .u16 a1).wf = true) (w : World) :
    Calls Try.prog 7 #[.int .u16 a0, .int .u16 a1] w fun e w' => e = .returned (.bool true) ∧ Below w.heap.size w w' :=
  (cap_law a0 a1 (wf_u16 w0) (wf_u16 w1) w).mono fun _ _ ⟨h1, h2⟩ => ⟨h1, h2.below⟩

end Go.Proofs.Ytacfigociobgmaa
