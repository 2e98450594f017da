/- The document's Bits, Wait and Ticks, walked: they are the program's. -/
import Derived.Test.YtojnmbpicmgcpaaRealR
namespace Go.Proofs.Ytojnmbpicmgcpaa
open Go.RowKit Sh Go.Shelf
set_option linter.unusedVariables false

theorem bitLen_zero : Lib.bitLen 0 = 0 := by decide
set_option maxRecDepth 100000 in
theorem rbits_any (n : Int) (w : World) (h1 : n < 9223372036854775808) : Calls Try.prog 39 #[.int .i64 n] w fun e w' => e = .returned (.int .i64 (bitsI n)) ∧ w = w' := by
  have hB := bits_le n h1
  have HB : Hid (∀ m : Nat, m < 9223372036854775808 → m ≠ 0 → Lib.bitLen m = 1 + Lib.bitLen (m / 2)) := Lib.hid (fun m hm h0 => Lib.bitLen_half m h0 (by omega))
  have R0 : Hid (bitsI n = Lib.bitLen (max n 0).toNat) := Lib.hid rfl
  have HN := Lib.hid h1
  clear h1
  go_enter Try.func39, Try.ntmps39
  go_wp2_with fail
  go_loopg [0, 3] (max n 0).toNat (fun q v0 v3 wr => ∃ (m : Int) (k : Nat), v0 = .int .i64 m ∧ v3 = .int .i64 (k : Int) ∧ (max m 0).toNat = q ∧ m < 9223372036854775808 ∧ k + Lib.bitLen (max m 0).toNat = bitsI n ∧ wr = w)
  case atStart => exact ⟨n, 0, rfl, rfl, rfl, HN.out, by rw [R0.out]; omega, rfl⟩
  case round =>
    obtain ⟨m, k, rfl, rfl, hq, hm, hk, rfl⟩ := hrel
    have HQ := Lib.hid hq
    have HK := Lib.hid hk
    have HM := Lib.hid hm
    clear hq hk hm
    by_cases h0 : 0 < m
    · have d1 : decide (0 < m) = true := decide_eq_true h0
      have e1 : IntKind.i64.wrap (m.tdiv 2) = m.tdiv 2 := by rw [Int.tdiv_eq_ediv_of_nonneg (by omega), IntKind.wrap_i64]; have := HM.out; omega
      have e2 : IntKind.i64.wrap ((k : Int) + 1) = ((k + 1 : Nat) : Int) := by
        have := HK.out
        rw [IntKind.wrap_i64]; omega
      have em : (max (m.tdiv 2) 0).toNat = (max m 0).toNat / 2 := by rw [Int.tdiv_eq_ediv_of_nonneg (by omega)]; omega
      have hz : (max m 0).toNat ≠ 0 := by omega
      have hz2 : (max m 0).toNat < 9223372036854775808 := by have := HM.out; omega
      have EM := Lib.hid em
      have HZ := Lib.hid hz
      have HZ2 := Lib.hid hz2
      clear em hz hz2
      go_wp2_with fail
      go_roundg ((max m 0).toNat / 2)
      case measure => have := HQ.out; have := HZ.out; omega
      case rel => exact ⟨m.tdiv 2, k + 1, by go_num, by go_num, EM.out, by have := HM.out; rw [Int.tdiv_eq_ediv_of_nonneg (by omega)]; omega, by
          have := HB.out _ HZ2.out HZ.out
          have := HK.out
          rw [EM.out]; omega, rfl⟩
    · have d1 : decide (0 < m) = false := decide_eq_false h0
      have hz : (max m 0).toNat = 0 := by omega
      have hk2 : k = bitsI n := by
        have := HK.out
        rw [hz, bitLen_zero] at this
        omega
      have HK2 := Lib.hid hk2
      clear hz hk2
      go_wp2
      go_ret
      exact ⟨by rw [HK2.out]; rfl, rfl⟩

set_option maxRecDepth 100000 in
set_option maxHeartbeats 1000000 in
theorem rwait_core (base y z G D P1 P2 V1 V2 L1 L2 q1 q2 R : Nat) (nodes : Int) (b t : Nat) (ht : t < 9223372036854775808) (hcl : Hid (∀ w, Calls Try.prog 38 #[.float .f64 base, .float .f64 0, .float .f64 4652007308841189376] w fun e w' => e = .returned (.float .f64 y) ∧ w = w'))
    (HB : Hid (∀ W, Calls Try.prog 39 #[.int .i64 nodes] W fun e w' => e = .returned (.int .i64 b) ∧ W = w'))
    (hmul : FloatKind.f64.format.mul y (FloatKind.f64.nearest (b : Int)) = some z)
    (tb : Bool) (hz : (FloatKind.f64.format.order z y == some Ordering.lt) = tb) (hG : G = if tb = true then y else z)
    (hq1 : ∀ W, (binOp .quo 35 (.float .f64 (floatOfInt .f64 1)) (.float .f64 (floatOfInt .f64 3))).run Try.prog W = .ok (.float .f64 q1) W)
    (hq2 : ∀ W, (binOp .quo 35 (.float .f64 (floatOfInt .f64 2)) (.float .f64 (floatOfInt .f64 3))).run Try.prog W = .ok (.float .f64 q2) W)
    (hd : ∀ W, (binOp .sub 35 (.float .f64 G) (.float .f64 y)).run Try.prog W = .ok (.float .f64 D) W)
    (hp1 : ∀ W, (binOp .mul 35 (.float .f64 q1) (.float .f64 D)).run Try.prog W = .ok (.float .f64 P1) W)
    (hp2 : ∀ W, (binOp .mul 35 (.float .f64 q2) (.float .f64 D)).run Try.prog W = .ok (.float .f64 P2) W)
    (hv1 : ∀ W, (binOp .sub 35 (.float .f64 G) (.float .f64 P1)).run Try.prog W = .ok (.float .f64 V1) W)
    (hv2 : ∀ W, (binOp .sub 35 (.float .f64 G) (.float .f64 P2)).run Try.prog W = .ok (.float .f64 V2) W)
    (hl1 : FloatKind.f64.format.order V1 y = some (compare V1 y)) (hL1 : L1 = max V1 y)
    (hl2 : FloatKind.f64.format.order V2 y = some (compare V2 y)) (hL2 : L2 = max V2 y)
    (W0 : Hid (t = 0 → R = G)) (W1 : Hid (t = 1 → R = L1)) (W2 : Hid (t = 2 → R = L2)) (W3 : Hid (3 ≤ t → R = y)) (w : World) :
    Calls Try.prog 29 #[.float .f64 base, .int .i64 nodes, .int .i64 (t : Int), .int .i64 3] w fun e w' => e = .returned (.float .f64 R) ∧ w = w' := by
  have hbm : ∀ W, (binOp .mul 35 (.float .f64 y) (.float .f64 (floatOfInt .f64 (b : Int)))).run Try.prog W = .ok (.float .f64 z) W := fun W => by
    rw [show floatOfInt .f64 (b : Int) = FloatKind.f64.nearest (b : Int) from rfl]
    simp only [binOp, Op.floatArith, hmul]
    rfl
  have ctn : Hid (t = 0 ∨ t = 1 ∨ t = 2 ∨ 3 ≤ t) := Lib.hid (by omega)
  have HL1 := Lib.hid hL1
  have HL2 := Lib.hid hL2
  have HD1 := Lib.hid hl1
  have HD2 := Lib.hid hl2
  clear hmul hL1 hL2 hl1 hl2
  cases tb
  all_goals
    simp only [if_true, Bool.false_eq_true, if_false] at hG
    have hG2 := hG.symm
    clear hG
    subst hG2
    go_enter Try.func29, Try.ntmps29
    go_wp2_with fail
    refine (hcl.out _).mono ?_
    rintro e w2 ⟨rfl, rfl⟩
    go_wp2_with fail
    refine (HB.out _).mono ?_
    rintro e w3 ⟨rfl, rfl⟩
    rcases ctn.out with rfl | rfl | rfl | h3
    · have E0 := Lib.hid (W0.out rfl)
      clear W0 W1 W2 W3 ctn
      go_wp2
      go_ret
      exact ⟨by rw [E0.out]; rfl, rfl⟩
    · have E0 := Lib.hid (W1.out rfl)
      clear W0 W1 W2 W3 ctn
      by_cases c : V1 < y
      · have hl := HD1.out
        rw [Nat.compare_eq_lt.2 c] at hl
        have e : L1 = y := by rw [HL1.out]; omega
        have E := Lib.hid e
        clear e c
        go_wp2
        go_ret
        exact ⟨by rw [E0.out, E.out]; rfl, rfl⟩
      · have hl2 : (FloatKind.f64.format.order V1 y == some Ordering.lt) = false := by
          rw [HD1.out, beq_eq_false_iff_ne]
          intro h
          injection h with h
          exact c (Nat.compare_eq_lt.1 h)
        have e : L1 = V1 := by rw [HL1.out]; omega
        have E := Lib.hid e
        clear e c
        go_wp2
        go_ret
        exact ⟨by rw [E0.out, E.out]; rfl, rfl⟩
    · have E0 := Lib.hid (W2.out rfl)
      clear W0 W1 W2 W3 ctn
      by_cases c : V2 < y
      · have hl := HD2.out
        rw [Nat.compare_eq_lt.2 c] at hl
        have e : L2 = y := by rw [HL2.out]; omega
        have E := Lib.hid e
        clear e c
        go_wp2
        go_ret
        exact ⟨by rw [E0.out, E.out]; rfl, rfl⟩
      · have hl2 : (FloatKind.f64.format.order V2 y == some Ordering.lt) = false := by
          rw [HD2.out, beq_eq_false_iff_ne]
          intro h
          injection h with h
          exact c (Nat.compare_eq_lt.1 h)
        have e : L2 = V2 := by rw [HL2.out]; omega
        have E := Lib.hid e
        clear e c
        go_wp2
        go_ret
        exact ⟨by rw [E0.out, E.out]; rfl, rfl⟩
    · have E0 := Lib.hid (W3.out h3)
      clear W0 W1 W2 W3 ctn
      have d1 : ¬ t = 0 := by omega
      have d2 : decide (t = 0) = false := decide_eq_false d1
      have d3 : (3 : Int) ≤ (t : Int) := by omega
      have d4 : decide ((3 : Int) ≤ (t : Int)) = true := decide_eq_true (by omega)
      go_wp2
      go_ret
      exact ⟨by rw [E0.out]; rfl, rfl⟩
theorem lt_word {x y : Nat} (hx : x < INF) (hy : y < INF) : (FloatKind.f64.format.order x y == some Ordering.lt) = decide (x < y) := by
  rw [show FloatKind.f64.format.order x y = some (compare x y) from order_word hx hy, Bool.eq_iff_iff, beq_iff_eq, decide_eq_true_eq]
  constructor
  · intro h
    injection h with h
    exact Nat.compare_eq_lt.1 h
  · intro h
    rw [Nat.compare_eq_lt.2 h]
theorem g_if (y b : Nat) : gW y b = if decide (wordN (prod y (bW b)) < y) = true then y else wordN (prod y (bW b)) := by
  unfold gW
  generalize wordN (prod y (bW b)) = z
  by_cases c : z < y
  · rw [decide_eq_true c, if_pos rfl]; omega
  · rw [decide_eq_false c, if_neg (by simp)]; omega
theorem rwait_word (base y : Nat) (nodes : Int) (b t : Nat) (h1 : nodes < 9223372036854775808) (ht : t < 9223372036854775808) (hy : y ≤ K1000) (hcl : ∀ w, Calls Try.prog 38 #[.float .f64 base, .float .f64 0, .float .f64 4652007308841189376] w fun e w' => e = .returned (.float .f64 y) ∧ w = w')
    (hb : bitsI nodes = b) (w : World) :
    Calls Try.prog 29 #[.float .f64 base, .int .i64 nodes, .int .i64 (t : Int), .int .i64 3] w fun e w' => e = .returned (.float .f64 (waitW y b t)) ∧ w = w' := by
  have hb64 : b ≤ 64 := by rw [← hb]; exact bits_le nodes h1
  have yi := Nat.lt_of_le_of_lt hy k_inf
  have gi := Nat.lt_of_le_of_lt (g_le hy hb64) c_inf
  have hmul : FloatKind.f64.format.mul y (FloatKind.f64.nearest (b : Int)) = some (wordN (prod y (bW b))) := by
    rw [bW_nearest]; exact mul_word yi (Nat.lt_of_le_of_lt (bW_le hb64) w64_inf)
  have zi : wordN (prod y (bW b)) < INF := Nat.lt_of_le_of_lt (Nat.le_trans (Nat.le_max_left _ y) (g_le hy hb64)) c_inf
  have HB : Hid (∀ W, Calls Try.prog 39 #[.int .i64 nodes] W fun e w' => e = .returned (.int .i64 b) ∧ W = w') := Lib.hid (fun W => by rw [← hb]; exact rbits_any nodes W h1)
  have q1 := Nat.le_trans q_one.1 q_one.2
  have di := Nat.lt_of_le_of_lt (d_le hy hb64) gi
  have p1 := p_le (q := Q1) hy hb64 q1
  have p2 := p_le (q := Q2) hy hb64 q_one.2
  exact rwait_core base y _ (gW y b) (dW y b) (pW y b Q1) (pW y b Q2) (wordN (val (gW y b) - val (pW y b Q1))) (wordN (val (gW y b) - val (pW y b Q2))) (lW y b Q1) (lW y b Q2) Q1 Q2 _ nodes b t ht (Lib.hid hcl) HB hmul (decide (wordN (prod y (bW b)) < y)) (lt_word zi yi) (g_if y b) quo_1 quo_2
    (sub_run gi yi (y_le_g y b)) (mul_run (Nat.lt_of_le_of_lt q1 one_inf) di) (mul_run (Nat.lt_of_le_of_lt q_one.2 one_inf) di)
    (sub_run gi (Nat.lt_of_le_of_lt p1 gi) p1) (sub_run gi (Nat.lt_of_le_of_lt p2 gi) p2)
    (order_word (Nat.lt_of_le_of_lt (sub_le (n := val (pW y b Q1)) gi) gi) yi) rfl (order_word (Nat.lt_of_le_of_lt (sub_le (n := val (pW y b Q2)) gi) gi) yi) rfl
    (Lib.hid (fun h => by rw [h]; exact w0 y b)) (Lib.hid (fun h => by rw [h]; exact w1 y b)) (Lib.hid (fun h => by rw [h]; exact w2 y b)) (Lib.hid (fun h => w3 y b t h)) w
end Go.Proofs.Ytojnmbpicmgcpaa
