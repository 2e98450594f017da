/- Walks of real.Wait and real.Ticks, whoever tells; how long a doubt is. Walk of real.Ticks in words; how long a doubt is that so many told. Walk of Doubts.Raise, where one more tells a doubt, or one that told it. -/
import Derived.Test.YtofonfohaocclaaGreatDoorG06
import Derived.Test.YtofonfohaocclaaGreatDoorG03
import Derived.Test.YtofonfohaocclaaGreatDoorG04
namespace Go.Proofs.YtofonfohaocclaaGreatDoor.D
open Go.RowKit Sh Go.Shelf
set_option linter.unusedVariables false

theorem max_word {z y : Nat} (hz : z < INF) (hy : y < INF) (W : World) : (Builtin.max_ #[181, 181] 181 #[.float .f64 z, .float .f64 y]).run Tryz.prog W = .ok (.float .f64 (max z y)) W := by
  have ho : FloatKind.f64.format.order z y = some (compare z y) := order_word hz hy
  have hd : FloatKind.f64.decode z = .number false (mg z) ((pl z : Int) - 1074) := read_word hz
  simp only [Builtin.max_, List.foldlM, Builtin.max2, ho]
  rcases Nat.lt_trichotomy z y with c | c | c
  · rw [Nat.compare_eq_lt.2 c, Nat.max_eq_right (by omega)]; rfl
  · subst c
    rw [Nat.compare_eq_eq.2 rfl, Nat.max_self, hd]; rfl
  · rw [Nat.compare_eq_gt.2 c, Nat.max_eq_left (by omega)]; rfl
theorem sub_run {x y : Nat} (hx : x < INF) (hy : y < INF) (h : y ≤ x) (W : World) : (binOp .sub 181 (.float .f64 x) (.float .f64 y)).run Tryz.prog W = .ok (.float .f64 (wordN (val x - val y))) W := by
  have hs : FloatKind.f64.format.sub x y = some (wordN (val x - val y)) := sub_word hx hy h
  simp only [binOp, Op.floatArith, hs]
  rfl
theorem mul_run {x y : Nat} (hx : x < INF) (hy : y < INF) (W : World) : (binOp .mul 181 (.float .f64 x) (.float .f64 y)).run Tryz.prog W = .ok (.float .f64 (wordN (prod x y))) W := by
  have hs : FloatKind.f64.format.mul x y = some (wordN (prod x y)) := mul_word hx hy
  simp only [binOp, Op.floatArith, hs]
  rfl
set_option maxRecDepth 100000 in
theorem less_word {y b q : Nat} (hy : y ≤ K1000) (hb : b ≤ 64) (hq : q ≤ ONE) {w : World} {g l : Nat} (hg : w.cell? ⟨g, 0, none⟩ = some (.float .f64 (gW y b))) (hl : w.cell? ⟨l, 0, none⟩ = some (.float .f64 y)) :
    Calls Tryz.prog 190 #[.float .f64 q, .pointer (some ⟨g, 0, none⟩), .pointer (some ⟨l, 0, none⟩)] w fun e w' => e = .returned (.float .f64 (lW y b q)) ∧ w = w' := by
  have gi := Nat.lt_of_le_of_lt (g_le hy hb) c_inf
  have yi := Nat.lt_of_le_of_lt hy k_inf
  have h1 := sub_run gi yi (y_le_g y b)
  have h2 := mul_run (Nat.lt_of_le_of_lt hq one_inf) (Nat.lt_of_le_of_lt (d_le hy hb) gi)
  have h3 := sub_run gi (Nat.lt_of_le_of_lt (p_le hy hb hq) gi) (p_le hy hb hq)
  have h4 := max_word (Nat.lt_of_le_of_lt (sub_le (n := val (pW y b q)) gi) gi) yi
  have e1 : dW y b = wordN (val (gW y b) - val y) := rfl
  have e2 : pW y b q = wordN (prod q (dW y b)) := rfl
  have e3 : lW y b q = max (wordN (val (gW y b) - val (pW y b q))) y := rfl
  rw [← e1] at h1
  rw [← e2] at h2
  rw [← e3] at h4
  clear e1 e2 e3 gi yi hy hb hq
  generalize gW y b = G at *
  generalize dW y b = D at *
  generalize pW y b q = P at *
  generalize lW y b q = R at *
  generalize wordN (val G - val P) = V at *
  go_enter Tryz.func190, Tryz.ntmps190
  go_wp2
  go_ret
  exact ⟨rfl, rfl⟩

theorem quo_1 (W : World) : (binOp .quo 181 (.float .f64 (floatOfInt .f64 1)) (.float .f64 (floatOfInt .f64 3))).run Tryz.prog W = .ok (.float .f64 Q1) W := by kernel_rfl
theorem quo_2 (W : World) : (binOp .quo 181 (.float .f64 (floatOfInt .f64 2)) (.float .f64 (floatOfInt .f64 3))).run Tryz.prog W = .ok (.float .f64 Q2) W := by kernel_rfl
set_option maxRecDepth 100000 in
set_option maxHeartbeats 1000000 in
theorem wait_coreT (base y z G L1 L2 q1 q2 R : Nat) (nodes : Int) (b t : Nat) (ht : t < 9223372036854775808) (hcl : ∀ w, Calls Tryz.prog 189 #[.float .f64 base, .float .f64 0, .float .f64 4652007308841189376] w fun e w' => e = .returned (.float .f64 y) ∧ w = w')
    (HB : Hid (∀ W, Calls Tryz.prog 152 #[.int .i64 nodes] W fun e w' => e = .returned (.int .i64 b) ∧ W = w'))
    (hmul : FloatKind.f64.format.mul y (FloatKind.f64.nearest (b : Int)) = some z)
    (hmx : ∀ W, (Builtin.max_ #[181, 181] 181 #[.float .f64 z, .float .f64 y]).run Tryz.prog W = .ok (.float .f64 G) W)
    (hq1 : ∀ W, (binOp .quo 181 (.float .f64 (floatOfInt .f64 1)) (.float .f64 (floatOfInt .f64 3))).run Tryz.prog W = .ok (.float .f64 q1) W)
    (hq2 : ∀ W, (binOp .quo 181 (.float .f64 (floatOfInt .f64 2)) (.float .f64 (floatOfInt .f64 3))).run Tryz.prog W = .ok (.float .f64 q2) W)
    (LQ1 : Hid (∀ W g l, W.cell? ⟨g, 0, none⟩ = some (.float .f64 G) → W.cell? ⟨l, 0, none⟩ = some (.float .f64 y) → Calls Tryz.prog 190 #[.float .f64 q1, .pointer (some ⟨g, 0, none⟩), .pointer (some ⟨l, 0, none⟩)] W fun e w' => e = .returned (.float .f64 L1) ∧ W = w'))
    (LQ2 : Hid (∀ W g l, W.cell? ⟨g, 0, none⟩ = some (.float .f64 G) → W.cell? ⟨l, 0, none⟩ = some (.float .f64 y) → Calls Tryz.prog 190 #[.float .f64 q2, .pointer (some ⟨g, 0, none⟩), .pointer (some ⟨l, 0, none⟩)] W fun e w' => e = .returned (.float .f64 L2) ∧ W = w'))
    (W0 : Hid (t = 0 → R = G)) (W1 : Hid (t = 1 → R = L1)) (W2 : Hid (t = 2 → R = L2)) (W3 : Hid (3 ≤ t → R = y)) (w : World) :
    Calls Tryz.prog 166 #[.float .f64 base, .int .i64 nodes, .int .i64 (t : Int), .int .i64 3] w fun e w' => e = .returned (.float .f64 R) ∧ Keep (fun _ => False) w w' := by
  have HC := Lib.hid hcl
  have hbm : ∀ W, (binOp .mul 181 (.float .f64 y) (.float .f64 (floatOfInt .f64 (b : Int)))).run Tryz.prog W = .ok (.float .f64 z) W := fun W => by
    rw [show floatOfInt .f64 (b : Int) = FloatKind.f64.nearest (b : Int) from rfl]
    simp only [binOp, Op.floatArith, hmul]
    rfl
  have hsf : ∀ (a : Addr) (x : Nat) (w : World), (store a (.float .f64 x) .plain).run Tryz.prog w = stored Tryz.prog w a (.float .f64 x) .plain := fun a x w => run_store Tryz.prog w a (.float .f64 x) .plain rfl
  have ctn : Hid (t = 0 ∨ t = 1 ∨ t = 2 ∨ 3 ≤ t) := Lib.hid (by omega)
  clear hcl hmul
  go_enter Tryz.func166, Tryz.ntmps166
  go_wp2_with fail
  refine (HC.out _).mono ?_
  rintro e w2 ⟨rfl, rfl⟩
  go_upto_region 2 with fail
  go_cut [9, 10] (fun v9 v10 wx => v9 = .pointer (some ⟨w.heap.size, 0, none⟩) ∧ v10 = .pointer (some ⟨w.heap.size + 1, 0, none⟩) ∧ wx.cell? ⟨w.heap.size, 0, none⟩ = some (.float .f64 y) ∧ wx.cell? ⟨w.heap.size + 1, 0, none⟩ = some (.float .f64 G) ∧ Keep (fun _ => False) w wx)
  case first =>
    go_region_held3 (fun W => W.cell? ⟨w.heap.size, 0, none⟩ = some (.float .f64 y)) (go_keep) (first | (go_at_call 152; refine (HB.out _).mono ?_; rintro e w' ⟨rfl, rfl⟩))
    all_goals
      go_wp2_with fail
      go_meet
      refine ⟨rfl, by simp, ?_, ?_, (((Keep.refl _ w).alloc _).alloc _).drew⟩
      · exact (((Keep.refl (fun _ => False) _).alloc _).drew).cell (cell_new rfl rfl)
      · exact cell_newd (by simp) rfl
  case rest =>
    obtain ⟨rfl, rfl, c9, c10, hk⟩ := hcut
    have KC := Lib.hid hk
    clear hk
    rcases ctn.out with rfl | rfl | rfl | h3
    · have E0 := Lib.hid (W0.out rfl)
      clear W0 W1 W2 W3 LQ1 LQ2 ctn
      go_wp2
      go_ret
      exact ⟨by rw [E0.out]; rfl, KC.out⟩
    · have E0 := Lib.hid (W1.out rfl)
      have HQ := LQ1
      clear W0 W1 W2 W3 LQ1 LQ2 ctn
      go_wp2_with fail
      refine (HQ.out _ _ _ c10 c9).mono ?_
      rintro e w3 ⟨rfl, rfl⟩
      go_wp2
      go_ret
      exact ⟨by rw [E0.out]; rfl, KC.out⟩
    · have E0 := Lib.hid (W2.out rfl)
      have HQ := LQ2
      clear W0 W1 W2 W3 LQ1 LQ2 ctn
      go_wp2_with fail
      refine (HQ.out _ _ _ c10 c9).mono ?_
      rintro e w3 ⟨rfl, rfl⟩
      go_wp2
      go_ret
      exact ⟨by rw [E0.out]; rfl, KC.out⟩
    · have E0 := Lib.hid (W3.out h3)
      clear W0 W1 W2 W3 LQ1 LQ2 ctn
      have d1 : ¬ t = 0 := by omega
      have d2 : decide (t = 0) = false := decide_eq_false d1
      have d3 : (3 : Int) ≤ (t : Int) := by omega
      have d4 : decide ((3 : Int) ≤ (t : Int)) = true := decide_eq_true (by omega)
      go_wp2
      go_ret
      exact ⟨by rw [E0.out]; rfl, KC.out⟩

theorem wait_word (base y : Nat) (nodes : Int) (b t : Nat) (h0 : -9223372036854775808 ≤ nodes) (h1 : nodes < 9223372036854775808) (ht : t < 9223372036854775808) (hy : y ≤ K1000) (hcl : ∀ w, Calls Tryz.prog 189 #[.float .f64 base, .float .f64 0, .float .f64 4652007308841189376] w fun e w' => e = .returned (.float .f64 y) ∧ w = w')
    (hb : bitsI nodes = b) (w : World) :
    Calls Tryz.prog 166 #[.float .f64 base, .int .i64 nodes, .int .i64 (t : Int), .int .i64 3] w fun e w' => e = .returned (.float .f64 (waitW y b t)) ∧ Keep (fun _ => False) w w' := by
  have hb64 : b ≤ 64 := by rw [← hb]; exact bits_le nodes h1
  have yi := Nat.lt_of_le_of_lt hy k_inf
  have hmul : FloatKind.f64.format.mul y (FloatKind.f64.nearest (b : Int)) = some (wordN (prod y (bW b))) := by
    rw [bW_nearest]; exact mul_word yi (Nat.lt_of_le_of_lt (bW_le hb64) w64_inf)
  have zi : wordN (prod y (bW b)) < INF := Nat.lt_of_le_of_lt (Nat.le_trans (Nat.le_max_left _ y) (g_le hy hb64)) c_inf
  have HB : Hid (∀ W, Calls Tryz.prog 152 #[.int .i64 nodes] W fun e w' => e = .returned (.int .i64 b) ∧ W = w') := Lib.hid (fun W => by rw [← hb]; exact bits_any nodes W h0 h1)
  exact wait_coreT base y _ (gW y b) (lW y b Q1) (lW y b Q2) Q1 Q2 _ nodes b t ht hcl HB hmul (max_word zi yi) quo_1 quo_2
    (Lib.hid (fun W g l => less_word hy hb64 (Nat.le_trans q_one.1 q_one.2))) (Lib.hid (fun W g l => less_word hy hb64 q_one.2))
    (Lib.hid (fun h => by rw [h]; exact w0 y b)) (Lib.hid (fun h => by rw [h]; exact w1 y b)) (Lib.hid (fun h => by rw [h]; exact w2 y b)) (Lib.hid (fun h => w3 y b t h)) w
end Go.Proofs.YtofonfohaocclaaGreatDoor.D

namespace Go.Proofs.YtofonfohaocclaaGreatDoor.D
open Go.RowKit Sh Go.Shelf
open Go.ChangeMaps (setBlock)
set_option linter.unusedVariables false

theorem conv_word {y : Nat} (hy : y < INF) (ht : truncW y < 18446744073709551616) (w : World) : (convert 181 29 (.float .f64 y)).run Tryz.prog w = .ok (.int .u64 (truncW y)) w := by
  have e : (convert 181 29 (.float .f64 y)).run Tryz.prog w = (Conv.floatToInt .f64 y .u64).run Tryz.prog w := by
    simp only [convert, Sem.run_bind, run_underlying Tryz.underlying181, run_underlying Tryz.underlying29, Result.andThen]
  have h : (FloatKind.f64.decode y).toInt .zero = some (truncW y : Int) := trunc_word hy
  rw [e]
  unfold Conv.floatToInt
  rw [h]
  dsimp only
  rw [if_pos (show IntKind.u64.min ≤ (truncW y : Int) ∧ (truncW y : Int) ≤ IntKind.u64.max from by
    constructor
    · show (0 : Int) ≤ _; omega
    · show _ ≤ (18446744073709551615 : Int); omega)]
  rfl
theorem ceil_any {x : Nat} (hx : x < INF) (w : World) : Calls Tryz.prog 188 #[.float .f64 x] w fun e w' => e = .returned (.float .f64 (ceilW x)) ∧ w = w' := by
  have h1 : FloatKind.f64.decode x = .number false (mg x) ((pl x : Int) - 1074) := read_word hx
  have h2 : FloatKind.f64.encode ((FloatKind.f64.decode x).integral .up) = ceilW x := ceil_word hx
  rw [h1] at h2
  exact math_ceil_num x (ceilW x) false (mg x) _ h1 h2 w
set_option maxRecDepth 100000 in
theorem ticks_core (m c : Nat) (t : Nat) (h0 : FloatKind.f64.format.order m 0 = some (compare m 0)) (h1 : FloatKind.f64.format.order m 4787326403894837248 = some .lt) (hc : Hid (∀ w, Calls Tryz.prog 188 #[.float .f64 m] w fun e w' => e = .returned (.float .f64 c) ∧ w = w')) (hv : ∀ w, (convert 181 29 (.float .f64 c)).run Tryz.prog w = .ok (.int .u64 (t : Int)) w) (w : World) :
    Calls Tryz.prog 165 #[.float .f64 m] w fun e w' => e = .returned (.int .u64 ((if m = 0 then 0 else t : Nat) : Int)) ∧ w = w' := by
  by_cases hm : m = 0
  · subst hm
    have h2 : FloatKind.f64.format.order 0 0 = some .eq := h0
    clear h0
    rw [if_pos rfl]
    go_enter Tryz.func165, Tryz.ntmps165
    go_wp2
    go_ret
    exact ⟨rfl, rfl⟩
  · rw [if_neg hm]
    rw [Nat.compare_eq_gt.2 (by omega)] at h0
    clear hm
    go_enter Tryz.func165, Tryz.ntmps165
    go_wp2_with fail
    refine (hc.out _).mono ?_
    rintro e w' ⟨rfl, rfl⟩
    go_wp2
    go_ret
    exact ⟨rfl, rfl⟩
theorem ticks_word {m : Nat} (hm : m ≤ C64K) (w : World) : Calls Tryz.prog 165 #[.float .f64 m] w fun e w' => e = .returned (.int .u64 (tickW m : Int)) ∧ w = w' := by
  have hi := Nat.lt_of_le_of_lt hm c_inf
  have hc := Nat.lt_of_le_of_lt (ceil_le hm) c_inf
  have e : truncW C64K = 64000 := by kernel_rfl
  have ht : truncW (ceilW m) ≤ 64000 := by rw [← e]; exact truncW_mono hc c_inf (ceil_le hm)
  have h1 : FloatKind.f64.format.order m 4787326403894837248 = some (compare m 4787326403894837248) := order_word hi (by decide)
  rw [Nat.compare_eq_lt.2 (by unfold C64K at hm; omega)] at h1
  exact ticks_core m (ceilW m) (truncW (ceilW m)) (order_word hi (by decide)) h1 (Lib.hid (ceil_any hi)) (conv_word hc (by omega)) w

/-- How long a doubt is that t others told: it takes u t. -/
structure Waits (base : Nat) (nodes : Int) (u : Nat → Nat) : Prop where
  ex : ∃ m : Nat → Nat, (∀ t : Nat, t < 9223372036854775808 → ∀ w, Calls Tryz.prog 166 #[.float .f64 base, .int .i64 nodes, .int .i64 (t : Int), .int .i64 3] w fun e w' => e = .returned (.float .f64 (m t)) ∧ Keep (fun _ => False) w w') ∧ ∀ (t : Nat) w, Calls Tryz.prog 165 #[.float .f64 (m t)] w fun e w' => e = .returned (.int .u64 (u t : Int)) ∧ w = w'
  le : ∀ t : Nat, u t ≤ 64000
  anti : ∀ t : Nat, u (t + 1) ≤ u t
theorem waits_some (base : Nat) (hb : base < 18446744073709551616) (nodes : Int) (h0 : -9223372036854775808 ≤ nodes) (h1 : nodes < 9223372036854775808) : ∃ u, Waits base nodes u := by
  obtain ⟨y, hy, hc⟩ := clean_word base hb
  have hb64 := bits_le nodes h1
  have a1 := fun t ht w => wait_word base y nodes (bitsI nodes) t h0 h1 ht hy hc rfl w
  have a2 := fun t w => ticks_word (wait_le hy hb64 t) w
  have a3 := fun t => tick_le (wait_le hy hb64 t)
  have a4 := fun t => tick_mono (wait_anti hy hb64 t) (wait_le hy hb64 t)
  obtain ⟨m, hm⟩ : ∃ m : Nat → Nat, m = fun t => waitW y (bitsI nodes) t := ⟨_, rfl⟩
  have hm2 : ∀ t, waitW y (bitsI nodes) t = m t := fun t => by rw [hm]
  simp only [hm2] at a1 a2 a3 a4
  obtain ⟨v, hv⟩ : ∃ v : Nat → Nat, v = tickW := ⟨_, rfl⟩
  rw [← hv] at a2 a3 a4
  clear hm hm2 hv hc
  exact ⟨fun t => v (m t), ⟨m, a1, a2⟩, a3, a4⟩
theorem Waits.is {base : Nat} {nodes : Int} {u : Nat → Nat} (h : Waits base nodes u) : WaitIs base nodes (fun t => t = (u 0 : Int)) := by
  obtain ⟨m, h1, h2⟩ := h.ex
  exact ⟨m 0, fun w => h1 0 (by omega) w, fun w => (h2 0 w).mono fun _ _ ⟨e1, e2⟩ => ⟨⟨(u 0 : Int), e1, by omega, by have := h.le 0; omega, rfl⟩, by subst e2; exact Keep.refl _ _⟩⟩
end Go.Proofs.YtofonfohaocclaaGreatDoor.D

namespace Go.Proofs.YtofonfohaocclaaGreatDoor.D
open Go.RowKit Sh
open Go.ChangeMaps (setBlock)
set_option linter.unusedVariables false

theorem and_pow_ne (x n : Nat) : (x &&& 2 ^ n ≠ 0) ↔ x.testBit n = true := by
  constructor
  · intro h
    rcases hb : x.testBit n with _ | _
    · exfalso
      apply h
      refine Nat.eq_of_testBit_eq fun i => ?_
      rw [Nat.testBit_and, Nat.testBit_two_pow, Nat.zero_testBit]
      by_cases c : n = i
      · subst c; simp [hb]
      · simp [c]
    · rfl
  · intro h h0
    have := Nat.testBit_and x (2 ^ n) n
    rw [h0, Nat.zero_testBit, h, Nat.testBit_two_pow] at this
    simp at this
theorem has_bit (f k : Nat) (hf : f < 18446744073709551616) (hk : k ≤ 63) (w : World) : Calls Tryz.prog 72 #[.int .u64 (f : Int), .int .i64 k] w fun e w' => e = .returned (.bool (f.testBit k)) ∧ w = w' := by
  have h1 : (2 : Nat) ^ k ≤ 2 ^ 63 := Nat.pow_le_pow_right (by omega) hk
  have h2 : ((2 : Int) ^ k) = ((2 ^ k : Nat) : Int) := by push_cast; rfl
  have e1 : bits BinOp.and IntKind.u64 (f : Int) ((2 : Int) ^ k) = ((f &&& 2 ^ k : Nat) : Int) := by
    rw [h2]; exact bits_and_u64_nat f (2 ^ k) hf (by omega)
  have e2 : (((f &&& 2 ^ k : Nat) : Int) != 0) = f.testBit k := by
    rw [Bool.eq_iff_iff, bne_iff_ne, ← and_pow_ne]
    omega
  have HB := Lib.hid (fun W => bit_any k hk W)
  clear h1 h2 hf hk
  generalize ((2 : Int) ^ k) = p at *
  generalize (f &&& 2 ^ k) = r at *
  generalize f.testBit k = b at *
  go_enter Tryz.func72, Tryz.ntmps72
  go_wp2_with fail
  refine (HB.out _).mono ?_
  rintro e w' ⟨rfl, rfl⟩
  go_wp2
  go_ret
  exact ⟨by rw [← e2]; rfl, rfl⟩
theorem with_bit (f k : Nat) (hf : f < 18446744073709551616) (hk : k ≤ 63) (w : World) : Calls Tryz.prog 43 #[.int .u64 (f : Int), .int .i64 k] w fun e w' => e = .returned (.int .u64 ((f ||| 2 ^ k : Nat) : Int)) ∧ w = w' := by
  have h1 : (2 : Nat) ^ k ≤ 2 ^ 63 := Nat.pow_le_pow_right (by omega) hk
  have h2 : ((2 : Int) ^ k) = ((2 ^ k : Nat) : Int) := by push_cast; rfl
  have e1 : bits BinOp.or IntKind.u64 (f : Int) ((2 : Int) ^ k) = ((f ||| 2 ^ k : Nat) : Int) := by
    rw [h2]; exact bits_or_u64_nat f (2 ^ k) hf (by omega)
  have HB := Lib.hid (fun W => bit_any k hk W)
  clear h1 h2 hf hk
  generalize ((2 : Int) ^ k) = p at *
  generalize (f ||| 2 ^ k) = r at *
  go_enter Tryz.func43, Tryz.ntmps43
  go_wp2_with fail
  refine (HB.out _).mono ?_
  rintro e w' ⟨rfl, rfl⟩
  go_wp2
  go_ret
  exact ⟨rfl, rfl⟩

set_option maxRecDepth 100000 in
set_option maxHeartbeats 1000000 in
theorem dwait_told {w : World} {b : Nat} {x : Db} {base : Nat} {nodes : Int} {u : Nat → Nat} (hT : Waits base nodes u) (hb : w.heap[b]? = some (.cells (dbC x).toArray 153 (0, 0))) (t : Nat) (ht : x.t = (t : Int)) (ht2 : t < 9223372036854775808) (hc : 0 ≤ x.c ∧ x.c < 18446744073709551616) :
    Calls Tryz.prog 148 #[.pointer (some ⟨b, 0, none⟩), .int .i64 nodes, .float .f64 base] w fun e w' => e = .returned (.tuple #[]) ∧ w'.heap[b]? = some (.cells (dbC { x with u := sat x.c (u t) }).toArray 153 (0, 0)) ∧ Keep (fun k => k = b) w w' := by
  obtain ⟨m, h1, h2⟩ := hT.ex
  have H1 := Lib.hid (h1 t ht2)
  have H2 := Lib.hid (h2 t)
  have hle := hT.le t
  obtain ⟨n, i, s, f, c, t0, v⟩ := x
  simp only at ht hc ⊢
  subst ht
  have BB := Lib.hid hb
  have HC := Lib.hid hc
  have c4 : w.drew.cell? ⟨b, 4, none⟩ = some (.int .u64 c) := by show w.cell? _ = _; simp [World.cell?, hb, dbC]
  have c5 : w.drew.cell? ⟨b, 5, none⟩ = some (.int .u64 t) := by show w.cell? _ = _; simp [World.cell?, hb, dbC]
  have c6 : w.drew.cell? ⟨b, 6, none⟩ = some (.int .u64 v) := by show w.cell? _ = _; simp [World.cell?, hb, dbC]
  have r6 : w.drew.frozen? ⟨b, 6, none⟩ = false := by show w.frozen? _ = _; simp [World.frozen?, hb]
  have KD : Hid (Keep (fun _ => False) w w.drew) := Lib.hid (Keep.refl _ w).drew
  have wt : IntKind.i64.wrap (t : Int) = t := by rw [IntKind.wrap_i64]; omega
  generalize hs : sat c (u t : Int) = st
  have HS := Lib.hid hs
  have had := fun W => add_run c (u t) HC.out.1 (by omega) W
  have HD := Lib.hid (fun W => held_any c (u t) HC.out ⟨by omega, by omega⟩ W)
  rw [hs] at HD
  clear h1 h2 hb hc hs hle
  generalize ((u t : Nat) : Int) = ut at *
  generalize m t = mt at *
  generalize (c + ut) % 18446744073709551616 = lo at *
  generalize (c + ut) / 18446744073709551616 = hi at *
  go_enter Tryz.func148, Tryz.ntmps148
  go_upto_region 1 with fail
  go_region_held3 (fun W => W.cell? ⟨b, 4, none⟩ = some (.int .u64 c) ∧ W.cell? ⟨b, 5, none⟩ = some (.int .u64 t)) (go_keep) (first
    | (go_at_call 166; refine (H1.out _).mono ?_; rintro e w1 ⟨rfl, hk1⟩; have f4 := hk1.cell c4; have f5 := hk1.cell c5; have f6 := hk1.cell c6; have s6 := hk1.fro c6 r6; have K1 := Lib.hid (KD.out.step hk1); have z4 := fun v => set_other (w := w1) (v := v) (o := 6) (o' := 4) (by decide) f4; have z5 := fun v => set_other (w := w1) (v := v) (o := 6) (o' := 5) (by decide) f5; clear hk1)
    | (go_at_call 165; refine (H2.out _).mono ?_; rintro e w2 ⟨rfl, rfl⟩)
    | (go_at_call 163; refine (HD.out _).mono ?_; rintro e w3 ⟨rfl, rfl⟩))
  all_goals
    go_wp2
    go_end0
    refine ⟨rfl, ?_, (K1.out.mono (T := fun k => k = b) (fun _ h _ => absurd h id)).setAt 6 (.int .u64 st)⟩
    have h2 := heap_setCell_at (K1.out.old BB.out id) 6 (.int .u64 st)
    simpa [dbC] using h2
end Go.Proofs.YtofonfohaocclaaGreatDoor.D
