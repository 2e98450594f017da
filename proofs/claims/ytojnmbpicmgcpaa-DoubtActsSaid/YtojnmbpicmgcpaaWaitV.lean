/- Walks of real.Wait and real.Ticks, whoever tells; how long a doubt is. -/
import Derived.Test.YtojnmbpicmgcpaaWaitT
namespace Go.Proofs.Ytojnmbpicmgcpaa
open Go.RowKit Sh Go.Shelf
set_option linter.unusedVariables false

theorem max_word {z y : Nat} (hz : z < INF) (hy : y < INF) (W : World) : (Builtin.max_ #[35, 35] 35 #[.float .f64 z, .float .f64 y]).run Try.prog W = .ok (.float .f64 (max z y)) W := by
  have ho : FloatKind.f64.format.order z y = some (compare z y) := order_word hz hy
  have hd : FloatKind.f64.decode z = .number false (mg z) ((pl z : Int) - 1074) := read_word hz
  simp only [Builtin.max_, List.foldlM, Builtin.max2, ho]
  rcases Nat.lt_trichotomy z y with c | c | c
  · rw [Nat.compare_eq_lt.2 c, Nat.max_eq_right (by omega)]; rfl
  · subst c
    rw [Nat.compare_eq_eq.2 rfl, Nat.max_self, hd]; rfl
  · rw [Nat.compare_eq_gt.2 c, Nat.max_eq_left (by omega)]; rfl
theorem sub_run {x y : Nat} (hx : x < INF) (hy : y < INF) (h : y ≤ x) (W : World) : (binOp .sub 35 (.float .f64 x) (.float .f64 y)).run Try.prog W = .ok (.float .f64 (wordN (val x - val y))) W := by
  have hs : FloatKind.f64.format.sub x y = some (wordN (val x - val y)) := sub_word hx hy h
  simp only [binOp, Op.floatArith, hs]
  rfl
theorem mul_run {x y : Nat} (hx : x < INF) (hy : y < INF) (W : World) : (binOp .mul 35 (.float .f64 x) (.float .f64 y)).run Try.prog W = .ok (.float .f64 (wordN (prod x y))) W := by
  have hs : FloatKind.f64.format.mul x y = some (wordN (prod x y)) := mul_word hx hy
  simp only [binOp, Op.floatArith, hs]
  rfl
set_option maxRecDepth 100000 in
theorem less_word {y b q : Nat} (hy : y ≤ K1000) (hb : b ≤ 64) (hq : q ≤ ONE) {w : World} {g l : Nat} (hg : w.cell? ⟨g, 0, none⟩ = some (.float .f64 (gW y b))) (hl : w.cell? ⟨l, 0, none⟩ = some (.float .f64 y)) :
    Calls Try.prog 45 #[.float .f64 q, .pointer (some ⟨g, 0, none⟩), .pointer (some ⟨l, 0, none⟩)] w fun e w' => e = .returned (.float .f64 (lW y b q)) ∧ w = w' := by
  have gi := Nat.lt_of_le_of_lt (g_le hy hb) c_inf
  have yi := Nat.lt_of_le_of_lt hy k_inf
  have h1 := sub_run gi yi (y_le_g y b)
  have h2 := mul_run (Nat.lt_of_le_of_lt hq one_inf) (Nat.lt_of_le_of_lt (d_le hy hb) gi)
  have h3 := sub_run gi (Nat.lt_of_le_of_lt (p_le hy hb hq) gi) (p_le hy hb hq)
  have h4 := max_word (Nat.lt_of_le_of_lt (sub_le (n := val (pW y b q)) gi) gi) yi
  have e1 : dW y b = wordN (val (gW y b) - val y) := rfl
  have e2 : pW y b q = wordN (prod q (dW y b)) := rfl
  have e3 : lW y b q = max (wordN (val (gW y b) - val (pW y b q))) y := rfl
  rw [← e1] at h1
  rw [← e2] at h2
  rw [← e3] at h4
  clear e1 e2 e3 gi yi hy hb hq
  generalize gW y b = G at *
  generalize dW y b = D at *
  generalize pW y b q = P at *
  generalize lW y b q = R at *
  generalize wordN (val G - val P) = V at *
  go_enter Try.func45, Try.ntmps45
  go_wp2
  go_ret
  exact ⟨rfl, rfl⟩

theorem quo_1 (W : World) : (binOp .quo 35 (.float .f64 (floatOfInt .f64 1)) (.float .f64 (floatOfInt .f64 3))).run Try.prog W = .ok (.float .f64 Q1) W := by kernel_rfl
theorem quo_2 (W : World) : (binOp .quo 35 (.float .f64 (floatOfInt .f64 2)) (.float .f64 (floatOfInt .f64 3))).run Try.prog W = .ok (.float .f64 Q2) W := by kernel_rfl
set_option maxRecDepth 100000 in
set_option maxHeartbeats 1000000 in
theorem wait_coreT (base y z G L1 L2 q1 q2 R : Nat) (nodes : Int) (b t : Nat) (ht : t < 9223372036854775808) (hcl : ∀ w, Calls Try.prog 43 #[.float .f64 base, .float .f64 0, .float .f64 4652007308841189376] w fun e w' => e = .returned (.float .f64 y) ∧ w = w')
    (HB : Hid (∀ W, Calls Try.prog 44 #[.int .i64 nodes] W fun e w' => e = .returned (.int .i64 b) ∧ W = w'))
    (hmul : FloatKind.f64.format.mul y (FloatKind.f64.nearest (b : Int)) = some z)
    (hmx : ∀ W, (Builtin.max_ #[35, 35] 35 #[.float .f64 z, .float .f64 y]).run Try.prog W = .ok (.float .f64 G) W)
    (hq1 : ∀ W, (binOp .quo 35 (.float .f64 (floatOfInt .f64 1)) (.float .f64 (floatOfInt .f64 3))).run Try.prog W = .ok (.float .f64 q1) W)
    (hq2 : ∀ W, (binOp .quo 35 (.float .f64 (floatOfInt .f64 2)) (.float .f64 (floatOfInt .f64 3))).run Try.prog W = .ok (.float .f64 q2) W)
    (LQ1 : Hid (∀ W g l, W.cell? ⟨g, 0, none⟩ = some (.float .f64 G) → W.cell? ⟨l, 0, none⟩ = some (.float .f64 y) → Calls Try.prog 45 #[.float .f64 q1, .pointer (some ⟨g, 0, none⟩), .pointer (some ⟨l, 0, none⟩)] W fun e w' => e = .returned (.float .f64 L1) ∧ W = w'))
    (LQ2 : Hid (∀ W g l, W.cell? ⟨g, 0, none⟩ = some (.float .f64 G) → W.cell? ⟨l, 0, none⟩ = some (.float .f64 y) → Calls Try.prog 45 #[.float .f64 q2, .pointer (some ⟨g, 0, none⟩), .pointer (some ⟨l, 0, none⟩)] W fun e w' => e = .returned (.float .f64 L2) ∧ W = w'))
    (W0 : Hid (t = 0 → R = G)) (W1 : Hid (t = 1 → R = L1)) (W2 : Hid (t = 2 → R = L2)) (W3 : Hid (3 ≤ t → R = y)) (w : World) :
    Calls Try.prog 36 #[.float .f64 base, .int .i64 nodes, .int .i64 (t : Int), .int .i64 3] w fun e w' => e = .returned (.float .f64 R) ∧ Keep (fun _ => False) w w' := by
  have HC := Lib.hid hcl
  have hbm : ∀ W, (binOp .mul 35 (.float .f64 y) (.float .f64 (floatOfInt .f64 (b : Int)))).run Try.prog W = .ok (.float .f64 z) W := fun W => by
    rw [show floatOfInt .f64 (b : Int) = FloatKind.f64.nearest (b : Int) from rfl]
    simp only [binOp, Op.floatArith, hmul]
    rfl
  have hsf : ∀ (a : Addr) (x : Nat) (w : World), (store a (.float .f64 x) .plain).run Try.prog w = stored Try.prog w a (.float .f64 x) .plain := fun a x w => run_store Try.prog w a (.float .f64 x) .plain rfl
  have ctn : Hid (t = 0 ∨ t = 1 ∨ t = 2 ∨ 3 ≤ t) := Lib.hid (by omega)
  clear hcl hmul
  go_enter Try.func36, Try.ntmps36
  go_wp2_with fail
  refine (HC.out _).mono ?_
  rintro e w2 ⟨rfl, rfl⟩
  go_upto_region 2 with fail
  go_cut [9, 10] (fun v9 v10 wx => v9 = .pointer (some ⟨w.heap.size, 0, none⟩) ∧ v10 = .pointer (some ⟨w.heap.size + 1, 0, none⟩) ∧ wx.cell? ⟨w.heap.size, 0, none⟩ = some (.float .f64 y) ∧ wx.cell? ⟨w.heap.size + 1, 0, none⟩ = some (.float .f64 G) ∧ Keep (fun _ => False) w wx)
  case first =>
    go_region_held3 (fun W => W.cell? ⟨w.heap.size, 0, none⟩ = some (.float .f64 y)) (go_keep) (first | (go_at_call 44; refine (HB.out _).mono ?_; rintro e w' ⟨rfl, rfl⟩))
    all_goals
      go_wp2_with fail
      go_meet
      refine ⟨rfl, by simp, ?_, ?_, (((Keep.refl _ w).alloc _).alloc _).drew⟩
      · exact (((Keep.refl (fun _ => False) _).alloc _).drew).cell (cell_new rfl rfl)
      · exact cell_newd (by simp) rfl
  case rest =>
    obtain ⟨rfl, rfl, c9, c10, hk⟩ := hcut
    have KC := Lib.hid hk
    clear hk
    rcases ctn.out with rfl | rfl | rfl | h3
    · have E0 := Lib.hid (W0.out rfl)
      clear W0 W1 W2 W3 LQ1 LQ2 ctn
      go_wp2
      go_ret
      exact ⟨by rw [E0.out]; rfl, KC.out⟩
    · have E0 := Lib.hid (W1.out rfl)
      have HQ := LQ1
      clear W0 W1 W2 W3 LQ1 LQ2 ctn
      go_wp2_with fail
      refine (HQ.out _ _ _ c10 c9).mono ?_
      rintro e w3 ⟨rfl, rfl⟩
      go_wp2
      go_ret
      exact ⟨by rw [E0.out]; rfl, KC.out⟩
    · have E0 := Lib.hid (W2.out rfl)
      have HQ := LQ2
      clear W0 W1 W2 W3 LQ1 LQ2 ctn
      go_wp2_with fail
      refine (HQ.out _ _ _ c10 c9).mono ?_
      rintro e w3 ⟨rfl, rfl⟩
      go_wp2
      go_ret
      exact ⟨by rw [E0.out]; rfl, KC.out⟩
    · have E0 := Lib.hid (W3.out h3)
      clear W0 W1 W2 W3 LQ1 LQ2 ctn
      have d1 : ¬ t = 0 := by omega
      have d2 : decide (t = 0) = false := decide_eq_false d1
      have d3 : (3 : Int) ≤ (t : Int) := by omega
      have d4 : decide ((3 : Int) ≤ (t : Int)) = true := decide_eq_true (by omega)
      go_wp2
      go_ret
      exact ⟨by rw [E0.out]; rfl, KC.out⟩

theorem wait_word (base y : Nat) (nodes : Int) (b t : Nat) (h0 : -9223372036854775808 ≤ nodes) (h1 : nodes < 9223372036854775808) (ht : t < 9223372036854775808) (hy : y ≤ K1000) (hcl : ∀ w, Calls Try.prog 43 #[.float .f64 base, .float .f64 0, .float .f64 4652007308841189376] w fun e w' => e = .returned (.float .f64 y) ∧ w = w')
    (hb : bitsI nodes = b) (w : World) :
    Calls Try.prog 36 #[.float .f64 base, .int .i64 nodes, .int .i64 (t : Int), .int .i64 3] w fun e w' => e = .returned (.float .f64 (waitW y b t)) ∧ Keep (fun _ => False) w w' := by
  have hb64 : b ≤ 64 := by rw [← hb]; exact bits_le nodes h1
  have yi := Nat.lt_of_le_of_lt hy k_inf
  have hmul : FloatKind.f64.format.mul y (FloatKind.f64.nearest (b : Int)) = some (wordN (prod y (bW b))) := by
    rw [bW_nearest]; exact mul_word yi (Nat.lt_of_le_of_lt (bW_le hb64) w64_inf)
  have zi : wordN (prod y (bW b)) < INF := Nat.lt_of_le_of_lt (Nat.le_trans (Nat.le_max_left _ y) (g_le hy hb64)) c_inf
  have HB : Hid (∀ W, Calls Try.prog 44 #[.int .i64 nodes] W fun e w' => e = .returned (.int .i64 b) ∧ W = w') := Lib.hid (fun W => by rw [← hb]; exact bits_any nodes W h0 h1)
  exact wait_coreT base y _ (gW y b) (lW y b Q1) (lW y b Q2) Q1 Q2 _ nodes b t ht hcl HB hmul (max_word zi yi) quo_1 quo_2
    (Lib.hid (fun W g l => less_word hy hb64 (Nat.le_trans q_one.1 q_one.2))) (Lib.hid (fun W g l => less_word hy hb64 q_one.2))
    (Lib.hid (fun h => by rw [h]; exact w0 y b)) (Lib.hid (fun h => by rw [h]; exact w1 y b)) (Lib.hid (fun h => by rw [h]; exact w2 y b)) (Lib.hid (fun h => w3 y b t h)) w
end Go.Proofs.Ytojnmbpicmgcpaa
