/- Walks of real.Bits and real.Wait. -/
import Derived.Test.YtojnmbpicmgcpaaFloat
import Derived.Shelf.Small.Bits
import Derived.Shelf.Lays
namespace Go.Proofs.Ytojnmbpicmgcpaa
open Go.RowKit Sh Go.Shelf
set_option linter.unusedVariables false
def Try.bitsLen_ren : Go.Shelf.Ren := ⟨fun | 125 => 41 | 128 => 55 | 129 => 56 | n => n, fun | 46 => 81 | 3 => 3 | 51 => 52 | 53 => 32 | 4 => 4 | 5 => 5 | 9 => 9 | n => n, fun | n => n⟩
theorem Try.bitsLen : Go.Proofs.Lays.n125 Try.prog Try.bitsLen_ren := {
  mixed := by kernel_rfl
  f125 := Try.func41.trans (congrArg some (by kernel_rfl))
  f128 := Try.func55.trans (congrArg some (by kernel_rfl))
  f129 := Try.func56.trans (congrArg some (by kernel_rfl))
  t3 := Try.underlying3
  a3 := Try.isAgg3
  z3 := Try.sizeOf3
  v3 := Try.zeroValue3
  t4 := Try.underlying4
  a4 := Try.isAgg4
  z4 := Try.sizeOf4
  v4 := Try.zeroValue4
  t5 := Try.underlying5
  a5 := Try.isAgg5
  z5 := Try.sizeOf5
  v5 := Try.zeroValue5
  t9 := Try.underlying9
  a9 := Try.isAgg9
  z9 := Try.sizeOf9
  v9 := Try.zeroValue9
  t46 := Try.underlying81
  a46 := Try.isAgg81
  z46 := Try.sizeOf81
  v46 := Try.zeroValue81
  t51 := Try.underlying52
  a51 := Try.isAgg52
  z51 := Try.sizeOf52
  v51 := Try.zeroValue52
  t53 := Try.underlying32
  a53 := Try.isAgg32
  z53 := Try.sizeOf32
  v53 := Try.zeroValue32 }

theorem len_any (n : Int) (w : World) (h0 : 0 ≤ n) (h1 : n < 18446744073709551616) : Calls Try.prog 41 #[.int .u64 n] w fun e w' => e = .returned (.int .i64 (Lib.bitLen n.toNat : Nat)) ∧ w = w' :=
  (Any.bits_Len Try.bitsLen n w h0 (by omega)).mono fun _ _ ⟨he, hw⟩ => ⟨he, hw.symm⟩

def bitsI (n : Int) : Nat := Lib.bitLen (max n 0).toNat
theorem bits_any (n : Int) (w : World) (h0 : -9223372036854775808 ≤ n) (h1 : n < 9223372036854775808) : Calls Try.prog 44 #[.int .i64 n] w fun e w' => e = .returned (.int .i64 (bitsI n)) ∧ w = w' := by
  unfold bitsI
  have e1 : IntKind.u64.wrap (max n 0) = max n 0 := by rw [IntKind.wrap_u64]; omega
  have e0 : (max n 0) < 18446744073709551616 := by omega
  have e2 : 0 ≤ max n 0 := by omega
  go_enter Try.func44, Try.ntmps44
  go_wp2_with fail
  refine (len_any _ _ e2 e0).mono ?_
  rintro e w' ⟨rfl, rfl⟩
  go_wp2
  go_ret
  exact ⟨rfl, rfl⟩
theorem bits_le (n : Int) (h1 : n < 9223372036854775808) : bitsI n ≤ 64 := Lib.bitLen_le _ 64 (by omega) (by omega)

theorem nn_nearest (neg : Bool) (mag : Nat) (place : Int) : NN (FloatKind.f64.format.nearest neg mag place) := by
  have key : ∀ r : Nat, r ≤ 9218868437227405312 → NN (FloatKind.f64.format.word neg r) := by
    intro r hr s t hd
    have hd' : FloatKind.f64.format.read (FloatKind.f64.format.word neg r) = .nan s t := hd
    have e1 : FloatKind.f64.format.signWeight = 9223372036854775808 := by decide
    have e2 : FloatKind.f64.format.infRung = 9218868437227405312 := by decide
    have e3 : FloatKind.f64.format.binade = 4503599627370496 := by decide
    have hw : FloatKind.f64.format.word neg r % 9223372036854775808 = r := by
      unfold Ieee.Format.word
      rw [e1]
      split <;> omega
    unfold Ieee.Format.read at hd'
    simp only [e1, e2, e3, hw] at hd'
    split at hd'
    · cases hd'
    · split at hd'
      · cases hd'
      · split at hd'
        · cases hd'
        · omega
  unfold Ieee.Format.nearest
  split
  · exact key 0 (by omega)
  · refine key _ ?_
    exact Nat.min_le_right _ _
theorem num_bits : ∀ b : Fin 65, Num (FloatKind.f64.nearest (b.val : Int)) := by
  have key : ∀ b : Fin 65, (match FloatKind.f64.format.read (FloatKind.f64.nearest (b.val : Int)) with | .number _ _ _ => true | _ => false) = true := by decide +kernel
  intro b
  have := key b
  split at this
  · rename_i s m e h
    exact ⟨s, m, e, h⟩
  · cases this
theorem mul_num {x y : Nat} (h : Num x) (k : Num y) : ∃ z, FloatKind.f64.format.mul x y = some z ∧ NN z := by
  obtain ⟨s, m, e, h⟩ := h
  obtain ⟨s', m', e', k⟩ := k
  unfold Ieee.Format.mul
  rw [h, k]
  exact ⟨_, rfl, nn_nearest _ _ _⟩
theorem order_nn {x y : Nat} (h : NN x) (k : Num y) : ∃ o, FloatKind.f64.format.order x y = some o := by
  obtain ⟨s', m', e', k⟩ := k
  unfold Ieee.Format.order
  rw [k]
  cases hd : FloatKind.f64.format.read x with
  | nan s t => exact absurd hd (h s t)
  | infinity s => exact ⟨_, rfl⟩
  | number s m e => exact ⟨_, rfl⟩

set_option maxRecDepth 100000 in
set_option maxHeartbeats 1000000 in
theorem wait_core (base y z m : Nat) (nodes : Int) (b : Nat) (h0 : -9223372036854775808 ≤ nodes) (h1 : nodes < 9223372036854775808) (hcl : ∀ w, Calls Try.prog 43 #[.float .f64 base, .float .f64 0, .float .f64 4652007308841189376] w fun e w' => e = .returned (.float .f64 y) ∧ w = w')
    (hb : bitsI nodes = b) (hmul : FloatKind.f64.format.mul y (FloatKind.f64.nearest (b : Int)) = some z) (hmax : ∀ W, (Builtin.max_ #[35, 35] 35 #[.float .f64 z, .float .f64 y]).run Try.prog W = .ok (.float .f64 m) W) (w : World) :
    Calls Try.prog 36 #[.float .f64 base, .int .i64 nodes, .int .i64 0, .int .i64 3] w fun e w' => e = .returned (.float .f64 m) ∧ Keep (fun _ => False) w w' := by
  have HB : Hid (∀ W, Calls Try.prog 44 #[.int .i64 nodes] W fun e w' => e = .returned (.int .i64 b) ∧ W = w') := Lib.hid (fun W => by rw [← hb]; exact bits_any nodes W h0 h1)
  have HC := Lib.hid hcl
  have hbm : ∀ W, (binOp .mul 35 (.float .f64 y) (.float .f64 (floatOfInt .f64 (b : Int)))).run Try.prog W = .ok (.float .f64 z) W := fun W => by
    rw [show floatOfInt .f64 (b : Int) = FloatKind.f64.nearest (b : Int) from rfl]
    simp only [binOp, Op.floatArith, hmul]
    rfl
  have hsf : ∀ (a : Addr) (x : Nat) (w : World), (store a (.float .f64 x) .plain).run Try.prog w = stored Try.prog w a (.float .f64 x) .plain := fun a x w => run_store Try.prog w a (.float .f64 x) .plain rfl
  clear hcl hb h0 h1
  go_enter Try.func36, Try.ntmps36
  go_wp2_with fail
  refine (HC.out _).mono ?_
  rintro e w2 ⟨rfl, rfl⟩
  go_upto_region 2 with fail
  go_region_held3 (fun W => W.cell? ⟨w.heap.size, 0, none⟩ = some (.float .f64 y)) (go_keep) (first | (go_at_call 44; refine (HB.out _).mono ?_; rintro e w' ⟨rfl, rfl⟩))
  all_goals
    go_wp2
    go_ret
    exact ⟨rfl, (((Keep.refl _ w).alloc _).alloc _).drew⟩
theorem max_some {z y : Nat} {o : Ordering} (h : FloatKind.f64.format.order z y = some o) : ∃ m, ∀ W, (Builtin.max_ #[35, 35] 35 #[.float .f64 z, .float .f64 y]).run Try.prog W = .ok (.float .f64 m) W := by
  cases o with
  | lt => exact ⟨y, fun W => by simp only [Builtin.max_, List.foldlM, Builtin.max2, h]; rfl⟩
  | gt => exact ⟨z, fun W => by simp only [Builtin.max_, List.foldlM, Builtin.max2, h]; rfl⟩
  | eq => exact ⟨if (FloatKind.f64.decode z).neg then y else z, fun W => by simp only [Builtin.max_, List.foldlM, Builtin.max2, h]; rfl⟩
theorem wait_some (base : Nat) (nodes : Int) (h0 : -9223372036854775808 ≤ nodes) (h1 : nodes < 9223372036854775808) : ∃ m, ∀ w, Calls Try.prog 36 #[.float .f64 base, .int .i64 nodes, .int .i64 0, .int .i64 3] w fun e w' => e = .returned (.float .f64 m) ∧ Keep (fun _ => False) w w' := by
  obtain ⟨y, hy, hc⟩ := clean_some base
  have hb := bits_le nodes h1
  obtain ⟨z, hz, hnn⟩ := mul_num hy (num_bits ⟨bitsI nodes, by omega⟩)
  obtain ⟨o, ho⟩ := order_nn hnn hy
  obtain ⟨m, hm⟩ := max_some ho
  exact ⟨m, fun w => wait_core base y z m nodes (bitsI nodes) h0 h1 hc rfl hz hm w⟩
set_option maxRecDepth 100000 in
theorem clean_two (w : World) : Calls Try.prog 43 #[.float .f64 4611686018427387904, .float .f64 0, .float .f64 4652007308841189376] w fun e w' => e = .returned (.float .f64 4611686018427387904) ∧ w = w' := by
  go_enter Try.func43, Try.ntmps43
  go_wp2_with fail
  refine (isnan_any 4611686018427387904 false (by kernel_rfl) _).mono ?_
  rintro e w2 ⟨rfl, rfl⟩
  go_wp2
  go_ret
  exact ⟨rfl, rfl⟩
theorem wait_two (w : World) : Calls Try.prog 36 #[.float .f64 4611686018427387904, .int .i64 1, .int .i64 0, .int .i64 3] w fun e w' => e = .returned (.float .f64 4611686018427387904) ∧ Keep (fun _ => False) w w' :=
  wait_core 4611686018427387904 4611686018427387904 4611686018427387904 4611686018427387904 1 1 (by omega) (by omega) clean_two (by decide) (by kernel_rfl) (fun W => by
    have h : FloatKind.f64.format.order 4611686018427387904 4611686018427387904 = some .eq := by kernel_rfl
    simp only [Builtin.max_, List.foldlM, Builtin.max2, h]
    rfl) w
theorem wait_14 (w : World) : Calls Try.prog 36 #[.float .f64 4611686018427387904, .int .i64 64, .int .i64 0, .int .i64 3] w fun e w' => e = .returned (.float .f64 4624070917402656768) ∧ Keep (fun _ => False) w w' :=
  wait_core 4611686018427387904 4611686018427387904 4624070917402656768 4624070917402656768 64 7 (by omega) (by omega) clean_two (by decide) (by kernel_rfl) (fun W => by
    have h : FloatKind.f64.format.order 4624070917402656768 4611686018427387904 = some .gt := by kernel_rfl
    simp only [Builtin.max_, List.foldlM, Builtin.max2, h]
    rfl) w

/-- how long a doubt is, that nobody else told. -/
def WaitIs (base : Nat) (nodes : Int) (T : Int → Prop) : Prop := ∃ m, (∀ w, Calls Try.prog 36 #[.float .f64 base, .int .i64 nodes, .int .i64 0, .int .i64 3] w fun e w' => e = .returned (.float .f64 m) ∧ Keep (fun _ => False) w w') ∧ ∀ w, Calls Try.prog 35 #[.float .f64 m] w fun e w' => (∃ t, e = .returned (.int .u64 t) ∧ 0 ≤ t ∧ t < 18446744073709551616 ∧ T t) ∧ Keep (fun _ => False) w w'
theorem waitis_some (base : Nat) (nodes : Int) (h0 : -9223372036854775808 ≤ nodes) (h1 : nodes < 9223372036854775808) : WaitIs base nodes (fun _ => True) := by
  obtain ⟨m, hm⟩ := wait_some base nodes h0 h1
  exact ⟨m, hm, fun w => (ticks_some m w).mono fun _ _ ⟨⟨t, h1, h2, h3⟩, h4⟩ => ⟨⟨t, h1, h2, h3, trivial⟩, h4⟩⟩
theorem waitis_two : WaitIs 4611686018427387904 1 (fun t => t = 2) :=
  ⟨_, wait_two, fun w => (ticks_two w).mono fun _ _ ⟨h1, h2⟩ => ⟨⟨2, h1, by omega, by omega, rfl⟩, by subst h2; exact Keep.refl _ _⟩⟩
theorem waitis_14 : WaitIs 4611686018427387904 64 (fun t => t = 14) :=
  ⟨_, wait_14, fun w => (ticks_14 w).mono fun _ _ ⟨h1, h2⟩ => ⟨⟨14, h1, by omega, by omega, rfl⟩, by subst h2; exact Keep.refl _ _⟩⟩

end Go.Proofs.Ytojnmbpicmgcpaa
