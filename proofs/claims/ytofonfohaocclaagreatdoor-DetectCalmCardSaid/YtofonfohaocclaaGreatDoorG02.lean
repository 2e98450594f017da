/- Small functions: may, bands' bits. Reals: Ticks, Clean, Wait. Walks of real.Bits and real.Wait. -/
import Derived.Test.YtofonfohaocclaaGreatDoorG01
import Derived.Laws.Externs
import Derived.Laws.Bits64b
import Derived.Shelf.Small.Bits
import Derived.Shelf.Lays
namespace Go.Proofs.YtofonfohaocclaaGreatDoor.D
open Go.RowKit Sh
open Go.ChangeMaps (setBlock)
set_option linter.unusedVariables false

theorem cell_new {w : World} {n i : Nat} {cs : Array Value} {t : TypeId} {v : Value} (hn : n = w.heap.size) (h : cs[i]? = some v) : (w.alloc (.cells cs t)).cell? ⟨n, i, none⟩ = some v := by
  subst hn
  have hn := heap_alloc_new w (.cells cs t)
  simp only [World.cell?, hn]
  exact h
theorem cell_newd {w : World} {n i : Nat} {cs : Array Value} {t : TypeId} {v : Value} (hn : n = w.heap.size) (h : cs[i]? = some v) : (w.alloc (.cells cs t)).drew.cell? ⟨n, i, none⟩ = some v := cell_new hn h
/-- An update, as a value. -/
def updV (n i s : Int) : Value := .agg #[.int .i64 n, .int .u64 i, .int .i64 s]
def mayU (n s : Int) : Bool := decide (0 ≤ n ∧ n < 64 ∧ 0 ≤ s ∧ s ≤ 3)
theorem toldmay_any (n i s : Int) (w : World) : Calls Tryz.prog 130 #[updV n i s] w fun e w' => e = .returned (.bool (mayU n s)) ∧ Keep (fun _ => False) w w' := by
  unfold updV
  by_cases h1 : 0 ≤ n
  · have t1 : decide (0 ≤ n) = true := decide_eq_true h1
    by_cases h2 : n < 64
    · have t2 : decide (n < 64) = true := decide_eq_true h2
      by_cases h3 : 0 ≤ s
      · have t3 : decide (0 ≤ s) = true := decide_eq_true h3
        by_cases h4 : s ≤ 3
        · have t4 : decide (s ≤ 3) = true := decide_eq_true h4
          rw [show mayU n s = true by simp [mayU, h1, h2, h3, h4]]
          go_enter Tryz.func130, Tryz.ntmps130
          go_wp2
          go_ret
          exact ⟨rfl, (Keep.refl _ w).alloc _⟩
        · have t4 : decide (s ≤ 3) = false := decide_eq_false h4
          rw [show mayU n s = false by simp [mayU, h4]]
          go_enter Tryz.func130, Tryz.ntmps130
          go_wp2
          go_ret
          exact ⟨rfl, (Keep.refl _ w).alloc _⟩
      · have t3 : decide (0 ≤ s) = false := decide_eq_false h3
        rw [show mayU n s = false by simp [mayU, h3]]
        go_enter Tryz.func130, Tryz.ntmps130
        go_wp2
        go_ret
        exact ⟨rfl, (Keep.refl _ w).alloc _⟩
    · have t2 : decide (n < 64) = false := decide_eq_false h2
      rw [show mayU n s = false by simp [mayU, h2]]
      go_enter Tryz.func130, Tryz.ntmps130
      go_wp2
      go_ret
      exact ⟨rfl, (Keep.refl _ w).alloc _⟩
  · have t1 : decide (0 ≤ n) = false := decide_eq_false h1
    rw [show mayU n s = false by simp [mayU, h1]]
    go_enter Tryz.func130, Tryz.ntmps130
    go_wp2
    go_ret
    exact ⟨rfl, (Keep.refl _ w).alloc _⟩
theorem may_any (n i s : Int) (w : World) : Calls Tryz.prog 93 #[updV n i s] w fun e w' => e = .returned (.bool (mayU n s)) ∧ Keep (fun _ => False) w w' := by
  unfold updV
  go_enter Tryz.func93, Tryz.ntmps93
  go_wp2_with fail
  refine (toldmay_any n i s _).mono ?_
  rintro e w1 ⟨rfl, hk⟩
  have HK := Lib.hid (((Keep.refl (fun _ => False) w).alloc _).step hk)
  clear hk
  go_wp2
  go_ret
  exact ⟨rfl, HK.out⟩


theorem pow_u64 (n : Nat) (hn : n ≤ 63) : IntKind.u64.wrap ((2 : Int) ^ n) = (2 : Int) ^ n := by
  have h1 : (2 : Nat) ^ n ≤ 2 ^ 63 := Nat.pow_le_pow_right (by omega) hn
  have h2 : ((2 : Int) ^ n) = ((2 ^ n : Nat) : Int) := by push_cast; rfl
  rw [IntKind.wrap_u64, h2]
  generalize (2 : Nat) ^ n = m at h1 ⊢
  omega
theorem bit_any (n : Nat) (hn : n ≤ 63) (w : World) : Calls Tryz.prog 90 #[.int .i64 n] w fun e w' => e = .returned (.int .u64 ((2 : Int) ^ n)) ∧ w = w' := by
  have d1 : decide ((n : Int) < 0) = false := decide_eq_false (by omega)
  have d2 : decide ((63 : Int) < (n : Int)) = false := decide_eq_false (by omega)
  have d3 : ¬ (63 : Int) < (n : Int) := by omega
  have e1 := pow_u64 n hn
  go_enter Tryz.func90, Tryz.ntmps90
  go_wp2
  go_ret
  exact ⟨rfl, rfl⟩
theorem or_zero (n : Nat) (hn : n ≤ 63) : bits BinOp.or IntKind.u64 0 ((2 : Int) ^ n) = (2 : Int) ^ n := by
  have h1 : (2 : Nat) ^ n ≤ 2 ^ 63 := Nat.pow_le_pow_right (by omega) hn
  have h2 : ((2 : Int) ^ n) = ((2 ^ n : Nat) : Int) := by push_cast; rfl
  rw [h2]
  have := bits_or_u64_nat 0 (2 ^ n) (by omega) (by omega)
  simpa using this
theorem with_zero (n : Nat) (hn : n ≤ 63) (w : World) : Calls Tryz.prog 43 #[.int .u64 0, .int .i64 n] w fun e w' => e = .returned (.int .u64 ((2 : Int) ^ n)) ∧ w = w' := by
  have e1 := pow_u64 n hn
  have e2 := or_zero n hn
  go_enter Tryz.func43, Tryz.ntmps43
  go_wp2_with fail
  refine (bit_any n hn _).mono ?_
  rintro e w' ⟨rfl, rfl⟩
  go_wp2
  go_ret
  exact ⟨rfl, rfl⟩
theorem has_one (w : World) : Calls Tryz.prog 72 #[.int .u64 2, .int .i64 1] w fun e w' => e = .returned (.bool true) ∧ w = w' := by
  have e1 : bits BinOp.and IntKind.u64 2 2 = 2 := by decide
  go_enter Tryz.func72, Tryz.ntmps72
  go_wp2_with fail
  refine (bit_any 1 (by omega) _).mono ?_
  rintro e w' ⟨rfl, rfl⟩
  go_wp2
  go_ret
  exact ⟨rfl, rfl⟩

end Go.Proofs.YtofonfohaocclaaGreatDoor.D

namespace Go.Proofs.YtofonfohaocclaaGreatDoor.D
open Go.RowKit Sh
set_option linter.unusedVariables false

theorem ceil_run (x : Nat) (w : World) : (callFunc 200 #[.float .f64 x]).run Tryz.prog w = ((Extern.MathFloor.toIntegral "math.archCeil" .up #[.float .f64 x]).run Tryz.prog w).andThen fun v w' => .ok (.value v) w' :=
  run_callFunc_extern Tryz.func200 (by kernel_rfl) (by kernel_rfl) (by kernel_rfl) (e := Extern.MathFloor.toIntegral "math.archCeil" .up) (by kernel_rfl) _ w
theorem ceil_cases : ∃ g : Nat → Bool → Nat → Sem Value, ∀ x, Extern.MathFloor.toIntegral "math.archCeil" .up #[.float .f64 x] = Extern.MathFloor.toIntegral.match_1 (fun _ => Sem Value) (FloatKind.f64.decode x) (g x) (fun d => pure (.float .f64 (FloatKind.f64.encode (d.integral .up)))) := ⟨_, fun _ => rfl⟩
theorem ceil_num (x y : Nat) (s : Bool) (m : Nat) (e : Int) (hx : FloatKind.f64.decode x = .number s m e) (hy : FloatKind.f64.encode ((Ieee.Datum.number s m e).integral .up) = y) (w : World) : (callFunc 200 #[.float .f64 x]).run Tryz.prog w = .ok (.value (.float .f64 y)) w := by
  obtain ⟨g, hg⟩ := ceil_cases
  rw [ceil_run, hg, hx]
  dsimp only
  rw [hy]
  rfl
theorem ceil_some (x : Nat) (hn : ∀ s t, FloatKind.f64.decode x ≠ .nan s t) : ∃ y, ∀ w, (callFunc 200 #[.float .f64 x]).run Tryz.prog w = .ok (.value (.float .f64 y)) w := by
  obtain ⟨g, hg⟩ := ceil_cases
  cases h : FloatKind.f64.decode x with
  | number s m e => exact ⟨_, fun w => by rw [ceil_run, hg, h]; rfl⟩
  | infinity s => exact ⟨_, fun w => by rw [ceil_run, hg, h]; rfl⟩
  | nan s t => exact absurd h (hn s t)
theorem math_ceil_num (x y : Nat) (s : Bool) (m : Nat) (e : Int) (hx : FloatKind.f64.decode x = .number s m e) (hy : FloatKind.f64.encode ((Ieee.Datum.number s m e).integral .up) = y) (w : World) : Calls Tryz.prog 188 #[.float .f64 x] w fun e w' => e = .returned (.float .f64 y) ∧ w = w' := by
  have hc := ceil_num x y s m e hx hy
  clear hx hy
  go_enter Tryz.func188, Tryz.ntmps188
  go_wp2
  go_ret
  exact ⟨rfl, rfl⟩
theorem math_ceil_some (x : Nat) (hn : ∀ s t, FloatKind.f64.decode x ≠ .nan s t) : ∃ y, ∀ w, Calls Tryz.prog 188 #[.float .f64 x] w fun e w' => e = .returned (.float .f64 y) ∧ w = w' := by
  obtain ⟨y, hc⟩ := ceil_some x hn
  refine ⟨y, fun w => ?_⟩
  go_enter Tryz.func188, Tryz.ntmps188
  go_wp2
  go_ret
  exact ⟨rfl, rfl⟩

set_option maxRecDepth 100000 in
theorem ticks_two (w : World) : Calls Tryz.prog 165 #[.float .f64 4611686018427387904] w fun e w' => e = .returned (.int .u64 2) ∧ w = w' := by
  have hcv : ∀ W, (convert 181 29 (.float .f64 4611686018427387904)).run Tryz.prog W = .ok (.int .u64 2) W := fun W => by kernel_rfl
  go_enter Tryz.func165, Tryz.ntmps165
  go_wp2_with fail
  refine (math_ceil_num 4611686018427387904 4611686018427387904 false 4503599627370496 (-51) (by kernel_rfl) (by kernel_rfl) _).mono ?_
  rintro e w' ⟨rfl, rfl⟩
  go_wp2
  go_ret
  exact ⟨rfl, rfl⟩

set_option maxRecDepth 100000 in
theorem ticks_14 (w : World) : Calls Tryz.prog 165 #[.float .f64 4624070917402656768] w fun e w' => e = .returned (.int .u64 14) ∧ w = w' := by
  have hcv : ∀ W, (convert 181 29 (.float .f64 4624070917402656768)).run Tryz.prog W = .ok (.int .u64 14) W := fun W => by kernel_rfl
  go_enter Tryz.func165, Tryz.ntmps165
  go_wp2_with fail
  refine (math_ceil_num 4624070917402656768 4624070917402656768 false 7881299347898368 (-49) (by kernel_rfl) (by kernel_rfl) _).mono ?_
  rintro e w' ⟨rfl, rfl⟩
  go_wp2
  go_ret
  exact ⟨rfl, rfl⟩
theorem choose_run (c : Question) (w : World) : ∃ n w', (choose c).run Tryz.prog w = .ok n w' ∧ Keep (fun _ => False) w w' := by
  rw [run_choose_drew]
  split
  · exact ⟨_, _, rfl, Keep.refl _ _⟩
  · exact ⟨_, _, rfl, (Keep.refl _ w).drew⟩
theorem conv_some (y : Nat) (w : World) : ∃ t w', (convert 181 29 (.float .f64 y)).run Tryz.prog w = .ok (.int .u64 t) w' ∧ 0 ≤ t ∧ t < 18446744073709551616 ∧ Keep (fun _ => False) w w' := by
  have e : (convert 181 29 (.float .f64 y)).run Tryz.prog w = (Conv.floatToInt .f64 y .u64).run Tryz.prog w := by
    simp only [convert, Sem.run_bind, run_underlying Tryz.underlying181, run_underlying Tryz.underlying29, Result.andThen]
  rw [e]
  have any : ∃ t w', (do pure (Value.int .u64 (IntKind.u64.wrap (← choose (.floatToInt .f64 y .u64)))) : Sem Value).run Tryz.prog w = .ok (.int .u64 t) w' ∧ 0 ≤ t ∧ t < 18446744073709551616 ∧ Keep (fun _ => False) w w' := by
    obtain ⟨n, w', hn, hk⟩ := choose_run (.floatToInt .f64 y .u64) w
    refine ⟨IntKind.u64.wrap n, w', ?_, ?_, ?_, hk⟩
    · rw [Sem.run_bind, hn]
      rfl
    · rw [IntKind.wrap_u64]; omega
    · rw [IntKind.wrap_u64]; omega
  unfold Conv.floatToInt
  cases h : (FloatKind.f64.decode y).toInt .zero with
  | none => exact any
  | some n =>
    dsimp only
    split
    · rename_i hr
      have hr' : 0 ≤ n ∧ n ≤ 18446744073709551615 := hr
      exact ⟨n, w, rfl, by omega, by omega, Keep.refl _ _⟩
    · exact any
/-- a word that is no NaN. -/
def NN (x : Nat) : Prop := ∀ s t, FloatKind.f64.decode x ≠ .nan s t
theorem nn_of_gt {x y : Nat} {o : Ordering} (h : FloatKind.f64.format.order x y = some o) : NN x := by
  intro s t hd
  have hd' : FloatKind.f64.format.read x = .nan s t := hd
  unfold Ieee.Format.order at h
  rw [hd'] at h
  cases h
theorem ticks_some (x : Nat) (w : World) : Calls Tryz.prog 165 #[.float .f64 x] w fun e w' => (∃ t, e = .returned (.int .u64 t) ∧ 0 ≤ t ∧ t < 18446744073709551616) ∧ Keep (fun _ => False) w w' := by
  by_cases h0 : FloatKind.f64.format.order x 0 = some .gt
  · by_cases h1 : FloatKind.f64.format.order x 4787326403894837248 = some .lt
    · obtain ⟨y, hy⟩ := math_ceil_some x (nn_of_gt h0)
      obtain ⟨t, w', hc, ht0, ht1, hk⟩ := conv_some y w
      go_enter Tryz.func165, Tryz.ntmps165
      go_wp2_with fail
      refine (hy _).mono ?_
      rintro e w2 ⟨rfl, rfl⟩
      go_wp2
      go_ret
      exact ⟨⟨t, rfl, ht0, ht1⟩, hk⟩
    · have h2 : (FloatKind.f64.format.order x 4787326403894837248 == some Ordering.gt || FloatKind.f64.format.order x 4787326403894837248 == some Ordering.eq) = true := by
        have hn : FloatKind.f64.format.order x 4787326403894837248 ≠ none := by
          intro hc
          unfold Ieee.Format.order at hc h0
          cases hd : FloatKind.f64.format.read x with
          | nan s t => rw [hd] at h0; cases h0
          | infinity s => rw [hd] at hc; revert hc; simp [FloatKind.format, Ieee.Format.read, Ieee.double, Ieee.Format.signWeight, Ieee.Format.binade, Ieee.Format.infRung, Ieee.Datum.order]
          | number s m e => rw [hd] at hc; revert hc; simp [FloatKind.format, Ieee.Format.read, Ieee.double, Ieee.Format.signWeight, Ieee.Format.binade, Ieee.Format.infRung, Ieee.Datum.order]
        cases hc : FloatKind.f64.format.order x 4787326403894837248 with
        | none => exact absurd hc hn
        | some o =>
          cases o with
          | lt => exact absurd hc h1
          | eq => rfl
          | gt => rfl
      go_enter Tryz.func165, Tryz.ntmps165
      go_wp2
      go_ret
      exact ⟨⟨_, rfl, by omega, by omega⟩, Keep.refl _ _⟩
  · have h2 : (FloatKind.f64.format.order x 0 == some Ordering.gt) = false := by rw [beq_eq_false_iff_ne]; exact h0
    go_enter Tryz.func165, Tryz.ntmps165
    go_wp2
    go_ret
    exact ⟨⟨0, rfl, by omega, by omega⟩, Keep.refl _ _⟩

theorem isnan_any (x : Nat) (b : Bool) (hb : (FloatKind.f64.format.order x x != some .eq) = b) (w : World) : Calls Tryz.prog 202 #[.float .f64 x] w fun e w' => e = .returned (.bool b) ∧ w = w' := by
  go_enter Tryz.func202, Tryz.ntmps202
  go_wp2
  go_ret
  exact ⟨by rw [← hb]; rfl, rfl⟩
/-- a word that is a number. -/
def Num (x : Nat) : Prop := ∃ s m e, FloatKind.f64.format.read x = .number s m e
theorem order_nan {x y : Nat} {s : Bool} {t : Nat} (h : FloatKind.f64.format.read x = .nan s t) : FloatKind.f64.format.order x y = none := by
  unfold Ieee.Format.order
  rw [h]
  rfl
theorem order_num {x y : Nat} (h : Num x) (k : Num y) : ∃ o, FloatKind.f64.format.order x y = some o := by
  obtain ⟨s, m, e, h⟩ := h
  obtain ⟨s', m', e', k⟩ := k
  unfold Ieee.Format.order
  rw [h, k]
  exact ⟨_, rfl⟩
theorem order_self {x : Nat} (h : Num x) : FloatKind.f64.format.order x x = some .eq := by
  obtain ⟨s, m, e, h⟩ := h
  unfold Ieee.Format.order
  rw [h]
  simp [Ieee.Datum.order]
theorem num_zero : Num 0 := ⟨false, 0, -1074, by kernel_rfl⟩
theorem num_k : Num 4652007308841189376 := ⟨false, 8796093022208000, -43, by kernel_rfl⟩
set_option maxRecDepth 100000 in
theorem clean_some (x : Nat) : ∃ y, Num y ∧ ∀ w, Calls Tryz.prog 189 #[.float .f64 x, .float .f64 0, .float .f64 4652007308841189376] w fun e w' => e = .returned (.float .f64 y) ∧ w = w' := by
  cases hd : FloatKind.f64.format.read x with
  | nan s t =>
    have o1 : FloatKind.f64.format.order x x = none := order_nan hd
    have hb := isnan_any x true (by rw [o1]; rfl)
    refine ⟨0, num_zero, fun w => ?_⟩
    go_enter Tryz.func189, Tryz.ntmps189
    go_wp2_with fail
    refine (hb _).mono ?_
    rintro e w2 ⟨rfl, rfl⟩
    go_wp2
    go_ret
    exact ⟨rfl, rfl⟩
  | infinity s =>
    have o1 : FloatKind.f64.format.order x x = some .eq := by
      unfold Ieee.Format.order
      rw [hd]
      cases s <;> rfl
    have hb := isnan_any x false (by rw [o1]; rfl)
    obtain ⟨_, _, _, h0⟩ := num_zero
    obtain ⟨_, _, _, hk⟩ := num_k
    cases s with
    | true =>
      have o2 : FloatKind.f64.format.order x 0 = some .lt := by unfold Ieee.Format.order; rw [hd, h0]; rfl
      refine ⟨0, num_zero, fun w => ?_⟩
      go_enter Tryz.func189, Tryz.ntmps189
      go_wp2_with fail
      refine (hb _).mono ?_
      rintro e w2 ⟨rfl, rfl⟩
      go_wp2
      go_ret
      exact ⟨rfl, rfl⟩
    | false =>
      have o2 : FloatKind.f64.format.order x 0 = some .gt := by unfold Ieee.Format.order; rw [hd, h0]; rfl
      have o3 : FloatKind.f64.format.order x 4652007308841189376 = some .gt := by unfold Ieee.Format.order; rw [hd, hk]; rfl
      refine ⟨4652007308841189376, num_k, fun w => ?_⟩
      go_enter Tryz.func189, Tryz.ntmps189
      go_wp2_with fail
      refine (hb _).mono ?_
      rintro e w2 ⟨rfl, rfl⟩
      go_wp2
      go_ret
      exact ⟨rfl, rfl⟩
  | number s m e =>
    have hx : Num x := ⟨s, m, e, hd⟩
    have hb := isnan_any x false (by rw [order_self hx]; rfl)
    obtain ⟨c0, o2⟩ := order_num hx num_zero
    obtain ⟨c1, o3⟩ := order_num hx num_k
    clear hd
    cases c0 with
    | lt =>
      refine ⟨0, num_zero, fun w => ?_⟩
      go_enter Tryz.func189, Tryz.ntmps189
      go_wp2_with fail
      refine (hb _).mono ?_
      rintro e w2 ⟨rfl, rfl⟩
      go_wp2
      go_ret
      exact ⟨rfl, rfl⟩
    | eq =>
      cases c1 with
      | gt =>
        refine ⟨4652007308841189376, num_k, fun w => ?_⟩
        go_enter Tryz.func189, Tryz.ntmps189
        go_wp2_with fail
        refine (hb _).mono ?_
        rintro e w2 ⟨rfl, rfl⟩
        go_wp2
        go_ret
        exact ⟨rfl, rfl⟩
      | lt =>
        refine ⟨0, num_zero, fun w => ?_⟩
        go_enter Tryz.func189, Tryz.ntmps189
        go_wp2_with fail
        refine (hb _).mono ?_
        rintro e w2 ⟨rfl, rfl⟩
        go_wp2
        go_ret
        exact ⟨rfl, rfl⟩
      | eq =>
        refine ⟨0, num_zero, fun w => ?_⟩
        go_enter Tryz.func189, Tryz.ntmps189
        go_wp2_with fail
        refine (hb _).mono ?_
        rintro e w2 ⟨rfl, rfl⟩
        go_wp2
        go_ret
        exact ⟨rfl, rfl⟩
    | gt =>
      cases c1 with
      | gt =>
        refine ⟨4652007308841189376, num_k, fun w => ?_⟩
        go_enter Tryz.func189, Tryz.ntmps189
        go_wp2_with fail
        refine (hb _).mono ?_
        rintro e w2 ⟨rfl, rfl⟩
        go_wp2
        go_ret
        exact ⟨rfl, rfl⟩
      | lt =>
        refine ⟨x, hx, fun w => ?_⟩
        go_enter Tryz.func189, Tryz.ntmps189
        go_wp2_with fail
        refine (hb _).mono ?_
        rintro e w2 ⟨rfl, rfl⟩
        go_wp2
        go_ret
        exact ⟨rfl, rfl⟩
      | eq =>
        refine ⟨x, hx, fun w => ?_⟩
        go_enter Tryz.func189, Tryz.ntmps189
        go_wp2_with fail
        refine (hb _).mono ?_
        rintro e w2 ⟨rfl, rfl⟩
        go_wp2
        go_ret
        exact ⟨rfl, rfl⟩

end Go.Proofs.YtofonfohaocclaaGreatDoor.D

namespace Go.Proofs.YtofonfohaocclaaGreatDoor.D
open Go.RowKit Sh Go.Shelf
set_option linter.unusedVariables false
def Tryz.bitsLen_ren : Go.Shelf.Ren := ⟨fun | 125 => 155 | 128 => 177 | 129 => 178 | n => n, fun | 46 => 214 | 3 => 3 | 51 => 231 | 53 => 29 | 4 => 4 | 5 => 5 | 9 => 9 | n => n, fun | n => n⟩
theorem Tryz.bitsLen : Go.Proofs.Lays.n125 Tryz.prog Tryz.bitsLen_ren := {
  mixed := by kernel_rfl
  f125 := Tryz.func155.trans (congrArg some (by kernel_rfl))
  f128 := Tryz.func177.trans (congrArg some (by kernel_rfl))
  f129 := Tryz.func178.trans (congrArg some (by kernel_rfl))
  t3 := Tryz.underlying3
  a3 := Tryz.isAgg3
  z3 := Tryz.sizeOf3
  v3 := Tryz.zeroValue3
  t4 := Tryz.underlying4
  a4 := Tryz.isAgg4
  z4 := Tryz.sizeOf4
  v4 := Tryz.zeroValue4
  t5 := Tryz.underlying5
  a5 := Tryz.isAgg5
  z5 := Tryz.sizeOf5
  v5 := Tryz.zeroValue5
  t9 := Tryz.underlying9
  a9 := Tryz.isAgg9
  z9 := Tryz.sizeOf9
  v9 := Tryz.zeroValue9
  t46 := Tryz.underlying214
  a46 := Tryz.isAgg214
  z46 := Tryz.sizeOf214
  v46 := Tryz.zeroValue214
  t51 := Tryz.underlying231
  a51 := Tryz.isAgg231
  z51 := Tryz.sizeOf231
  v51 := Tryz.zeroValue231
  t53 := Tryz.underlying29
  a53 := Tryz.isAgg29
  z53 := Tryz.sizeOf29
  v53 := Tryz.zeroValue29 }

theorem len_any (n : Int) (w : World) (h0 : 0 ≤ n) (h1 : n < 18446744073709551616) : Calls Tryz.prog 155 #[.int .u64 n] w fun e w' => e = .returned (.int .i64 (Lib.bitLen n.toNat : Nat)) ∧ w = w' :=
  (Any.bits_Len Tryz.bitsLen n w h0 (by omega)).mono fun _ _ ⟨he, hw⟩ => ⟨he, hw.symm⟩

def bitsI (n : Int) : Nat := Lib.bitLen (max n 0).toNat
theorem bits_any (n : Int) (w : World) (h0 : -9223372036854775808 ≤ n) (h1 : n < 9223372036854775808) : Calls Tryz.prog 152 #[.int .i64 n] w fun e w' => e = .returned (.int .i64 (bitsI n)) ∧ w = w' := by
  unfold bitsI
  have e1 : IntKind.u64.wrap (max n 0) = max n 0 := by rw [IntKind.wrap_u64]; omega
  have e0 : (max n 0) < 18446744073709551616 := by omega
  have e2 : 0 ≤ max n 0 := by omega
  go_enter Tryz.func152, Tryz.ntmps152
  go_wp2_with fail
  refine (len_any _ _ e2 e0).mono ?_
  rintro e w' ⟨rfl, rfl⟩
  go_wp2
  go_ret
  exact ⟨rfl, rfl⟩
theorem bits_le (n : Int) (h1 : n < 9223372036854775808) : bitsI n ≤ 64 := Lib.bitLen_le _ 64 (by omega) (by omega)

theorem nn_nearest (neg : Bool) (mag : Nat) (place : Int) : NN (FloatKind.f64.format.nearest neg mag place) := by
  have key : ∀ r : Nat, r ≤ 9218868437227405312 → NN (FloatKind.f64.format.word neg r) := by
    intro r hr s t hd
    have hd' : FloatKind.f64.format.read (FloatKind.f64.format.word neg r) = .nan s t := hd
    have e1 : FloatKind.f64.format.signWeight = 9223372036854775808 := by decide
    have e2 : FloatKind.f64.format.infRung = 9218868437227405312 := by decide
    have e3 : FloatKind.f64.format.binade = 4503599627370496 := by decide
    have hw : FloatKind.f64.format.word neg r % 9223372036854775808 = r := by
      unfold Ieee.Format.word
      rw [e1]
      split <;> omega
    unfold Ieee.Format.read at hd'
    simp only [e1, e2, e3, hw] at hd'
    split at hd'
    · cases hd'
    · split at hd'
      · cases hd'
      · split at hd'
        · cases hd'
        · omega
  unfold Ieee.Format.nearest
  split
  · exact key 0 (by omega)
  · refine key _ ?_
    exact Nat.min_le_right _ _
theorem num_bits : ∀ b : Fin 65, Num (FloatKind.f64.nearest (b.val : Int)) := by
  have key : ∀ b : Fin 65, (match FloatKind.f64.format.read (FloatKind.f64.nearest (b.val : Int)) with | .number _ _ _ => true | _ => false) = true := by decide +kernel
  intro b
  have := key b
  split at this
  · rename_i s m e h
    exact ⟨s, m, e, h⟩
  · cases this
theorem mul_num {x y : Nat} (h : Num x) (k : Num y) : ∃ z, FloatKind.f64.format.mul x y = some z ∧ NN z := by
  obtain ⟨s, m, e, h⟩ := h
  obtain ⟨s', m', e', k⟩ := k
  unfold Ieee.Format.mul
  rw [h, k]
  exact ⟨_, rfl, nn_nearest _ _ _⟩
theorem order_nn {x y : Nat} (h : NN x) (k : Num y) : ∃ o, FloatKind.f64.format.order x y = some o := by
  obtain ⟨s', m', e', k⟩ := k
  unfold Ieee.Format.order
  rw [k]
  cases hd : FloatKind.f64.format.read x with
  | nan s t => exact absurd hd (h s t)
  | infinity s => exact ⟨_, rfl⟩
  | number s m e => exact ⟨_, rfl⟩

set_option maxRecDepth 100000 in
set_option maxHeartbeats 1000000 in
theorem wait_core (base y z m : Nat) (nodes : Int) (b : Nat) (h0 : -9223372036854775808 ≤ nodes) (h1 : nodes < 9223372036854775808) (hcl : ∀ w, Calls Tryz.prog 189 #[.float .f64 base, .float .f64 0, .float .f64 4652007308841189376] w fun e w' => e = .returned (.float .f64 y) ∧ w = w')
    (hb : bitsI nodes = b) (hmul : FloatKind.f64.format.mul y (FloatKind.f64.nearest (b : Int)) = some z) (hmax : ∀ W, (Builtin.max_ #[181, 181] 181 #[.float .f64 z, .float .f64 y]).run Tryz.prog W = .ok (.float .f64 m) W) (w : World) :
    Calls Tryz.prog 166 #[.float .f64 base, .int .i64 nodes, .int .i64 0, .int .i64 3] w fun e w' => e = .returned (.float .f64 m) ∧ Keep (fun _ => False) w w' := by
  have HB : Hid (∀ W, Calls Tryz.prog 152 #[.int .i64 nodes] W fun e w' => e = .returned (.int .i64 b) ∧ W = w') := Lib.hid (fun W => by rw [← hb]; exact bits_any nodes W h0 h1)
  have HC := Lib.hid hcl
  have hbm : ∀ W, (binOp .mul 181 (.float .f64 y) (.float .f64 (floatOfInt .f64 (b : Int)))).run Tryz.prog W = .ok (.float .f64 z) W := fun W => by
    rw [show floatOfInt .f64 (b : Int) = FloatKind.f64.nearest (b : Int) from rfl]
    simp only [binOp, Op.floatArith, hmul]
    rfl
  have hsf : ∀ (a : Addr) (x : Nat) (w : World), (store a (.float .f64 x) .plain).run Tryz.prog w = stored Tryz.prog w a (.float .f64 x) .plain := fun a x w => run_store Tryz.prog w a (.float .f64 x) .plain rfl
  clear hcl hb h0 h1
  go_enter Tryz.func166, Tryz.ntmps166
  go_wp2_with fail
  refine (HC.out _).mono ?_
  rintro e w2 ⟨rfl, rfl⟩
  go_upto_region 2 with fail
  go_region_held3 (fun W => W.cell? ⟨w.heap.size, 0, none⟩ = some (.float .f64 y)) (go_keep) (first | (go_at_call 152; refine (HB.out _).mono ?_; rintro e w' ⟨rfl, rfl⟩))
  all_goals
    go_wp2
    go_ret
    exact ⟨rfl, (((Keep.refl _ w).alloc _).alloc _).drew⟩
theorem max_some {z y : Nat} {o : Ordering} (h : FloatKind.f64.format.order z y = some o) : ∃ m, ∀ W, (Builtin.max_ #[181, 181] 181 #[.float .f64 z, .float .f64 y]).run Tryz.prog W = .ok (.float .f64 m) W := by
  cases o with
  | lt => exact ⟨y, fun W => by simp only [Builtin.max_, List.foldlM, Builtin.max2, h]; rfl⟩
  | gt => exact ⟨z, fun W => by simp only [Builtin.max_, List.foldlM, Builtin.max2, h]; rfl⟩
  | eq => exact ⟨if (FloatKind.f64.decode z).neg then y else z, fun W => by simp only [Builtin.max_, List.foldlM, Builtin.max2, h]; rfl⟩
theorem wait_some (base : Nat) (nodes : Int) (h0 : -9223372036854775808 ≤ nodes) (h1 : nodes < 9223372036854775808) : ∃ m, ∀ w, Calls Tryz.prog 166 #[.float .f64 base, .int .i64 nodes, .int .i64 0, .int .i64 3] w fun e w' => e = .returned (.float .f64 m) ∧ Keep (fun _ => False) w w' := by
  obtain ⟨y, hy, hc⟩ := clean_some base
  have hb := bits_le nodes h1
  obtain ⟨z, hz, hnn⟩ := mul_num hy (num_bits ⟨bitsI nodes, by omega⟩)
  obtain ⟨o, ho⟩ := order_nn hnn hy
  obtain ⟨m, hm⟩ := max_some ho
  exact ⟨m, fun w => wait_core base y z m nodes (bitsI nodes) h0 h1 hc rfl hz hm w⟩
set_option maxRecDepth 100000 in
theorem clean_two (w : World) : Calls Tryz.prog 189 #[.float .f64 4611686018427387904, .float .f64 0, .float .f64 4652007308841189376] w fun e w' => e = .returned (.float .f64 4611686018427387904) ∧ w = w' := by
  go_enter Tryz.func189, Tryz.ntmps189
  go_wp2_with fail
  refine (isnan_any 4611686018427387904 false (by kernel_rfl) _).mono ?_
  rintro e w2 ⟨rfl, rfl⟩
  go_wp2
  go_ret
  exact ⟨rfl, rfl⟩
theorem wait_two (w : World) : Calls Tryz.prog 166 #[.float .f64 4611686018427387904, .int .i64 1, .int .i64 0, .int .i64 3] w fun e w' => e = .returned (.float .f64 4611686018427387904) ∧ Keep (fun _ => False) w w' :=
  wait_core 4611686018427387904 4611686018427387904 4611686018427387904 4611686018427387904 1 1 (by omega) (by omega) clean_two (by decide) (by kernel_rfl) (fun W => by
    have h : FloatKind.f64.format.order 4611686018427387904 4611686018427387904 = some .eq := by kernel_rfl
    simp only [Builtin.max_, List.foldlM, Builtin.max2, h]
    rfl) w
theorem wait_14 (w : World) : Calls Tryz.prog 166 #[.float .f64 4611686018427387904, .int .i64 64, .int .i64 0, .int .i64 3] w fun e w' => e = .returned (.float .f64 4624070917402656768) ∧ Keep (fun _ => False) w w' :=
  wait_core 4611686018427387904 4611686018427387904 4624070917402656768 4624070917402656768 64 7 (by omega) (by omega) clean_two (by decide) (by kernel_rfl) (fun W => by
    have h : FloatKind.f64.format.order 4624070917402656768 4611686018427387904 = some .gt := by kernel_rfl
    simp only [Builtin.max_, List.foldlM, Builtin.max2, h]
    rfl) w

/-- how long a doubt is, that nobody else told. -/
def WaitIs (base : Nat) (nodes : Int) (T : Int → Prop) : Prop := ∃ m, (∀ w, Calls Tryz.prog 166 #[.float .f64 base, .int .i64 nodes, .int .i64 0, .int .i64 3] w fun e w' => e = .returned (.float .f64 m) ∧ Keep (fun _ => False) w w') ∧ ∀ w, Calls Tryz.prog 165 #[.float .f64 m] w fun e w' => (∃ t, e = .returned (.int .u64 t) ∧ 0 ≤ t ∧ t < 18446744073709551616 ∧ T t) ∧ Keep (fun _ => False) w w'
theorem waitis_some (base : Nat) (nodes : Int) (h0 : -9223372036854775808 ≤ nodes) (h1 : nodes < 9223372036854775808) : WaitIs base nodes (fun _ => True) := by
  obtain ⟨m, hm⟩ := wait_some base nodes h0 h1
  exact ⟨m, hm, fun w => (ticks_some m w).mono fun _ _ ⟨⟨t, h1, h2, h3⟩, h4⟩ => ⟨⟨t, h1, h2, h3, trivial⟩, h4⟩⟩
theorem waitis_two : WaitIs 4611686018427387904 1 (fun t => t = 2) :=
  ⟨_, wait_two, fun w => (ticks_two w).mono fun _ _ ⟨h1, h2⟩ => ⟨⟨2, h1, by omega, by omega, rfl⟩, by subst h2; exact Keep.refl _ _⟩⟩
theorem waitis_14 : WaitIs 4611686018427387904 64 (fun t => t = 14) :=
  ⟨_, wait_14, fun w => (ticks_14 w).mono fun _ _ ⟨h1, h2⟩ => ⟨⟨14, h1, by omega, by omega, rfl⟩, by subst h2; exact Keep.refl _ _⟩⟩

end Go.Proofs.YtofonfohaocclaaGreatDoor.D
