/- Reals: Ticks, Clean, Wait. -/
import Derived.Test.YtojnmbpicmgcpaaLeaf
namespace Go.Proofs.Ytojnmbpicmgcpaa
open Go.RowKit Sh
set_option linter.unusedVariables false

theorem ceil_run (x : Nat) (w : World) : (callFunc 57 #[.float .f64 x]).run Try.prog w = ((Extern.MathFloor.toIntegral "math.archCeil" .up #[.float .f64 x]).run Try.prog w).andThen fun v w' => .ok (.value v) w' :=
  run_callFunc_extern Try.func57 (by kernel_rfl) (by kernel_rfl) (by kernel_rfl) (e := Extern.MathFloor.toIntegral "math.archCeil" .up) (by kernel_rfl) _ w
theorem ceil_cases : ∃ g : Nat → Bool → Nat → Sem Value, ∀ x, Extern.MathFloor.toIntegral "math.archCeil" .up #[.float .f64 x] = Extern.MathFloor.toIntegral.match_1 (fun _ => Sem Value) (FloatKind.f64.decode x) (g x) (fun d => pure (.float .f64 (FloatKind.f64.encode (d.integral .up)))) := ⟨_, fun _ => rfl⟩
theorem ceil_num (x y : Nat) (s : Bool) (m : Nat) (e : Int) (hx : FloatKind.f64.decode x = .number s m e) (hy : FloatKind.f64.encode ((Ieee.Datum.number s m e).integral .up) = y) (w : World) : (callFunc 57 #[.float .f64 x]).run Try.prog w = .ok (.value (.float .f64 y)) w := by
  obtain ⟨g, hg⟩ := ceil_cases
  rw [ceil_run, hg, hx]
  dsimp only
  rw [hy]
  rfl
theorem ceil_some (x : Nat) (hn : ∀ s t, FloatKind.f64.decode x ≠ .nan s t) : ∃ y, ∀ w, (callFunc 57 #[.float .f64 x]).run Try.prog w = .ok (.value (.float .f64 y)) w := by
  obtain ⟨g, hg⟩ := ceil_cases
  cases h : FloatKind.f64.decode x with
  | number s m e => exact ⟨_, fun w => by rw [ceil_run, hg, h]; rfl⟩
  | infinity s => exact ⟨_, fun w => by rw [ceil_run, hg, h]; rfl⟩
  | nan s t => exact absurd h (hn s t)
theorem math_ceil_num (x y : Nat) (s : Bool) (m : Nat) (e : Int) (hx : FloatKind.f64.decode x = .number s m e) (hy : FloatKind.f64.encode ((Ieee.Datum.number s m e).integral .up) = y) (w : World) : Calls Try.prog 42 #[.float .f64 x] w fun e w' => e = .returned (.float .f64 y) ∧ w = w' := by
  have hc := ceil_num x y s m e hx hy
  clear hx hy
  go_enter Try.func42, Try.ntmps42
  go_wp2
  go_ret
  exact ⟨rfl, rfl⟩
theorem math_ceil_some (x : Nat) (hn : ∀ s t, FloatKind.f64.decode x ≠ .nan s t) : ∃ y, ∀ w, Calls Try.prog 42 #[.float .f64 x] w fun e w' => e = .returned (.float .f64 y) ∧ w = w' := by
  obtain ⟨y, hc⟩ := ceil_some x hn
  refine ⟨y, fun w => ?_⟩
  go_enter Try.func42, Try.ntmps42
  go_wp2
  go_ret
  exact ⟨rfl, rfl⟩

set_option maxRecDepth 100000 in
theorem ticks_two (w : World) : Calls Try.prog 35 #[.float .f64 4611686018427387904] w fun e w' => e = .returned (.int .u64 2) ∧ w = w' := by
  have hcv : ∀ W, (convert 35 32 (.float .f64 4611686018427387904)).run Try.prog W = .ok (.int .u64 2) W := fun W => by kernel_rfl
  go_enter Try.func35, Try.ntmps35
  go_wp2_with fail
  refine (math_ceil_num 4611686018427387904 4611686018427387904 false 4503599627370496 (-51) (by kernel_rfl) (by kernel_rfl) _).mono ?_
  rintro e w' ⟨rfl, rfl⟩
  go_wp2
  go_ret
  exact ⟨rfl, rfl⟩

set_option maxRecDepth 100000 in
theorem ticks_14 (w : World) : Calls Try.prog 35 #[.float .f64 4624070917402656768] w fun e w' => e = .returned (.int .u64 14) ∧ w = w' := by
  have hcv : ∀ W, (convert 35 32 (.float .f64 4624070917402656768)).run Try.prog W = .ok (.int .u64 14) W := fun W => by kernel_rfl
  go_enter Try.func35, Try.ntmps35
  go_wp2_with fail
  refine (math_ceil_num 4624070917402656768 4624070917402656768 false 7881299347898368 (-49) (by kernel_rfl) (by kernel_rfl) _).mono ?_
  rintro e w' ⟨rfl, rfl⟩
  go_wp2
  go_ret
  exact ⟨rfl, rfl⟩
theorem choose_run (c : Question) (w : World) : ∃ n w', (choose c).run Try.prog w = .ok n w' ∧ Keep (fun _ => False) w w' := by
  rw [run_choose_drew]
  split
  · exact ⟨_, _, rfl, Keep.refl _ _⟩
  · exact ⟨_, _, rfl, (Keep.refl _ w).drew⟩
theorem conv_some (y : Nat) (w : World) : ∃ t w', (convert 35 32 (.float .f64 y)).run Try.prog w = .ok (.int .u64 t) w' ∧ 0 ≤ t ∧ t < 18446744073709551616 ∧ Keep (fun _ => False) w w' := by
  have e : (convert 35 32 (.float .f64 y)).run Try.prog w = (Conv.floatToInt .f64 y .u64).run Try.prog w := by
    simp only [convert, Sem.run_bind, run_underlying Try.underlying35, run_underlying Try.underlying32, Result.andThen]
  rw [e]
  have any : ∃ t w', (do pure (Value.int .u64 (IntKind.u64.wrap (← choose (.floatToInt .f64 y .u64)))) : Sem Value).run Try.prog w = .ok (.int .u64 t) w' ∧ 0 ≤ t ∧ t < 18446744073709551616 ∧ Keep (fun _ => False) w w' := by
    obtain ⟨n, w', hn, hk⟩ := choose_run (.floatToInt .f64 y .u64) w
    refine ⟨IntKind.u64.wrap n, w', ?_, ?_, ?_, hk⟩
    · rw [Sem.run_bind, hn]
      rfl
    · rw [IntKind.wrap_u64]; omega
    · rw [IntKind.wrap_u64]; omega
  unfold Conv.floatToInt
  cases h : (FloatKind.f64.decode y).toInt .zero with
  | none => exact any
  | some n =>
    dsimp only
    split
    · rename_i hr
      have hr' : 0 ≤ n ∧ n ≤ 18446744073709551615 := hr
      exact ⟨n, w, rfl, by omega, by omega, Keep.refl _ _⟩
    · exact any
/-- a word that is no NaN. -/
def NN (x : Nat) : Prop := ∀ s t, FloatKind.f64.decode x ≠ .nan s t
theorem nn_of_gt {x y : Nat} {o : Ordering} (h : FloatKind.f64.format.order x y = some o) : NN x := by
  intro s t hd
  have hd' : FloatKind.f64.format.read x = .nan s t := hd
  unfold Ieee.Format.order at h
  rw [hd'] at h
  cases h
theorem ticks_some (x : Nat) (w : World) : Calls Try.prog 35 #[.float .f64 x] w fun e w' => (∃ t, e = .returned (.int .u64 t) ∧ 0 ≤ t ∧ t < 18446744073709551616) ∧ Keep (fun _ => False) w w' := by
  by_cases h0 : FloatKind.f64.format.order x 0 = some .gt
  · by_cases h1 : FloatKind.f64.format.order x 4787326403894837248 = some .lt
    · obtain ⟨y, hy⟩ := math_ceil_some x (nn_of_gt h0)
      obtain ⟨t, w', hc, ht0, ht1, hk⟩ := conv_some y w
      go_enter Try.func35, Try.ntmps35
      go_wp2_with fail
      refine (hy _).mono ?_
      rintro e w2 ⟨rfl, rfl⟩
      go_wp2
      go_ret
      exact ⟨⟨t, rfl, ht0, ht1⟩, hk⟩
    · have h2 : (FloatKind.f64.format.order x 4787326403894837248 == some Ordering.gt || FloatKind.f64.format.order x 4787326403894837248 == some Ordering.eq) = true := by
        have hn : FloatKind.f64.format.order x 4787326403894837248 ≠ none := by
          intro hc
          unfold Ieee.Format.order at hc h0
          cases hd : FloatKind.f64.format.read x with
          | nan s t => rw [hd] at h0; cases h0
          | infinity s => rw [hd] at hc; revert hc; simp [FloatKind.format, Ieee.Format.read, Ieee.double, Ieee.Format.signWeight, Ieee.Format.binade, Ieee.Format.infRung, Ieee.Datum.order]
          | number s m e => rw [hd] at hc; revert hc; simp [FloatKind.format, Ieee.Format.read, Ieee.double, Ieee.Format.signWeight, Ieee.Format.binade, Ieee.Format.infRung, Ieee.Datum.order]
        cases hc : FloatKind.f64.format.order x 4787326403894837248 with
        | none => exact absurd hc hn
        | some o =>
          cases o with
          | lt => exact absurd hc h1
          | eq => rfl
          | gt => rfl
      go_enter Try.func35, Try.ntmps35
      go_wp2
      go_ret
      exact ⟨⟨_, rfl, by omega, by omega⟩, Keep.refl _ _⟩
  · have h2 : (FloatKind.f64.format.order x 0 == some Ordering.gt) = false := by rw [beq_eq_false_iff_ne]; exact h0
    go_enter Try.func35, Try.ntmps35
    go_wp2
    go_ret
    exact ⟨⟨0, rfl, by omega, by omega⟩, Keep.refl _ _⟩

theorem isnan_any (x : Nat) (b : Bool) (hb : (FloatKind.f64.format.order x x != some .eq) = b) (w : World) : Calls Try.prog 59 #[.float .f64 x] w fun e w' => e = .returned (.bool b) ∧ w = w' := by
  go_enter Try.func59, Try.ntmps59
  go_wp2
  go_ret
  exact ⟨by rw [← hb]; rfl, rfl⟩
/-- a word that is a number. -/
def Num (x : Nat) : Prop := ∃ s m e, FloatKind.f64.format.read x = .number s m e
theorem order_nan {x y : Nat} {s : Bool} {t : Nat} (h : FloatKind.f64.format.read x = .nan s t) : FloatKind.f64.format.order x y = none := by
  unfold Ieee.Format.order
  rw [h]
  rfl
theorem order_num {x y : Nat} (h : Num x) (k : Num y) : ∃ o, FloatKind.f64.format.order x y = some o := by
  obtain ⟨s, m, e, h⟩ := h
  obtain ⟨s', m', e', k⟩ := k
  unfold Ieee.Format.order
  rw [h, k]
  exact ⟨_, rfl⟩
theorem order_self {x : Nat} (h : Num x) : FloatKind.f64.format.order x x = some .eq := by
  obtain ⟨s, m, e, h⟩ := h
  unfold Ieee.Format.order
  rw [h]
  simp [Ieee.Datum.order]
theorem num_zero : Num 0 := ⟨false, 0, -1074, by kernel_rfl⟩
theorem num_k : Num 4652007308841189376 := ⟨false, 8796093022208000, -43, by kernel_rfl⟩
set_option maxRecDepth 100000 in
theorem clean_some (x : Nat) : ∃ y, Num y ∧ ∀ w, Calls Try.prog 43 #[.float .f64 x, .float .f64 0, .float .f64 4652007308841189376] w fun e w' => e = .returned (.float .f64 y) ∧ w = w' := by
  cases hd : FloatKind.f64.format.read x with
  | nan s t =>
    have o1 : FloatKind.f64.format.order x x = none := order_nan hd
    have hb := isnan_any x true (by rw [o1]; rfl)
    refine ⟨0, num_zero, fun w => ?_⟩
    go_enter Try.func43, Try.ntmps43
    go_wp2_with fail
    refine (hb _).mono ?_
    rintro e w2 ⟨rfl, rfl⟩
    go_wp2
    go_ret
    exact ⟨rfl, rfl⟩
  | infinity s =>
    have o1 : FloatKind.f64.format.order x x = some .eq := by
      unfold Ieee.Format.order
      rw [hd]
      cases s <;> rfl
    have hb := isnan_any x false (by rw [o1]; rfl)
    obtain ⟨_, _, _, h0⟩ := num_zero
    obtain ⟨_, _, _, hk⟩ := num_k
    cases s with
    | true =>
      have o2 : FloatKind.f64.format.order x 0 = some .lt := by unfold Ieee.Format.order; rw [hd, h0]; rfl
      refine ⟨0, num_zero, fun w => ?_⟩
      go_enter Try.func43, Try.ntmps43
      go_wp2_with fail
      refine (hb _).mono ?_
      rintro e w2 ⟨rfl, rfl⟩
      go_wp2
      go_ret
      exact ⟨rfl, rfl⟩
    | false =>
      have o2 : FloatKind.f64.format.order x 0 = some .gt := by unfold Ieee.Format.order; rw [hd, h0]; rfl
      have o3 : FloatKind.f64.format.order x 4652007308841189376 = some .gt := by unfold Ieee.Format.order; rw [hd, hk]; rfl
      refine ⟨4652007308841189376, num_k, fun w => ?_⟩
      go_enter Try.func43, Try.ntmps43
      go_wp2_with fail
      refine (hb _).mono ?_
      rintro e w2 ⟨rfl, rfl⟩
      go_wp2
      go_ret
      exact ⟨rfl, rfl⟩
  | number s m e =>
    have hx : Num x := ⟨s, m, e, hd⟩
    have hb := isnan_any x false (by rw [order_self hx]; rfl)
    obtain ⟨c0, o2⟩ := order_num hx num_zero
    obtain ⟨c1, o3⟩ := order_num hx num_k
    clear hd
    cases c0 with
    | lt =>
      refine ⟨0, num_zero, fun w => ?_⟩
      go_enter Try.func43, Try.ntmps43
      go_wp2_with fail
      refine (hb _).mono ?_
      rintro e w2 ⟨rfl, rfl⟩
      go_wp2
      go_ret
      exact ⟨rfl, rfl⟩
    | eq =>
      cases c1 with
      | gt =>
        refine ⟨4652007308841189376, num_k, fun w => ?_⟩
        go_enter Try.func43, Try.ntmps43
        go_wp2_with fail
        refine (hb _).mono ?_
        rintro e w2 ⟨rfl, rfl⟩
        go_wp2
        go_ret
        exact ⟨rfl, rfl⟩
      | lt =>
        refine ⟨0, num_zero, fun w => ?_⟩
        go_enter Try.func43, Try.ntmps43
        go_wp2_with fail
        refine (hb _).mono ?_
        rintro e w2 ⟨rfl, rfl⟩
        go_wp2
        go_ret
        exact ⟨rfl, rfl⟩
      | eq =>
        refine ⟨0, num_zero, fun w => ?_⟩
        go_enter Try.func43, Try.ntmps43
        go_wp2_with fail
        refine (hb _).mono ?_
        rintro e w2 ⟨rfl, rfl⟩
        go_wp2
        go_ret
        exact ⟨rfl, rfl⟩
    | gt =>
      cases c1 with
      | gt =>
        refine ⟨4652007308841189376, num_k, fun w => ?_⟩
        go_enter Try.func43, Try.ntmps43
        go_wp2_with fail
        refine (hb _).mono ?_
        rintro e w2 ⟨rfl, rfl⟩
        go_wp2
        go_ret
        exact ⟨rfl, rfl⟩
      | lt =>
        refine ⟨x, hx, fun w => ?_⟩
        go_enter Try.func43, Try.ntmps43
        go_wp2_with fail
        refine (hb _).mono ?_
        rintro e w2 ⟨rfl, rfl⟩
        go_wp2
        go_ret
        exact ⟨rfl, rfl⟩
      | eq =>
        refine ⟨x, hx, fun w => ?_⟩
        go_enter Try.func43, Try.ntmps43
        go_wp2_with fail
        refine (hb _).mono ?_
        rintro e w2 ⟨rfl, rfl⟩
        go_wp2
        go_ret
        exact ⟨rfl, rfl⟩

end Go.Proofs.Ytojnmbpicmgcpaa
