/- The document's reals (Clean, Bits, Wait, Ticks): in words; they are the program's. -/
import Derived.Test.YtojnmbpicmgcpaaTickV
namespace Go.Proofs.Ytojnmbpicmgcpaa
open Go.RowKit Sh Go.Shelf
set_option linter.unusedVariables false

def cleanY (x : Nat) : Nat := match FloatKind.f64.format.order x 0 with
  | some .gt => (match FloatKind.f64.format.order x 4652007308841189376 with | some .gt => 4652007308841189376 | _ => x)
  | _ => 0
/-- a zero is below a thousand. -/
theorem eq_zero_lt {x : Nat} (hx : x < 18446744073709551616) (hn : Num x) {c1 : Ordering} (o2 : FloatKind.f64.format.order x 0 = some .eq) (o3 : FloatKind.f64.format.order x 4652007308841189376 = some c1) : c1 = .lt := by
  obtain ⟨s, m, e, hd⟩ := hn
  have hz : FloatKind.f64.format.read 0 = .number false 0 (-1074) := by kernel_rfl
  have hk : FloatKind.f64.format.read 4652007308841189376 = .number false 8796093022208000 (-43) := by kernel_rfl
  unfold Ieee.Format.order at o2 o3
  rw [hd, hz] at o2
  rw [hd, hk] at o3
  simp only [Ieee.Datum.order] at o2 o3
  injection o2 with o2
  injection o3 with o3
  rw [Int.compare_eq_eq] at o2
  have hm : m = 0 := by
    have hp := Nat.two_pow_pos (e - min e (-1074)).toNat
    cases s with
    | true => rw [signed_t, signed_f, Nat.zero_mul] at o2; rcases Nat.mul_eq_zero.1 (show m * 2 ^ (e - min e (-1074)).toNat = 0 by omega) with h | h <;> omega
    | false => rw [signed_f, signed_f, Nat.zero_mul] at o2; rcases Nat.mul_eq_zero.1 (show m * 2 ^ (e - min e (-1074)).toNat = 0 by omega) with h | h <;> omega
  subst hm
  rw [← o3, Int.compare_eq_lt]
  have h1 : Ieee.signed s 0 (e - min e (-43)).toNat = 0 := by cases s <;> simp [signed_t, signed_f]
  rw [h1, signed_f]
  have hp := Nat.two_pow_pos (-43 - min e (-43)).toNat
  have : 0 < 8796093022208000 * 2 ^ (-43 - min e (-43)).toNat := Nat.mul_pos (by omega) hp
  omega
set_option maxRecDepth 100000 in
theorem clean_prog (x : Nat) (hx : x < 18446744073709551616) : cleanY x ≤ K1000 ∧ ∀ w, Calls Try.prog 43 #[.float .f64 x, .float .f64 0, .float .f64 4652007308841189376] w fun e w' => e = .returned (.float .f64 (cleanY x)) ∧ w = w' := by
  cases hd : FloatKind.f64.format.read x with
  | nan s t =>
    have o1 : FloatKind.f64.format.order x x = none := order_nan hd
    have o2 : FloatKind.f64.format.order x 0 = none := order_nan hd
    have hb := isnan_any x true (by rw [o1]; rfl)
    have hy : cleanY x = 0 := by unfold cleanY; rw [o2]
    rw [hy]
    refine ⟨by decide, ?_⟩
    clear hd hx hy
    refine fun w => ?_
    go_enter Try.func43, Try.ntmps43
    go_wp2_with fail
    refine (hb _).mono ?_
    rintro e w2 ⟨rfl, rfl⟩
    go_wp2
    go_ret
    exact ⟨rfl, rfl⟩
  | infinity s =>
    have o1 : FloatKind.f64.format.order x x = some .eq := by
      unfold Ieee.Format.order
      rw [hd]
      cases s <;> rfl
    have hb := isnan_any x false (by rw [o1]; rfl)
    obtain ⟨_, _, _, h0⟩ := num_zero
    obtain ⟨_, _, _, hk⟩ := num_k
    cases s with
    | true =>
      have o2 : FloatKind.f64.format.order x 0 = some .lt := by unfold Ieee.Format.order; rw [hd, h0]; rfl
      have hy : cleanY x = 0 := by unfold cleanY; rw [o2]
      rw [hy]
      refine ⟨by decide, ?_⟩
      clear hd hx hy h0 hk
      refine fun w => ?_
      go_enter Try.func43, Try.ntmps43
      go_wp2_with fail
      refine (hb _).mono ?_
      rintro e w2 ⟨rfl, rfl⟩
      go_wp2
      go_ret
      exact ⟨rfl, rfl⟩
    | false =>
      have o2 : FloatKind.f64.format.order x 0 = some .gt := by unfold Ieee.Format.order; rw [hd, h0]; rfl
      have o3 : FloatKind.f64.format.order x 4652007308841189376 = some .gt := by unfold Ieee.Format.order; rw [hd, hk]; rfl
      have hy : cleanY x = 4652007308841189376 := by unfold cleanY; rw [o2, o3]
      rw [hy]
      refine ⟨by decide, ?_⟩
      clear hd hx hy h0 hk
      refine fun w => ?_
      go_enter Try.func43, Try.ntmps43
      go_wp2_with fail
      refine (hb _).mono ?_
      rintro e w2 ⟨rfl, rfl⟩
      go_wp2
      go_ret
      exact ⟨rfl, rfl⟩
  | number s m e =>
    have hn : Num x := ⟨s, m, e, hd⟩
    have o1 := order_self hn
    have hb := isnan_any x false (by rw [o1]; rfl)
    obtain ⟨c0, o2⟩ := order_num hn num_zero
    obtain ⟨c1, o3⟩ := order_num hn num_k
    clear hd
    cases c0 with
    | lt =>
      have hy : cleanY x = 0 := by unfold cleanY; rw [o2]
      rw [hy]
      refine ⟨by decide, ?_⟩
      clear hx hy hn o3
      refine fun w => ?_
      go_enter Try.func43, Try.ntmps43
      go_wp2_with fail
      refine (hb _).mono ?_
      rintro e w2 ⟨rfl, rfl⟩
      go_wp2
      go_ret
      exact ⟨rfl, rfl⟩
    | eq =>
      have hy : cleanY x = 0 := by unfold cleanY; rw [o2]
      rw [hy]
      refine ⟨by decide, ?_⟩
      have hl : c1 = .lt := eq_zero_lt hx hn o2 o3
      subst hl
      clear hx hy hn
      refine fun w => ?_
      go_enter Try.func43, Try.ntmps43
      go_wp2_with fail
      refine (hb _).mono ?_
      rintro e w2 ⟨rfl, rfl⟩
      go_wp2
      go_ret
      exact ⟨rfl, rfl⟩
    | gt =>
      have hi := gt_inf hx hn o2
      have ho : FloatKind.f64.format.order x 4652007308841189376 = some (compare x 4652007308841189376) := order_word hi (by decide)
      rw [o3] at ho
      injection ho with ho
      cases c1 with
      | gt =>
        have hy : cleanY x = 4652007308841189376 := by unfold cleanY; rw [o2, o3]
        rw [hy]
        refine ⟨by decide, ?_⟩
        clear hx hy hn hi ho
        refine fun w => ?_
        go_enter Try.func43, Try.ntmps43
        go_wp2_with fail
        refine (hb _).mono ?_
        rintro e w2 ⟨rfl, rfl⟩
        go_wp2
        go_ret
        exact ⟨rfl, rfl⟩
      | lt =>
        have hy : cleanY x = x := by unfold cleanY; rw [o2, o3]
        have hle : x ≤ K1000 := by unfold K1000; have := Nat.compare_eq_lt.1 ho.symm; omega
        rw [hy]
        refine ⟨hle, ?_⟩
        clear hx hy hn hi ho hle
        refine fun w => ?_
        go_enter Try.func43, Try.ntmps43
        go_wp2_with fail
        refine (hb _).mono ?_
        rintro e w2 ⟨rfl, rfl⟩
        go_wp2
        go_ret
        exact ⟨rfl, rfl⟩
      | eq =>
        have hy : cleanY x = x := by unfold cleanY; rw [o2, o3]
        have hle : x ≤ K1000 := by unfold K1000; have := Nat.compare_eq_eq.1 ho.symm; omega
        rw [hy]
        refine ⟨hle, ?_⟩
        clear hx hy hn hi ho hle
        refine fun w => ?_
        go_enter Try.func43, Try.ntmps43
        go_wp2_with fail
        refine (hb _).mono ?_
        rintro e w2 ⟨rfl, rfl⟩
        go_wp2
        go_ret
        exact ⟨rfl, rfl⟩
set_option maxRecDepth 100000 in
theorem clean_ref (x : Nat) (hx : x < 18446744073709551616) : cleanY x ≤ K1000 ∧ ∀ w, Calls Try.prog 38 #[.float .f64 x, .float .f64 0, .float .f64 4652007308841189376] w fun e w' => e = .returned (.float .f64 (cleanY x)) ∧ w = w' := by
  have z1 : FloatKind.f64.format.order 0 0 = some .eq := by kernel_rfl
  have z2 : FloatKind.f64.format.order 4652007308841189376 4652007308841189376 = some .eq := by kernel_rfl
  have z3 : FloatKind.f64.format.order 0 4652007308841189376 = some .lt := by kernel_rfl
  cases hd : FloatKind.f64.format.read x with
  | nan s t =>
    have o1 : FloatKind.f64.format.order x x = none := order_nan hd
    have o2 : FloatKind.f64.format.order x 0 = none := order_nan hd
    have hy : cleanY x = 0 := by unfold cleanY; rw [o2]
    rw [hy]
    refine ⟨by decide, ?_⟩
    clear hd hx hy
    refine fun w => ?_
    go_enter Try.func38, Try.ntmps38
    go_wp2
    go_ret
    exact ⟨rfl, rfl⟩
  | infinity s =>
    have o1 : FloatKind.f64.format.order x x = some .eq := by
      unfold Ieee.Format.order
      rw [hd]
      cases s <;> rfl
    obtain ⟨_, _, _, h0⟩ := num_zero
    obtain ⟨_, _, _, hk⟩ := num_k
    cases s with
    | true =>
      have o2 : FloatKind.f64.format.order x 0 = some .lt := by unfold Ieee.Format.order; rw [hd, h0]; rfl
      have hy : cleanY x = 0 := by unfold cleanY; rw [o2]
      rw [hy]
      refine ⟨by decide, ?_⟩
      clear hd hx hy h0 hk
      refine fun w => ?_
      go_enter Try.func38, Try.ntmps38
      go_wp2
      go_ret
      exact ⟨rfl, rfl⟩
    | false =>
      have o2 : FloatKind.f64.format.order x 0 = some .gt := by unfold Ieee.Format.order; rw [hd, h0]; rfl
      have o3 : FloatKind.f64.format.order x 4652007308841189376 = some .gt := by unfold Ieee.Format.order; rw [hd, hk]; rfl
      have hy : cleanY x = 4652007308841189376 := by unfold cleanY; rw [o2, o3]
      rw [hy]
      refine ⟨by decide, ?_⟩
      clear hd hx hy h0 hk
      refine fun w => ?_
      go_enter Try.func38, Try.ntmps38
      go_wp2
      go_ret
      exact ⟨rfl, rfl⟩
  | number s m e =>
    have hn : Num x := ⟨s, m, e, hd⟩
    have o1 := order_self hn
    obtain ⟨c0, o2⟩ := order_num hn num_zero
    obtain ⟨c1, o3⟩ := order_num hn num_k
    clear hd
    cases c0 with
    | lt =>
      have hy : cleanY x = 0 := by unfold cleanY; rw [o2]
      rw [hy]
      refine ⟨by decide, ?_⟩
      clear hx hy hn o3
      refine fun w => ?_
      go_enter Try.func38, Try.ntmps38
      go_wp2
      go_ret
      exact ⟨rfl, rfl⟩
    | eq =>
      have hy : cleanY x = 0 := by unfold cleanY; rw [o2]
      rw [hy]
      refine ⟨by decide, ?_⟩
      have hl : c1 = .lt := eq_zero_lt hx hn o2 o3
      subst hl
      clear hx hy hn
      refine fun w => ?_
      go_enter Try.func38, Try.ntmps38
      go_wp2
      go_ret
      exact ⟨rfl, rfl⟩
    | gt =>
      have hi := gt_inf hx hn o2
      have ho : FloatKind.f64.format.order x 4652007308841189376 = some (compare x 4652007308841189376) := order_word hi (by decide)
      rw [o3] at ho
      injection ho with ho
      cases c1 with
      | gt =>
        have hy : cleanY x = 4652007308841189376 := by unfold cleanY; rw [o2, o3]
        rw [hy]
        refine ⟨by decide, ?_⟩
        clear hx hy hn hi ho
        refine fun w => ?_
        go_enter Try.func38, Try.ntmps38
        go_wp2
        go_ret
        exact ⟨rfl, rfl⟩
      | lt =>
        have hy : cleanY x = x := by unfold cleanY; rw [o2, o3]
        have hle : x ≤ K1000 := by unfold K1000; have := Nat.compare_eq_lt.1 ho.symm; omega
        rw [hy]
        refine ⟨hle, ?_⟩
        clear hx hy hn hi ho hle
        refine fun w => ?_
        go_enter Try.func38, Try.ntmps38
        go_wp2
        go_ret
        exact ⟨rfl, rfl⟩
      | eq =>
        have hy : cleanY x = x := by unfold cleanY; rw [o2, o3]
        have hle : x ≤ K1000 := by unfold K1000; have := Nat.compare_eq_eq.1 ho.symm; omega
        rw [hy]
        refine ⟨hle, ?_⟩
        clear hx hy hn hi ho hle
        refine fun w => ?_
        go_enter Try.func38, Try.ntmps38
        go_wp2
        go_ret
        exact ⟨rfl, rfl⟩
end Go.Proofs.Ytojnmbpicmgcpaa
