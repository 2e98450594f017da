/- The document's later, May, Has, With, walked; how long doubts are, by both. -/
import Derived.Test.YtojnmbpicmgcpaaRTick
namespace Go.Proofs.Ytojnmbpicmgcpaa
open Go.RowKit Sh Go.Shelf
set_option linter.unusedVariables false

theorem later_any (t k : Int) (w : World) (ht : 0 ≤ t ∧ t < 18446744073709551616) (hk : 0 ≤ k ∧ k < 18446744073709551616) : Calls Try.prog 27 #[.int .u64 t, .int .u64 k] w fun e w' => e = .returned (.int .u64 (sat t k)) ∧ w = w' := by
  have e1 : IntKind.u64.wrap (18446744073709551615 - t) = 18446744073709551615 - t := by rw [IntKind.wrap_u64]; omega
  by_cases c : t + k < 18446744073709551616
  · have e2 : IntKind.u64.wrap (t + k) = t + k := by rw [IntKind.wrap_u64]; omega
    have e3 : sat t k = t + k := by unfold sat; rw [if_pos c]
    have d1 : decide (18446744073709551615 - t < k) = false := decide_eq_false (by omega)
    have d2 : ¬ (18446744073709551615 - t < k) := by omega
    have E := Lib.hid e3
    clear e3 c
    go_enter Try.func27, Try.ntmps27
    go_wp2
    go_ret
    exact ⟨by rw [E.out]; rfl, rfl⟩
  · have e3 : sat t k = 18446744073709551615 := by unfold sat; rw [if_neg c]
    have d1 : decide (18446744073709551615 - t < k) = true := decide_eq_true (by omega)
    have d2 : 18446744073709551615 - t < k := by omega
    have E := Lib.hid e3
    clear e3 c
    go_enter Try.func27, Try.ntmps27
    go_wp2
    go_ret
    exact ⟨by rw [E.out]; rfl, rfl⟩
theorem rmay_any (n i s : Int) (w : World) : Calls Try.prog 24 #[updV n i s] w fun e w' => e = .returned (.bool (mayU n s)) ∧ Keep (fun _ => False) w w' := by
  unfold updV
  by_cases h1 : 0 ≤ n
  · have t1 : decide (0 ≤ n) = true := decide_eq_true h1
    by_cases h2 : n < 64
    · have t2 : decide (n < 64) = true := decide_eq_true h2
      by_cases h3 : 0 ≤ s
      · have t3 : decide (0 ≤ s) = true := decide_eq_true h3
        by_cases h4 : s ≤ 3
        · have t4 : decide (s ≤ 3) = true := decide_eq_true h4
          rw [show mayU n s = true by simp [mayU, h1, h2, h3, h4]]
          go_enter Try.func24, Try.ntmps24
          go_wp2
          go_ret
          exact ⟨rfl, (Keep.refl _ w).alloc _⟩
        · have t4 : decide (s ≤ 3) = false := decide_eq_false h4
          rw [show mayU n s = false by simp [mayU, h4]]
          go_enter Try.func24, Try.ntmps24
          go_wp2
          go_ret
          exact ⟨rfl, (Keep.refl _ w).alloc _⟩
      · have t3 : decide (0 ≤ s) = false := decide_eq_false h3
        rw [show mayU n s = false by simp [mayU, h3]]
        go_enter Try.func24, Try.ntmps24
        go_wp2
        go_ret
        exact ⟨rfl, (Keep.refl _ w).alloc _⟩
    · have t2 : decide (n < 64) = false := decide_eq_false h2
      rw [show mayU n s = false by simp [mayU, h2]]
      go_enter Try.func24, Try.ntmps24
      go_wp2
      go_ret
      exact ⟨rfl, (Keep.refl _ w).alloc _⟩
  · have t1 : decide (0 ≤ n) = false := decide_eq_false h1
    rw [show mayU n s = false by simp [mayU, h1]]
    go_enter Try.func24, Try.ntmps24
    go_wp2
    go_ret
    exact ⟨rfl, (Keep.refl _ w).alloc _⟩

theorem rnode_in (n : Nat) (hn : n ≤ 63) (w : World) : Calls Try.prog 37 #[.int .i64 n] w fun e w' => e = .returned (.bool true) ∧ w = w' := by
  have d1 : decide ((n : Int) < 64) = true := decide_eq_true (by omega)
  have d2 : (n : Int) < 64 := by omega
  have d3 : decide ((0 : Int) ≤ (n : Int)) = true := decide_eq_true (by omega)
  go_enter Try.func37, Try.ntmps37
  go_wp2
  go_ret
  exact ⟨rfl, rfl⟩
theorem shr_and (f k : Nat) (hf : f < 18446744073709551616) : (bits BinOp.and IntKind.u64 ((f : Int) / 2 ^ k) 1 == 1) = f.testBit k := by
  have e1 : ((f : Int) / 2 ^ k) = ((f / 2 ^ k : Nat) : Int) := by push_cast; rfl
  have e2 := bits_and_u64_nat (f / 2 ^ k) 1 (Nat.lt_of_le_of_lt (Nat.div_le_self _ _) hf) (by omega)
  rw [e1, show ((1 : Int)) = ((1 : Nat) : Int) from rfl, e2, Nat.and_one_is_mod, Nat.testBit_eq_decide_div_mod_eq, Bool.eq_iff_iff, beq_iff_eq, decide_eq_true_eq]
  omega
theorem rhas_bit (f k : Nat) (hf : f < 18446744073709551616) (hk : k ≤ 63) (w : World) : Calls Try.prog 25 #[.int .u64 (f : Int), .int .i64 k] w fun e w' => e = .returned (.bool (f.testBit k)) ∧ w = w' := by
  have e1 := shr_and f k hf
  have HB := Lib.hid (fun W => rnode_in k hk W)
  have d1 : ¬ (63 : Int) < (k : Int) := by omega
  have d2 : decide ((63 : Int) < (k : Int)) = false := decide_eq_false d1
  generalize f.testBit k = b at *
  go_enter Try.func25, Try.ntmps25
  go_wp2_with fail
  refine (HB.out _).mono ?_
  rintro e w' ⟨rfl, rfl⟩
  go_wp2
  go_ret
  exact ⟨by rw [← e1]; rfl, rfl⟩
theorem rwith_bit (f k : Nat) (hf : f < 18446744073709551616) (hk : k ≤ 63) (w : World) : Calls Try.prog 26 #[.int .u64 (f : Int), .int .i64 k] w fun e w' => e = .returned (.int .u64 ((f ||| 2 ^ k : Nat) : Int)) ∧ w = w' := by
  have h1 : (2 : Nat) ^ k ≤ 2 ^ 63 := Nat.pow_le_pow_right (by omega) hk
  have h2 : ((2 : Int) ^ k) = ((2 ^ k : Nat) : Int) := by push_cast; rfl
  have e1 : bits BinOp.or IntKind.u64 (f : Int) ((2 : Int) ^ k) = ((f ||| 2 ^ k : Nat) : Int) := by
    rw [h2]; exact bits_or_u64_nat f (2 ^ k) hf (by omega)
  have e2 := pow_u64 k hk
  have HB := Lib.hid (fun W => rnode_in k hk W)
  clear h1 h2
  go_enter Try.func26, Try.ntmps26
  go_wp2_with fail
  refine (HB.out _).mono ?_
  rintro e w' ⟨rfl, rfl⟩
  go_wp2
  go_ret
  exact ⟨by rw [← e1]; rfl, rfl⟩

/-- How long a doubt is that t others told, by the program and by the document. -/
structure Waits2 (base : Nat) (nodes : Int) (u : Nat → Nat) : Prop where
  prog : Waits base nodes u
  ref : ∃ m : Nat → Nat, (∀ t : Nat, t < 9223372036854775808 → ∀ w, Calls Try.prog 29 #[.float .f64 base, .int .i64 nodes, .int .i64 (t : Int), .int .i64 3] w fun e w' => e = .returned (.float .f64 (m t)) ∧ w = w') ∧ ∀ (t : Nat) w, Calls Try.prog 28 #[.float .f64 (m t)] w fun e w' => e = .returned (.int .u64 (u t : Int)) ∧ w = w'
theorem waits2_some (base : Nat) (hb : base < 18446744073709551616) (nodes : Int) (h0 : -9223372036854775808 ≤ nodes) (h1 : nodes < 9223372036854775808) : ∃ u, Waits2 base nodes u := by
  obtain ⟨hy, hc⟩ := clean_prog base hb
  obtain ⟨_, hc2⟩ := clean_ref base hb
  have hb64 := bits_le nodes h1
  have a1 := fun t ht w => wait_word base _ nodes (bitsI nodes) t h0 h1 ht hy hc rfl w
  have a2 := fun t w => ticks_word (wait_le hy hb64 t) w
  have a3 := fun t => tick_le (wait_le hy hb64 t)
  have a4 := fun t => tick_mono (wait_anti hy hb64 t) (wait_le hy hb64 t)
  have a5 := fun t ht w => rwait_word base _ nodes (bitsI nodes) t h1 ht hy hc2 rfl w
  have a6 := fun t w => rticks_word (wait_le hy hb64 t) w
  obtain ⟨m, hm⟩ : ∃ m : Nat → Nat, m = fun t => waitW (cleanY base) (bitsI nodes) t := ⟨_, rfl⟩
  have hm2 : ∀ t, waitW (cleanY base) (bitsI nodes) t = m t := fun t => by rw [hm]
  simp only [hm2] at a1 a2 a3 a4 a5 a6
  obtain ⟨v, hv⟩ : ∃ v : Nat → Nat, v = tickW := ⟨_, rfl⟩
  rw [← hv] at a2 a3 a4 a6
  clear hm hm2 hv hc hc2
  exact ⟨fun t => v (m t), ⟨⟨m, a1, a2⟩, a3, a4⟩, ⟨m, a5, a6⟩⟩
end Go.Proofs.Ytojnmbpicmgcpaa
