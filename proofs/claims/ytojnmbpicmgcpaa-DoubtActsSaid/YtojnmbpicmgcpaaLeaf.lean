/- Small functions: may, bands' bits. -/
import Derived.Test.YtojnmbpicmgcpaaMapM
import Derived.Laws.Externs
import Derived.Laws.Bits64b
namespace Go.Proofs.Ytojnmbpicmgcpaa
open Go.RowKit Sh
open Go.ChangeMaps (setBlock)
set_option linter.unusedVariables false

theorem cell_new {w : World} {n i : Nat} {cs : Array Value} {t : TypeId} {v : Value} (hn : n = w.heap.size) (h : cs[i]? = some v) : (w.alloc (.cells cs t)).cell? ⟨n, i, none⟩ = some v := by
  subst hn
  have hn := heap_alloc_new w (.cells cs t)
  simp only [World.cell?, hn]
  exact h
theorem cell_newd {w : World} {n i : Nat} {cs : Array Value} {t : TypeId} {v : Value} (hn : n = w.heap.size) (h : cs[i]? = some v) : (w.alloc (.cells cs t)).drew.cell? ⟨n, i, none⟩ = some v := cell_new hn h
/-- An update, as a value. -/
def updV (n i s : Int) : Value := .agg #[.int .i64 n, .int .u64 i, .int .i64 s]
def mayU (n s : Int) : Bool := decide (0 ≤ n ∧ n < 64 ∧ 0 ≤ s ∧ s ≤ 3)
theorem toldmay_any (n i s : Int) (w : World) : Calls Try.prog 31 #[updV n i s] w fun e w' => e = .returned (.bool (mayU n s)) ∧ Keep (fun _ => False) w w' := by
  unfold updV
  by_cases h1 : 0 ≤ n
  · have t1 : decide (0 ≤ n) = true := decide_eq_true h1
    by_cases h2 : n < 64
    · have t2 : decide (n < 64) = true := decide_eq_true h2
      by_cases h3 : 0 ≤ s
      · have t3 : decide (0 ≤ s) = true := decide_eq_true h3
        by_cases h4 : s ≤ 3
        · have t4 : decide (s ≤ 3) = true := decide_eq_true h4
          rw [show mayU n s = true by simp [mayU, h1, h2, h3, h4]]
          go_enter Try.func31, Try.ntmps31
          go_wp2
          go_ret
          exact ⟨rfl, (Keep.refl _ w).alloc _⟩
        · have t4 : decide (s ≤ 3) = false := decide_eq_false h4
          rw [show mayU n s = false by simp [mayU, h4]]
          go_enter Try.func31, Try.ntmps31
          go_wp2
          go_ret
          exact ⟨rfl, (Keep.refl _ w).alloc _⟩
      · have t3 : decide (0 ≤ s) = false := decide_eq_false h3
        rw [show mayU n s = false by simp [mayU, h3]]
        go_enter Try.func31, Try.ntmps31
        go_wp2
        go_ret
        exact ⟨rfl, (Keep.refl _ w).alloc _⟩
    · have t2 : decide (n < 64) = false := decide_eq_false h2
      rw [show mayU n s = false by simp [mayU, h2]]
      go_enter Try.func31, Try.ntmps31
      go_wp2
      go_ret
      exact ⟨rfl, (Keep.refl _ w).alloc _⟩
  · have t1 : decide (0 ≤ n) = false := decide_eq_false h1
    rw [show mayU n s = false by simp [mayU, h1]]
    go_enter Try.func31, Try.ntmps31
    go_wp2
    go_ret
    exact ⟨rfl, (Keep.refl _ w).alloc _⟩
theorem may_any (n i s : Int) (w : World) : Calls Try.prog 20 #[updV n i s] w fun e w' => e = .returned (.bool (mayU n s)) ∧ Keep (fun _ => False) w w' := by
  unfold updV
  go_enter Try.func20, Try.ntmps20
  go_wp2_with fail
  refine (toldmay_any n i s _).mono ?_
  rintro e w1 ⟨rfl, hk⟩
  have HK := Lib.hid (((Keep.refl (fun _ => False) w).alloc _).step hk)
  clear hk
  go_wp2
  go_ret
  exact ⟨rfl, HK.out⟩


theorem pow_u64 (n : Nat) (hn : n ≤ 63) : IntKind.u64.wrap ((2 : Int) ^ n) = (2 : Int) ^ n := by
  have h1 : (2 : Nat) ^ n ≤ 2 ^ 63 := Nat.pow_le_pow_right (by omega) hn
  have h2 : ((2 : Int) ^ n) = ((2 ^ n : Nat) : Int) := by push_cast; rfl
  rw [IntKind.wrap_u64, h2]
  generalize (2 : Nat) ^ n = m at h1 ⊢
  omega
theorem bit_any (n : Nat) (hn : n ≤ 63) (w : World) : Calls Try.prog 32 #[.int .i64 n] w fun e w' => e = .returned (.int .u64 ((2 : Int) ^ n)) ∧ w = w' := by
  have d1 : decide ((n : Int) < 0) = false := decide_eq_false (by omega)
  have d2 : decide ((63 : Int) < (n : Int)) = false := decide_eq_false (by omega)
  have d3 : ¬ (63 : Int) < (n : Int) := by omega
  have e1 := pow_u64 n hn
  go_enter Try.func32, Try.ntmps32
  go_wp2
  go_ret
  exact ⟨rfl, rfl⟩
theorem or_zero (n : Nat) (hn : n ≤ 63) : bits BinOp.or IntKind.u64 0 ((2 : Int) ^ n) = (2 : Int) ^ n := by
  have h1 : (2 : Nat) ^ n ≤ 2 ^ 63 := Nat.pow_le_pow_right (by omega) hn
  have h2 : ((2 : Int) ^ n) = ((2 ^ n : Nat) : Int) := by push_cast; rfl
  rw [h2]
  have := bits_or_u64_nat 0 (2 ^ n) (by omega) (by omega)
  simpa using this
theorem with_zero (n : Nat) (hn : n ≤ 63) (w : World) : Calls Try.prog 22 #[.int .u64 0, .int .i64 n] w fun e w' => e = .returned (.int .u64 ((2 : Int) ^ n)) ∧ w = w' := by
  have e1 := pow_u64 n hn
  have e2 := or_zero n hn
  go_enter Try.func22, Try.ntmps22
  go_wp2_with fail
  refine (bit_any n hn _).mono ?_
  rintro e w' ⟨rfl, rfl⟩
  go_wp2
  go_ret
  exact ⟨rfl, rfl⟩
theorem has_one (w : World) : Calls Try.prog 21 #[.int .u64 2, .int .i64 1] w fun e w' => e = .returned (.bool true) ∧ w = w' := by
  have e1 : bits BinOp.and IntKind.u64 2 2 = 2 := by decide
  go_enter Try.func21, Try.ntmps21
  go_wp2_with fail
  refine (bit_any 1 (by omega) _).mono ?_
  rintro e w' ⟨rfl, rfl⟩
  go_wp2
  go_ret
  exact ⟨rfl, rfl⟩

end Go.Proofs.Ytojnmbpicmgcpaa
