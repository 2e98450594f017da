/- Walk of real.Ticks in words; how long a doubt is that so many told. -/
import Derived.Test.YtojnmbpicmgcpaaWaitV
import Derived.Test.YtojnmbpicmgcpaaDoubM
namespace Go.Proofs.Ytojnmbpicmgcpaa
open Go.RowKit Sh Go.Shelf
open Go.ChangeMaps (setBlock)
set_option linter.unusedVariables false

theorem conv_word {y : Nat} (hy : y < INF) (ht : truncW y < 18446744073709551616) (w : World) : (convert 35 32 (.float .f64 y)).run Try.prog w = .ok (.int .u64 (truncW y)) w := by
  have e : (convert 35 32 (.float .f64 y)).run Try.prog w = (Conv.floatToInt .f64 y .u64).run Try.prog w := by
    simp only [convert, Sem.run_bind, run_underlying Try.underlying35, run_underlying Try.underlying32, Result.andThen]
  have h : (FloatKind.f64.decode y).toInt .zero = some (truncW y : Int) := trunc_word hy
  rw [e]
  unfold Conv.floatToInt
  rw [h]
  dsimp only
  rw [if_pos (show IntKind.u64.min ≤ (truncW y : Int) ∧ (truncW y : Int) ≤ IntKind.u64.max from by
    constructor
    · show (0 : Int) ≤ _; omega
    · show _ ≤ (18446744073709551615 : Int); omega)]
  rfl
theorem ceil_any {x : Nat} (hx : x < INF) (w : World) : Calls Try.prog 42 #[.float .f64 x] w fun e w' => e = .returned (.float .f64 (ceilW x)) ∧ w = w' := by
  have h1 : FloatKind.f64.decode x = .number false (mg x) ((pl x : Int) - 1074) := read_word hx
  have h2 : FloatKind.f64.encode ((FloatKind.f64.decode x).integral .up) = ceilW x := ceil_word hx
  rw [h1] at h2
  exact math_ceil_num x (ceilW x) false (mg x) _ h1 h2 w
set_option maxRecDepth 100000 in
theorem ticks_core (m c : Nat) (t : Nat) (h0 : FloatKind.f64.format.order m 0 = some (compare m 0)) (h1 : FloatKind.f64.format.order m 4787326403894837248 = some .lt) (hc : Hid (∀ w, Calls Try.prog 42 #[.float .f64 m] w fun e w' => e = .returned (.float .f64 c) ∧ w = w')) (hv : ∀ w, (convert 35 32 (.float .f64 c)).run Try.prog w = .ok (.int .u64 (t : Int)) w) (w : World) :
    Calls Try.prog 35 #[.float .f64 m] w fun e w' => e = .returned (.int .u64 ((if m = 0 then 0 else t : Nat) : Int)) ∧ w = w' := by
  by_cases hm : m = 0
  · subst hm
    have h2 : FloatKind.f64.format.order 0 0 = some .eq := h0
    clear h0
    rw [if_pos rfl]
    go_enter Try.func35, Try.ntmps35
    go_wp2
    go_ret
    exact ⟨rfl, rfl⟩
  · rw [if_neg hm]
    rw [Nat.compare_eq_gt.2 (by omega)] at h0
    clear hm
    go_enter Try.func35, Try.ntmps35
    go_wp2_with fail
    refine (hc.out _).mono ?_
    rintro e w' ⟨rfl, rfl⟩
    go_wp2
    go_ret
    exact ⟨rfl, rfl⟩
theorem ticks_word {m : Nat} (hm : m ≤ C64K) (w : World) : Calls Try.prog 35 #[.float .f64 m] w fun e w' => e = .returned (.int .u64 (tickW m : Int)) ∧ w = w' := by
  have hi := Nat.lt_of_le_of_lt hm c_inf
  have hc := Nat.lt_of_le_of_lt (ceil_le hm) c_inf
  have e : truncW C64K = 64000 := by kernel_rfl
  have ht : truncW (ceilW m) ≤ 64000 := by rw [← e]; exact truncW_mono hc c_inf (ceil_le hm)
  have h1 : FloatKind.f64.format.order m 4787326403894837248 = some (compare m 4787326403894837248) := order_word hi (by decide)
  rw [Nat.compare_eq_lt.2 (by unfold C64K at hm; omega)] at h1
  exact ticks_core m (ceilW m) (truncW (ceilW m)) (order_word hi (by decide)) h1 (Lib.hid (ceil_any hi)) (conv_word hc (by omega)) w

/-- How long a doubt is that t others told: it takes u t. -/
structure Waits (base : Nat) (nodes : Int) (u : Nat → Nat) : Prop where
  ex : ∃ m : Nat → Nat, (∀ t : Nat, t < 9223372036854775808 → ∀ w, Calls Try.prog 36 #[.float .f64 base, .int .i64 nodes, .int .i64 (t : Int), .int .i64 3] w fun e w' => e = .returned (.float .f64 (m t)) ∧ Keep (fun _ => False) w w') ∧ ∀ (t : Nat) w, Calls Try.prog 35 #[.float .f64 (m t)] w fun e w' => e = .returned (.int .u64 (u t : Int)) ∧ w = w'
  le : ∀ t : Nat, u t ≤ 64000
  anti : ∀ t : Nat, u (t + 1) ≤ u t
theorem waits_some (base : Nat) (hb : base < 18446744073709551616) (nodes : Int) (h0 : -9223372036854775808 ≤ nodes) (h1 : nodes < 9223372036854775808) : ∃ u, Waits base nodes u := by
  obtain ⟨y, hy, hc⟩ := clean_word base hb
  have hb64 := bits_le nodes h1
  have a1 := fun t ht w => wait_word base y nodes (bitsI nodes) t h0 h1 ht hy hc rfl w
  have a2 := fun t w => ticks_word (wait_le hy hb64 t) w
  have a3 := fun t => tick_le (wait_le hy hb64 t)
  have a4 := fun t => tick_mono (wait_anti hy hb64 t) (wait_le hy hb64 t)
  obtain ⟨m, hm⟩ : ∃ m : Nat → Nat, m = fun t => waitW y (bitsI nodes) t := ⟨_, rfl⟩
  have hm2 : ∀ t, waitW y (bitsI nodes) t = m t := fun t => by rw [hm]
  simp only [hm2] at a1 a2 a3 a4
  obtain ⟨v, hv⟩ : ∃ v : Nat → Nat, v = tickW := ⟨_, rfl⟩
  rw [← hv] at a2 a3 a4
  clear hm hm2 hv hc
  exact ⟨fun t => v (m t), ⟨m, a1, a2⟩, a3, a4⟩
theorem Waits.is {base : Nat} {nodes : Int} {u : Nat → Nat} (h : Waits base nodes u) : WaitIs base nodes (fun t => t = (u 0 : Int)) := by
  obtain ⟨m, h1, h2⟩ := h.ex
  exact ⟨m 0, fun w => h1 0 (by omega) w, fun w => (h2 0 w).mono fun _ _ ⟨e1, e2⟩ => ⟨⟨(u 0 : Int), e1, by omega, by have := h.le 0; omega, rfl⟩, by subst e2; exact Keep.refl _ _⟩⟩
end Go.Proofs.Ytojnmbpicmgcpaa
