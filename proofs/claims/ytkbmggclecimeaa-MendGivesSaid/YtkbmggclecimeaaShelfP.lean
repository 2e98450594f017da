/- Plain laws on shelves that are filled and trimmed; no program here. -/
import Derived.Test.YtkbmggclecimeaaShelfB
namespace Go.Proofs.Ytkbmggclecimeaa
open Go.RowKit Sh
set_option linter.unusedVariables false

def plc (m : Nat) : Plc := ⟨m, 0, m, ⟨#[]⟩⟩

def fillN : Nat → St
  | 0 => Sh.fresh
  | j + 1 => (fillN j).set (((j : Int) + 1) % 64).toNat ⟨(j : Int) + 1, 0, (j : Int) + 1, ⟨#[]⟩⟩

theorem fillN_low (j : Nat) : (fillN j).low = 0 := by
  induction j with
  | zero => rfl
  | succ j ih => simp [fillN, St.set, ih]

/-- low, and which of 1 to 64 are there. -/
structure Is2 (st : St) (low n : Nat) : Prop where
  lo : st.low = low
  rg : ∀ m : Nat, 1 ≤ m → m ≤ 64 → st.ring (m % 64) = if low < m ∧ m ≤ n then plc m else noPlc

theorem fillN_is (j : Nat) (hj : j ≤ 64) : Is2 (fillN j) 0 j := by
  refine ⟨fillN_low j, ?_⟩
  induction j with
  | zero => intro m h1 h2; rw [if_neg (by omega)]; rfl
  | succ j ih =>
    intro m h1 h2
    have hidx : (((j : Int) + 1) % 64).toNat = (j + 1) % 64 := by omega
    by_cases e : m = j + 1
    · subst e
      rw [if_pos (by omega)]
      simp only [fillN, St.set, hidx, if_pos, plc]
      rfl
    · have hne : ¬ m % 64 = (j + 1) % 64 := by omega
      have := ih (by omega) m h1 h2
      simp only [fillN, St.set, hidx, if_neg hne, this]
      by_cases h : 0 < m ∧ m ≤ j
      · rw [if_pos h, if_pos (by omega)]
      · rw [if_neg h, if_neg (by omega)]

theorem trimN_is (st : St) (n k : Nat) (h : Is2 st 0 n) (hk : k ≤ 64) : Is2 (trimN st k) k n := by
  refine ⟨by rw [trimN_low, h.lo]; omega, ?_⟩
  induction k with
  | zero => intro m h1 h2; rw [trimN, h.rg m h1 h2]
  | succ k ih =>
    intro m h1 h2
    have hidx : ((st.low + (k : Int) + 1) % 64).toNat = (k + 1) % 64 := by rw [h.lo]; omega
    by_cases e : m = k + 1
    · subst e
      rw [if_neg (by omega)]
      simp only [trimN, St.set, hidx, if_pos]
    · have hne : ¬ m % 64 = (k + 1) % 64 := by omega
      have := ih (by omega) m h1 h2
      simp only [trimN, St.set, St.setLow, hidx, if_neg hne, this]
      by_cases hh : k < m ∧ m ≤ n
      · rw [if_pos hh, if_pos (by omega)]
      · rw [if_neg hh, if_neg (by omega)]

theorem Is2.ok {st : St} {low n : Nat} (h : Is2 st low n) (hl : low ≤ 64) : St.ok st := ⟨by rw [h.lo]; omega, by rw [h.lo]; omega⟩

theorem Is2.has {st : St} {low n : Nat} (h : Is2 st low n) (m : Nat) (h1 : 1 ≤ m) (h2 : m ≤ 64) : hasB st (m : Int) = decide (low < m ∧ m ≤ n) := by
  have hidx : ((m : Int) % 64).toNat = m % 64 := by omega
  unfold hasB
  rw [h.lo, hidx, h.rg m h1 h2]
  by_cases hh : low < m ∧ m ≤ n
  · rw [if_pos hh]
    have e1 : decide ((low : Int) < (m : Int)) = true := by simp; omega
    have e2 : decide ((m : Int) - (low : Int) ≤ 64) = true := by simp; omega
    simp only [plc, e1, e2, hh, BEq.rfl]; rfl
  · rw [if_neg hh]
    simp only [noPlc]
    have : ((0 : Int) == (m : Int)) = false := by simp; omega
    simp [this, hh]

theorem has_far (st : St) (n : Int) (h : 64 < n - st.low) : hasB st n = false := by
  unfold hasB; simp; omega

/-- The place behind the room is another one, or free. -/
theorem Is2.hasLast {st : St} {low n : Nat} (h : Is2 st low n) (hl : low ≤ n) (hn : n ≤ 64) : hasB st ((low : Int) + 64) = decide (low = 0 ∧ n = 64) := by
  by_cases h0 : low = 0
  · subst h0
    have h64 := h.has 64 (by omega) (by omega)
    have e : (((0 : Nat) : Int) + 64) = ((64 : Nat) : Int) := rfl
    rw [e, h64]
    have : (0 < 64 ∧ 64 ≤ n) ↔ (0 = 0 ∧ n = 64) := by omega
    simp only [this]
  · have hidx : (((low : Int) + 64) % 64).toNat = low % 64 := by omega
    unfold hasB
    rw [hidx, h.rg low (by omega) (by omega), if_neg (by omega)]
    have : ((0 : Int) == (low : Int) + 64) = false := by simp; omega
    simp [noPlc, this, h0]

theorem hasB_set_ne (st : St) (i : Nat) (p : Plc) (n : Int) (hne : ¬ (n % 64).toNat = i) : hasB (st.set i p) n = hasB st n := by
  unfold hasB; simp only [St.set, if_neg hne]; rfl

theorem Is2.hasPut {st : St} {low n : Nat} (h : Is2 st low n) (hl : low ≤ n) (hn : n ≤ 64) (hb : ¬ (low = 0 ∧ n = 64)) (p : Plc) (m : Nat) (h1 : low < m) (h2 : m ≤ n) :
    hasB (st.set (((low : Int) + 64) % 64).toNat p) (m : Int) = true := by
  have hne : ¬ ((m : Int) % 64).toNat = (((low : Int) + 64) % 64).toNat := by omega
  rw [hasB_set_ne _ _ _ _ hne, h.has m (by omega) (by omega)]
  simp; omega

/-- How far it reaches: there is such a number. -/
theorem reach_ex (st : St) : ∃ r : Nat, r ≤ 64 ∧ (∀ k : Nat, k < r → hasB st (st.low + k + 1) = true) ∧ hasB st (st.low + r + 1) = false := by
  have key : ∀ d r : Nat, r + d = 64 → (∀ k : Nat, k < r → hasB st (st.low + k + 1) = true) → ∃ r : Nat, r ≤ 64 ∧ (∀ k : Nat, k < r → hasB st (st.low + k + 1) = true) ∧ hasB st (st.low + r + 1) = false := by
    intro d
    induction d with
    | zero => intro r hr hy; exact ⟨r, by omega, hy, has_far st _ (by omega)⟩
    | succ d ih =>
      intro r hr hy
      by_cases hh : hasB st (st.low + r + 1) = true
      · refine ih (r + 1) (by omega) fun k hk => ?_
        by_cases e : k = r
        · subst e; exact hh
        · exact hy k (by omega)
      · exact ⟨r, by omega, hy, by simpa using hh⟩
  exact key 64 0 (by omega) (fun k hk => by omega)

theorem zeroCells_fresh : Try.zeroCells32 = cells Sh.fresh := by kernel_rfl
theorem fresh_alloc (w : World) : IsShelf (w.alloc (.cells Try.zeroCells32 32)) w.heap.size Sh.fresh := ⟨by rw [zeroCells_fresh]; exact heap_alloc_new w _⟩

end Go.Proofs.Ytkbmggclecimeaa
