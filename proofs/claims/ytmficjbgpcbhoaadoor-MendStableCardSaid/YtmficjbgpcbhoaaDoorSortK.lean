/- Blocks that are sorted; no program here. -/
import Derived.Test.YtmficjbgpcbhoaaDoorSortN
namespace Go.Proofs.YtmficjbgpcbhoaaDoor
open Go.RowKit Sh
set_option linter.unusedVariables false

/-- from a on, blocks of k are sorted. -/
def BFrom (d : Nat → Edge) (n a k : Nat) : Prop := ∀ j, SortedOn d (a + j * k) (min (a + j * k + k) n)
/-- the first q blocks of k are sorted. -/
def BTo (d : Nat → Edge) (q k : Nat) : Prop := ∀ j, j < q → SortedOn d (j * k) (j * k + k)

theorem BTo.zero (d : Nat → Edge) (k : Nat) : BTo d 0 k := fun j hj => absurd hj (by omega)
theorem block_le {j q k : Nat} (h : j < q) : j * k + k ≤ q * k := by
  have := Nat.mul_le_mul_right k (Nat.succ_le_of_lt h)
  rwa [Nat.succ_mul] at this
theorem BTo.succ {d e : Nat → Edge} {q k b : Nat} (h : BTo d q k) (p : PermOn (q * k) b d e) (hs : SortedOn e (q * k) (q * k + k)) : BTo e (q + 1) k := by
  intro j hj
  by_cases e1 : j = q
  · subst e1; exact hs
  · have hb := block_le (k := k) (show j < q by omega)
    exact (h j (by omega)).congr fun x g1 g2 => p.out x (by omega)
theorem BTo.all {d : Nat → Edge} {q k n : Nat} (h : BTo d q k) (hn : n < q * k + k) (hs : SortedOn d (q * k) n) : BFrom d n 0 k := by
  intro j
  rcases Nat.lt_trichotomy j q with g | g | g
  · exact ((h j g).congr' (by omega)).congr'' (by omega)
  · subst g; exact (hs.congr' (by omega)).congr'' (by omega)
  · have hb := block_le (k := k) g
    intro x y g1 g2 g3
    omega
theorem BFrom.two {d e : Nat → Edge} {n a k : Nat} (h : BFrom d n a k) (p : PermOn a (a + 2 * k) d e) : BFrom e n (a + 2 * k) k := by
  intro j
  have := h (j + 2)
  have e1 : (j + 2) * k = j * k + 2 * k := Nat.add_mul j 2 k
  rw [e1] at this
  exact ((this.congr' (by omega)).congr'' (by omega)).congr fun x g1 g2 => p.out x (by omega)
theorem BFrom.runs {d : Nat → Edge} {n a k b : Nat} (h : BFrom d n a k) (hb : b ≤ n) (hb2 : b ≤ a + 2 * k) : Runs d a (min (a + k) b) b := by
  have h0 := h 0
  have h1 := h 1
  simp only [Nat.zero_mul, Nat.one_mul, Nat.add_zero] at h0 h1
  by_cases hk : a + k ≤ b
  · rw [Nat.min_eq_left hk]
    exact ⟨h0.congr' (by omega), h1.congr' (by omega)⟩
  · rw [Nat.min_eq_right (by omega)]
    exact ⟨h0.congr' (by omega), fun x y g1 g2 g3 => by omega⟩
theorem BFrom.all {d : Nat → Edge} {n k : Nat} (h : BFrom d n 0 k) (hk : n ≤ k) : SortedOn d 0 n := by
  have h0 := h 0
  simp only [Nat.zero_mul, Nat.add_zero] at h0
  exact h0.congr' (by omega)

end Go.Proofs.YtmficjbgpcbhoaaDoor
