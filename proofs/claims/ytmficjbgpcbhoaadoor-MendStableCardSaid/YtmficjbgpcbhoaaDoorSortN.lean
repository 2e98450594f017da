/- Rotations; no program here. -/
import Derived.Test.YtmficjbgpcbhoaaDoorSortM
namespace Go.Proofs.YtmficjbgpcbhoaaDoor
open Go.RowKit Sh
set_option linter.unusedVariables false

/-- the parts [p, m) and [m, q), exchanged. -/
def rot (D : Nat → Edge) (p m q : Nat) : Nat → Edge := fun x => if p ≤ x ∧ x < p + (q - m) then D (x + (m - p)) else if p + (q - m) ≤ x ∧ x < q then D (x - (q - m)) else D x

theorem rot_gt (D : Nat → Edge) (m i j : Nat) (hj : j < i) (hi : i ≤ m) : rot (swr D (m - i) m j) (m - (i - j)) m (m + j) = rot D (m - i) m (m + j) := by
  funext x
  simp only [rot, swr]
  repeat' split
  all_goals first | rfl | (exfalso; omega) | (congr 1; omega)
theorem rot_lt (D : Nat → Edge) (m i j : Nat) (hj : i < j) (hi : i ≤ m) : rot (swr D (m - i) (m + j - i) i) (m - i) m (m + (j - i)) = rot D (m - i) m (m + j) := by
  funext x
  simp only [rot, swr]
  repeat' split
  all_goals first | rfl | (exfalso; omega) | (congr 1; omega)
theorem rot_eq (D : Nat → Edge) (m i : Nat) (hi : i ≤ m) : swr D (m - i) m i = rot D (m - i) m (m + i) := by
  funext x
  simp only [rot, swr]
  repeat' split
  all_goals first | rfl | (exfalso; omega) | (congr 1; omega)

theorem PermOn.rot (D : Nat → Edge) (p m q : Nat) (h1 : p ≤ m) (h2 : m ≤ q) : PermOn p q D (rot D p m q) := by
  refine ⟨fun x => if p ≤ x ∧ x < p + (q - m) then x + (m - p) else if p + (q - m) ≤ x ∧ x < q then x - (q - m) else x,
    fun y => if p ≤ y ∧ y < m then y + (q - m) else if m ≤ y ∧ y < q then y - (m - p) else y, fun x => ?_, fun x => ?_, fun x hx => ?_, fun x hx => ?_, fun x => ?_⟩
  · dsimp only; repeat' split
    all_goals omega
  · dsimp only; repeat' split
    all_goals omega
  · dsimp only; rw [if_neg (by omega), if_neg (by omega)]
  · dsimp only; repeat' split
    all_goals omega
  · simp only [Proofs.YtmficjbgpcbhoaaDoor.rot]; repeat' split
    all_goals rfl

/-! ### What a merge by rotation leaves: the two halves, each of two sorted runs. -/
/-- sorted runs [a, m) and [m, b). -/
structure Runs (d : Nat → Edge) (a m b : Nat) : Prop where
  l : SortedOn d a m
  r : SortedOn d m b

theorem SortedOn.le {d : Nat → Edge} {a b x y : Nat} (h : SortedOn d a b) (h1 : a ≤ x) (h2 : x ≤ y) (h3 : y < b) : (d x).p ≤ (d y).p := by
  rcases Nat.lt_or_eq_of_le h2 with e | e
  · exact h x y h1 e h3
  · subst e; exact Int.le_refl _

/-- behind the rotation at s, with e = the other end: both halves are two runs, and the lower half is no greater. -/
theorem rot_runs (d : Nat → Edge) (a m b s e mid : Nat) (h : Runs d a m b) (h1 : a ≤ s) (h2 : s ≤ m) (h3 : m ≤ e) (h4 : e ≤ b) (hmid : s + e = mid + m)
    (hA : s < m → m < e → (d (e - 1)).p ≤ (d s).p) (hB : a < s → e < b → (d (s - 1)).p ≤ (d e).p) :
    Runs (rot d s m e) a s mid ∧ Runs (rot d s m e) mid e b ∧ ∀ x y, a ≤ x → x < mid → mid ≤ y → y < b → (rot d s m e x).p ≤ (rot d s m e y).p := by
  have v1 : ∀ x, x < s → rot d s m e x = d x := fun x hx => by simp only [rot]; rw [if_neg (by omega), if_neg (by omega)]
  have v2 : ∀ x, s ≤ x → x < mid → rot d s m e x = d (x + (m - s)) := fun x hx hy => by simp only [rot]; rw [if_pos (by omega)]
  have v3 : ∀ x, mid ≤ x → x < e → rot d s m e x = d (x - (e - m)) := fun x hx hy => by simp only [rot]; rw [if_neg (by omega), if_pos (by omega)]
  have v4 : ∀ x, e ≤ x → rot d s m e x = d x := fun x hx => by simp only [rot]; rw [if_neg (by omega), if_neg (by omega)]
  refine ⟨⟨fun x y g1 g2 g3 => ?_, fun x y g1 g2 g3 => ?_⟩, ⟨fun x y g1 g2 g3 => ?_, fun x y g1 g2 g3 => ?_⟩, fun x y g1 g2 g3 g4 => ?_⟩
  · rw [v1 x (by omega), v1 y (by omega)]; exact h.l x y g1 g2 (by omega)
  · rw [v2 x g1 (by omega), v2 y (by omega) g3]; exact h.r _ _ (by omega) (by omega) (by omega)
  · rw [v3 x g1 (by omega), v3 y (by omega) g3]; exact h.l _ _ (by omega) (by omega) (by omega)
  · rw [v4 x g1, v4 y (by omega)]; exact h.r _ _ (by omega) (by omega) (by omega)
  · by_cases c1 : x < s
    · rw [v1 x c1]
      by_cases c2 : y < e
      · rw [v3 y g3 c2]; exact h.l.le g1 (by omega) (by omega)
      · rw [v4 y (by omega)]
        have t1 := h.l.le (x := x) (y := s - 1) g1 (by omega) (by omega)
        have t2 := hB (by omega) (by omega)
        have t3 := h.r.le (x := e) (y := y) (by omega) (by omega) (by omega)
        omega
    · rw [v2 x (by omega) g2]
      by_cases c2 : y < e
      · rw [v3 y g3 c2]
        have t1 := h.r.le (x := x + (m - s)) (y := e - 1) (by omega) (by omega) (by omega)
        have t2 := hA (by omega) (by omega)
        have t3 := h.l.le (x := s) (y := y - (e - m)) (by omega) (by omega) (by omega)
        omega
      · rw [v4 y (by omega)]; exact h.r.le (by omega) (by omega) (by omega)

/-- two sorted halves, the lower one no greater. -/
theorem sorted_join (d : Nat → Edge) (a m b : Nat) (h1 : SortedOn d a m) (h2 : SortedOn d m b) (h3 : ∀ x y, a ≤ x → x < m → m ≤ y → y < b → (d x).p ≤ (d y).p) : SortedOn d a b := by
  intro x y g1 g2 g3
  by_cases c1 : y < m
  · exact h1 x y g1 g2 c1
  · by_cases c2 : x < m
    · exact h3 x y g1 c2 (by omega) g3
    · exact h2 x y (by omega) g2 g3

theorem cross_perm (d e : Nat → Edge) (a m b : Nat) (p : PermOn a m d e) (h3 : ∀ x y, a ≤ x → x < m → m ≤ y → y < b → (d x).p ≤ (d y).p) : ∀ x y, a ≤ x → x < m → m ≤ y → y < b → (e x).p ≤ (e y).p := by
  intro x y g1 g2 g3 g4
  obtain ⟨x', hx', ex⟩ := p.src x ⟨g1, g2⟩
  rw [ex, p.out y (by omega)]
  exact h3 x' y hx'.1 hx'.2 g3 g4
theorem cross_perm' (d e : Nat → Edge) (a m b : Nat) (p : PermOn m b d e) (h3 : ∀ x y, a ≤ x → x < m → m ≤ y → y < b → (d x).p ≤ (d y).p) : ∀ x y, a ≤ x → x < m → m ≤ y → y < b → (e x).p ≤ (e y).p := by
  intro x y g1 g2 g3 g4
  obtain ⟨y', hy', ey⟩ := p.src y ⟨g3, g4⟩
  rw [ey, p.out x (by omega)]
  exact h3 x y' g1 g2 hy'.1 hy'.2
theorem SortedOn.congr {d e : Nat → Edge} {a b : Nat} (h : SortedOn d a b) (he : ∀ x, a ≤ x → x < b → e x = d x) : SortedOn e a b := by
  intro x y g1 g2 g3
  rw [he x g1 (by omega), he y (by omega) g3]
  exact h x y g1 g2 g3
theorem Runs.congr {d e : Nat → Edge} {a m b : Nat} (h : Runs d a m b) (h1 : a ≤ m) (h2 : m ≤ b) (he : ∀ x, a ≤ x → x < b → e x = d x) : Runs e a m b :=
  ⟨h.l.congr fun x g1 g2 => he x g1 (by omega), h.r.congr fun x g1 g2 => he x (by omega) g2⟩

/-! ### One element among a sorted run -/
theorem rot_snoc (d : Nat → Edge) (a k : Nat) (h : a ≤ k) : swp (rot d a (a + 1) (k + 1)) k (k + 1) = rot d a (a + 1) (k + 2) := by
  funext x
  simp only [rot, swp]
  repeat' split
  all_goals first | rfl | (exfalso; omega) | (congr 1; omega)
theorem rot_one (d : Nat → Edge) (a : Nat) : rot d a (a + 1) (a + 1) = d := by
  funext x
  simp only [rot]
  repeat' split
  all_goals first | rfl | (exfalso; omega) | (congr 1; omega)
theorem rot_cons (d : Nat → Edge) (k m : Nat) (h : k + 1 ≤ m) : swp (rot d (k + 1) m (m + 1)) (k + 1) k = rot d k m (m + 1) := by
  funext x
  simp only [rot, swp]
  repeat' split
  all_goals first | rfl | (exfalso; omega) | (congr 1; omega)
theorem rot_last (d : Nat → Edge) (m : Nat) : rot d m m (m + 1) = d := by
  funext x
  simp only [rot]
  repeat' split
  all_goals first | rfl | (exfalso; omega) | (congr 1; omega)
theorem sorted_one (d : Nat → Edge) (a b i : Nat) (h : SortedOn d (a + 1) b) (h1 : a + 1 ≤ i) (h2 : i ≤ b) (hl : ∀ y, a + 1 ≤ y → y < i → (d y).p < (d a).p) (hg : ∀ y, i ≤ y → y < b → (d a).p ≤ (d y).p) :
    SortedOn (rot d a (a + 1) i) a b := by
  have v1 : ∀ x, a ≤ x → x + 1 < i → rot d a (a + 1) i x = d (x + 1) := fun x g1 g2 => by simp only [rot]; rw [if_pos (by omega)]; congr 1; omega
  have v2 : ∀ x, x + 1 = i → rot d a (a + 1) i x = d a := fun x g1 => by simp only [rot]; rw [if_neg (by omega), if_pos (by omega)]; congr 1; omega
  have v3 : ∀ x, i ≤ x → rot d a (a + 1) i x = d x := fun x g1 => by simp only [rot]; rw [if_neg (by omega), if_neg (by omega)]
  intro x y g1 g2 g3
  by_cases c1 : x + 1 < i
  · rw [v1 x g1 c1]
    by_cases c2 : y + 1 < i
    · rw [v1 y (by omega) c2]; exact h _ _ (by omega) (by omega) (by omega)
    · by_cases c3 : y + 1 = i
      · rw [v2 y c3]; exact Int.le_of_lt (hl _ (by omega) (by omega))
      · rw [v3 y (by omega)]; exact h _ _ (by omega) (by omega) (by omega)
  · by_cases c2 : x + 1 = i
    · rw [v2 x c2, v3 y (by omega)]; exact hg y (by omega) g3
    · rw [v3 x (by omega), v3 y (by omega)]; exact h _ _ (by omega) (by omega) (by omega)
theorem sorted_last (d : Nat → Edge) (a m i : Nat) (h : SortedOn d a m) (h1 : a ≤ i) (h2 : i ≤ m) (hl : ∀ y, a ≤ y → y < i → (d y).p ≤ (d m).p) (hg : ∀ y, i ≤ y → y < m → (d m).p < (d y).p) :
    SortedOn (rot d i m (m + 1)) a (m + 1) := by
  have v1 : ∀ x, x < i → rot d i m (m + 1) x = d x := fun x g1 => by simp only [rot]; rw [if_neg (by omega), if_neg (by omega)]
  have v2 : rot d i m (m + 1) i = d m := by simp only [rot]; rw [if_pos (by omega)]; congr 1; omega
  have v3 : ∀ x, i < x → x ≤ m → rot d i m (m + 1) x = d (x - 1) := fun x g1 g2 => by simp only [rot]; rw [if_neg (by omega), if_pos (by omega)]; congr 1; omega
  intro x y g1 g2 g3
  by_cases c1 : x < i
  · rw [v1 x c1]
    by_cases c2 : y < i
    · rw [v1 y c2]; exact h _ _ g1 g2 (by omega)
    · by_cases c3 : y = i
      · rw [c3, v2]; exact hl x g1 c1
      · rw [v3 y (by omega) (by omega)]; exact h _ _ g1 (by omega) (by omega)
  · by_cases c2 : x = i
    · rw [c2, v2, v3 y (by omega) (by omega)]; exact Int.le_of_lt (hg _ (by omega) (by omega))
    · rw [v3 x (by omega) (by omega), v3 y (by omega) (by omega)]; exact h _ _ (by omega) (by omega) (by omega)

theorem SortedOn.congr' {d : Nat → Edge} {a b c : Nat} (h : SortedOn d a b) (hc : c ≤ b) : SortedOn d a c := fun x y g1 g2 g3 => h x y g1 g2 (by omega)
theorem SortedOn.congr'' {d : Nat → Edge} {a b c : Nat} (h : SortedOn d a b) (hc : a ≤ c) : SortedOn d c b := fun x y g1 g2 g3 => h x y (by omega) g2 g3

end Go.Proofs.YtmficjbgpcbhoaaDoor
