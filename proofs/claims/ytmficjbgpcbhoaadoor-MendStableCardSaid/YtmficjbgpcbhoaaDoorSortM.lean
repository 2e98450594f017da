/- Edges in a row of memory; permutations; no program here. -/
import Derived.Test.YtmficjbgpcbhoaaDoorShelfM
namespace Go.Proofs.YtmficjbgpcbhoaaDoor
open Go.RowKit Sh
set_option linter.unusedVariables false

structure Edge where
  p : Int
  a : Bool
  i : Bool

/-- A row of n edges at the head of block g. -/
structure IsE (w : World) (g n : Nat) (d : Nat → Edge) : Prop where
  block : ∃ c, w.heap[g]? = some (.cells c 52 (0, 0)) ∧ n * 3 ≤ c.size ∧ ∀ k, k < n → c[k * 3]? = some (.int .u64 (d k).p) ∧ c[k * 3 + 1]? = some (.bool (d k).a) ∧ c[k * 3 + 2]? = some (.bool (d k).i)

theorem IsE.at_ {w : World} {g n : Nat} {d : Nat → Edge} (h : IsE w g n d) (k : Nat) (hk : k < n) :
    w.cell? ⟨g, k * 3, none⟩ = some (.int .u64 (d k).p) ∧ w.cell? ⟨g, k * 3 + 1, none⟩ = some (.bool (d k).a) ∧ w.cell? ⟨g, k * 3 + 2, none⟩ = some (.bool (d k).i) := by
  obtain ⟨c, hb, _, hc⟩ := h.block
  obtain ⟨h0, h1, h2⟩ := hc k hk
  simp [World.cell?, hb, h0, h1, h2]
theorem IsE.free {w : World} {g n : Nat} {d : Nat → Edge} (h : IsE w g n d) (o : Nat) : w.frozen? ⟨g, o, none⟩ = false := by
  obtain ⟨c, hb, _, _⟩ := h.block
  simp [World.frozen?, hb]
theorem IsE.lt {w : World} {g n : Nat} {d : Nat → Edge} (h : IsE w g n d) : g < w.heap.size := by
  obtain ⟨c, hb, _, _⟩ := h.block
  exact (Array.getElem?_eq_some_iff.1 hb).1
theorem IsE.keep {S : Nat → Prop} {w w' : World} {g n : Nat} {d : Nat → Edge} (h : IsE w g n d) (k : Keep S w w') (hn : ¬ S g) : IsE w' g n d := by
  obtain ⟨c, hb, r⟩ := h.block
  exact ⟨c, k.old hb hn, r⟩
theorem IsE.keepF {w w' : World} {g n : Nat} {d : Nat → Edge} (h : IsE w g n d) (k : Keep (fun _ => False) w w') : IsE w' g n d := h.keep k fun h => h
theorem IsE.congr {w : World} {g n : Nat} {d d' : Nat → Edge} (h : IsE w g n d) (he : ∀ k, k < n → d' k = d k) : IsE w g n d' := by
  obtain ⟨c, hb, hs, hc⟩ := h.block
  exact ⟨c, hb, hs, fun k hk => by rw [he k hk]; exact hc k hk⟩

def upd (d : Nat → Edge) (x : Nat) (e : Edge) : Nat → Edge := fun k => if k = x then e else d k

theorem IsE.put {w : World} {g n : Nat} {d : Nat → Edge} (h : IsE w g n d) (x : Nat) (hx : x < n) (e : Edge) :
    IsE (((w.setCell ⟨g, x * 3, none⟩ (.int .u64 e.p)).setCell ⟨g, x * 3 + 1, none⟩ (.bool e.a)).setCell ⟨g, x * 3 + 2, none⟩ (.bool e.i)) g n (upd d x e) := by
  obtain ⟨c, hb, hs, hc⟩ := h.block
  refine ⟨_, heap_setCell_at (heap_setCell_at (heap_setCell_at hb _ _) _ _) _ _, by simpa using hs, fun k hk => ?_⟩
  obtain ⟨h0, h1, h2⟩ := hc k hk
  simp only [Array.getElem?_setIfInBounds, Array.size_setIfInBounds]
  by_cases e1 : k = x
  · subst e1
    have q0 : k * 3 < c.size := by omega
    have q1 : k * 3 + 1 < c.size := by omega
    have q2 : k * 3 + 2 < c.size := by omega
    refine ⟨?_, ?_, ?_⟩ <;> simp [upd, q0, q1, q2] <;> omega
  · refine ⟨?_, ?_, ?_⟩
    · rw [if_neg (by omega), if_neg (by omega), if_neg (by omega), h0]; simp [upd, e1]
    · rw [if_neg (by omega), if_neg (by omega), if_neg (by omega), h1]; simp [upd, e1]
    · rw [if_neg (by omega), if_neg (by omega), if_neg (by omega), h2]; simp [upd, e1]

/-! ### Permutations of a part -/
structure PermOn (a b : Nat) (d d' : Nat → Edge) : Prop where
  ex : ∃ s t : Nat → Nat, (∀ x, s (t x) = x) ∧ (∀ x, t (s x) = x) ∧ (∀ x, ¬ (a ≤ x ∧ x < b) → s x = x) ∧ (∀ x, a ≤ x ∧ x < b → a ≤ s x ∧ s x < b) ∧ ∀ x, d' x = d (s x)

theorem PermOn.refl (a b : Nat) (d : Nat → Edge) : PermOn a b d d := ⟨id, id, fun _ => rfl, fun _ => rfl, fun _ _ => rfl, fun _ h => h, fun _ => rfl⟩
theorem PermOn.trans {a b : Nat} {d e f : Nat → Edge} (h : PermOn a b d e) (k : PermOn a b e f) : PermOn a b d f := by
  obtain ⟨s, t, h1, h2, h3, h4, h5⟩ := h.ex
  obtain ⟨s', t', k1, k2, k3, k4, k5⟩ := k.ex
  refine ⟨fun x => s (s' x), fun x => t' (t x), fun x => by simp [k1, h1], fun x => by simp [k2, h2], fun x hx => by simp [k3 x hx, h3 x hx], fun x hx => h4 _ (k4 x hx), fun x => by rw [k5, h5]⟩
theorem PermOn.mono {a b a' b' : Nat} {d e : Nat → Edge} (h : PermOn a b d e) (ha : a' ≤ a) (hb : b ≤ b') : PermOn a' b' d e := by
  obtain ⟨s, t, h1, h2, h3, h4, h5⟩ := h.ex
  refine ⟨s, t, h1, h2, fun x hx => h3 x (by omega), fun x hx => ?_, h5⟩
  by_cases hh : a ≤ x ∧ x < b
  · have := h4 x hh; omega
  · rw [h3 x hh]; exact hx
theorem PermOn.out {a b : Nat} {d e : Nat → Edge} (h : PermOn a b d e) (x : Nat) (hx : ¬ (a ≤ x ∧ x < b)) : e x = d x := by
  obtain ⟨s, t, h1, h2, h3, h4, h5⟩ := h.ex
  rw [h5, h3 x hx]
/-- what stands within comes from within -/
theorem PermOn.src {a b : Nat} {d e : Nat → Edge} (h : PermOn a b d e) (x : Nat) (hx : a ≤ x ∧ x < b) : ∃ y, (a ≤ y ∧ y < b) ∧ e x = d y := by
  obtain ⟨s, t, h1, h2, h3, h4, h5⟩ := h.ex
  exact ⟨s x, h4 x hx, h5 x⟩
theorem PermOn.dst {a b : Nat} {d e : Nat → Edge} (h : PermOn a b d e) (y : Nat) (hy : a ≤ y ∧ y < b) : ∃ x, (a ≤ x ∧ x < b) ∧ e x = d y := by
  obtain ⟨s, t, h1, h2, h3, h4, h5⟩ := h.ex
  refine ⟨t y, ?_, by rw [h5, h1]⟩
  apply Classical.byContradiction
  intro hc
  have := h3 (t y) hc
  rw [h1] at this
  rw [← this] at hc
  exact hc hy

def swp (d : Nat → Edge) (x y : Nat) : Nat → Edge := fun k => if k = x then d y else if k = y then d x else d k
theorem PermOn.swap (a b : Nat) (d : Nat → Edge) (x y : Nat) (hx : a ≤ x ∧ x < b) (hy : a ≤ y ∧ y < b) : PermOn a b d (swp d x y) := by
  let f : Nat → Nat := fun k => if k = x then y else if k = y then x else k
  have hf : ∀ k, f (f k) = k := by
    intro k
    simp only [f]
    by_cases h1 : k = x
    · subst h1
      rw [if_pos rfl]
      by_cases h2 : y = k
      · rw [if_pos h2, h2]
      · rw [if_neg h2, if_pos rfl]
    · rw [if_neg h1]
      by_cases h2 : k = y
      · subst h2; simp
      · rw [if_neg h2, if_neg h1, if_neg h2]
  refine ⟨f, f, hf, hf, fun k hk => ?_, fun k hk => ?_, fun k => ?_⟩
  · simp only [f]; rw [if_neg (by rintro rfl; exact hk hx), if_neg (by rintro rfl; exact hk hy)]
  · simp only [f]; split
    · exact hy
    · split
      · exact hx
      · exact hk
  · simp only [swp, f]; split
    · rfl
    · split <;> rfl

theorem upd_swap (d : Nat → Edge) (x y : Nat) (hxy : x ≠ y) : upd (upd d x (d y)) y (d x) = swp d x y := by
  funext k
  simp only [upd, swp]
  by_cases h1 : k = y
  · subst h1; rw [if_pos rfl, if_neg (fun h => hxy h.symm), if_pos rfl]
  · simp only [if_neg h1]

/-- two runs of k, exchanged up to j. -/
def swr (d : Nat → Edge) (a b j : Nat) : Nat → Edge := fun x => if a ≤ x ∧ x < a + j then d (x - a + b) else if b ≤ x ∧ x < b + j then d (x - b + a) else d x
theorem swr_zero (d : Nat → Edge) (a b : Nat) : swr d a b 0 = d := by
  funext x; simp only [swr]; rw [if_neg (by omega), if_neg (by omega)]
theorem swr_succ (d : Nat → Edge) (a b j : Nat) (h : a + j < b) : swp (swr d a b j) (a + j) (b + j) = swr d a b (j + 1) := by
  funext x
  simp only [swp, swr]
  by_cases h1 : x = a + j
  · subst h1
    rw [if_pos rfl, if_neg (by omega), if_neg (by omega), if_pos (by omega)]
    congr 1; omega
  · rw [if_neg h1]
    by_cases h2 : x = b + j
    · subst h2
      rw [if_pos rfl, if_neg (by omega), if_neg (by omega), if_neg (by omega), if_pos (by omega)]
      congr 1; omega
    · rw [if_neg h2]
      by_cases h3 : a ≤ x ∧ x < a + j
      · have h5 : a ≤ x ∧ x < a + (j + 1) := by omega
        simp only [if_pos h3, if_pos h5]
      · have h5 : ¬ (a ≤ x ∧ x < a + (j + 1)) := by omega
        simp only [if_neg h3, if_neg h5]
        by_cases h4 : b ≤ x ∧ x < b + j
        · have h6 : b ≤ x ∧ x < b + (j + 1) := by omega
          simp only [if_pos h4, if_pos h6]
        · have h6 : ¬ (b ≤ x ∧ x < b + (j + 1)) := by omega
          simp only [if_neg h4, if_neg h6]

def cmpV (x y : Edge) : Int := if x.p < y.p then -1 else if y.p < x.p then 1 else 0
def SortedOn (d : Nat → Edge) (a b : Nat) : Prop := ∀ x y, a ≤ x → x < y → y < b → (d x).p ≤ (d y).p

/-! ### Insertion -/
structure Ins (D : Nat → Edge) (a i j : Nat) : Prop where
  lo : a ≤ j
  hi : j ≤ i
  rest : ∀ x y, a ≤ x → x < y → y ≤ i → x ≠ j → y ≠ j → (D x).p ≤ (D y).p
  less : ∀ y, j < y → y ≤ i → (D j).p < (D y).p

theorem Ins.start {D : Nat → Edge} {a i : Nat} (h : SortedOn D a i) (ha : a ≤ i) : Ins D a i i :=
  ⟨ha, Nat.le_refl _, fun x y h1 h2 h3 h4 h5 => h x y h1 h2 (by omega), fun y h1 h2 => by omega⟩
theorem Ins.step {D : Nat → Edge} {a i j : Nat} (h : Ins D a i (j + 1)) (hj : a ≤ j) (hl : (D (j + 1)).p < (D j).p) : Ins (swp D (j + 1) j) a i j := by
  refine ⟨hj, by have := h.hi; omega, fun x y h1 h2 h3 h4 h5 => ?_, fun y h1 h2 => ?_⟩
  · simp only [swp]
    by_cases e1 : x = j + 1
    · subst e1
      rw [if_pos rfl, if_neg (by omega), if_neg (by omega)]
      exact h.rest j y hj (by omega) h3 (by omega) (by omega)
    · rw [if_neg e1, if_neg h4]
      by_cases e2 : y = j + 1
      · subst e2
        rw [if_pos rfl]
        exact h.rest x j h1 (by omega) (by omega) (by omega) (by omega)
      · rw [if_neg e2, if_neg h5]
        exact h.rest x y h1 h2 h3 e1 e2
  · simp only [swp]
    rw [if_neg (by omega), if_pos trivial]
    by_cases e2 : y = j + 1
    · subst e2; rw [if_pos rfl]; exact hl
    · rw [if_neg e2, if_neg (by omega)]
      exact h.less y (by omega) h2
theorem Ins.done {D : Nat → Edge} {a i j : Nat} (h : Ins D a i j) (hl : j = a ∨ ∃ m, j = m + 1 ∧ (D m).p ≤ (D j).p) : SortedOn D a (i + 1) := by
  intro x y h1 h2 h3
  by_cases e1 : x = j
  · subst e1; exact Int.le_of_lt (h.less y h2 (by omega))
  · by_cases e2 : y = j
    · subst e2
      rcases hl with e | ⟨m, rfl, hm⟩
      · omega
      · by_cases e3 : x = m
        · subst e3; exact hm
        · exact Int.le_trans (h.rest x m h1 (by omega) (by omega) e1 (by omega)) hm
    · exact h.rest x y h1 h2 (by omega) e1 e2

end Go.Proofs.YtmficjbgpcbhoaaDoor
