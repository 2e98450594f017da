/- Spans: plain words, and how they lie in memory; no program here. -/
import Derived.Test.YtmficjbgpcbhoaaDoorShelfM
namespace Go.Proofs.YtmficjbgpcbhoaaDoor
open Go.RowKit Sh
set_option linter.unusedVariables false

structure Sp where
  f : Int
  t : Int
  deriving DecidableEq

def sp (l : List Sp) (i : Nat) : Sp := l.getD i ⟨0, 0⟩
theorem sp_of {l : List Sp} {i : Nat} (h : i < l.length) : sp l i = l[i] := by simp [sp, h]
theorem sp_mem {l : List Sp} {i : Nat} (h : i < l.length) : sp l i ∈ l := by rw [sp_of h]; exact List.getElem_mem h
theorem mem_sp {l : List Sp} {x : Sp} (h : x ∈ l) : ∃ i, i < l.length ∧ sp l i = x := by
  obtain ⟨i, hi, he⟩ := List.mem_iff_getElem.1 h
  exact ⟨i, hi, by rw [sp_of hi, he]⟩

/-- all ends are words of 64 bits. -/
def Rng (l : List Sp) : Prop := ∀ i, i < l.length → 0 ≤ (sp l i).f ∧ (sp l i).f < 18446744073709551616 ∧ 0 ≤ (sp l i).t ∧ (sp l i).t < 18446744073709551616

/-- the first i spans are as they must be. -/
def OkTo (l : List Sp) (i : Nat) : Prop := ∀ j, j < i → (sp l j).f ≤ (sp l j).t ∧ (sp l j).t < 18446744073709551615 ∧ (0 < j → (sp l (j - 1)).t + 2 ≤ (sp l j).f)
def Ok (l : List Sp) : Prop := OkTo l l.length
open Classical in
noncomputable def okB (l : List Sp) : Bool := decide (Ok l)
theorem okB_true {l : List Sp} (h : Ok l) : okB l = true := by simp [okB, h]
theorem okB_false {l : List Sp} (h : ¬ Ok l) : okB l = false := by simp [okB, h]
theorem okB_iff {l : List Sp} : okB l = true ↔ Ok l := by simp [okB]

def leastV (l : List Sp) (i : Nat) : Int := if i = 0 then 0 else ((sp l (i - 1)).t + 2) % 18446744073709551616

theorem OkTo.succ {l : List Sp} {i : Nat} (h : OkTo l i) (hr : Rng l) (hi : i < l.length) (g1 : ¬ (sp l i).f < leastV l i) (g2 : ¬ (sp l i).t < (sp l i).f) (g3 : ¬ (sp l i).t = 18446744073709551615) (g4 : i = 0 ∨ ¬ leastV l i = 0) : OkTo l (i + 1) := by
  intro j hj
  by_cases e : j = i
  · subst e
    have := hr j hi
    refine ⟨by omega, by omega, fun h0 => ?_⟩
    have hp := h (j - 1) (by omega)
    have hq := hr (j - 1) (by omega)
    unfold leastV at g1 g4
    rw [if_neg (by omega)] at g1 g4
    omega
  · exact h j (by omega)
theorem OkTo.not {l : List Sp} {i : Nat} (hr : Rng l) (hi : i < l.length) (g : (sp l i).f < leastV l i ∨ (sp l i).t < (sp l i).f ∨ (sp l i).t = 18446744073709551615 ∨ (0 < i ∧ leastV l i = 0)) : ¬ Ok l := by
  intro h
  have h1 := h i hi
  have hq := hr i hi
  rcases g with g | g | g | ⟨g0, g⟩
  · unfold leastV at g
    by_cases e : i = 0
    · rw [if_pos e] at g; omega
    · rw [if_neg e] at g
      have := h1.2.2 (by omega)
      have hq' := hr (i - 1) (by omega)
      omega
  · omega
  · omega
  · unfold leastV at g
    rw [if_neg (by omega)] at g
    have := h1.2.2 (by omega)
    have hq' := hr (i - 1) (by omega)
    omega

/-- A slice of spans as it lies in memory. -/
structure IsL (w : World) (v : Value) (l : List Sp) : Prop where
  ex : ∃ A c, v = .slice A l.length c ∧ l.length ≤ c ∧ l.length ≤ 17592186044416 ∧ (0 < l.length → ∃ g o, A = some ⟨g, o, none⟩ ∧ ∀ i, i < l.length → w.cell? ⟨g, o + i * 2, none⟩ = some (.int .u64 (sp l i).f) ∧ w.cell? ⟨g, o + i * 2 + 1, none⟩ = some (.int .u64 (sp l i).t))

theorem Sh.Keep.cell {w w' : World} (k : Keep (fun _ => False) w w') {a : Addr} {v : Value} (h : w.cell? a = some v) : w'.cell? a = some v :=
  (World.cell?_of_block (k.block a.block (World.block_lt_of_cell? w a h) (fun h => h))).trans h

theorem IsL.keep {w w' : World} {v : Value} {l : List Sp} (h : IsL w v l) (k : Keep (fun _ => False) w w') : IsL w' v l := by
  obtain ⟨A, c, h1, h2, h3, h4⟩ := h.ex
  refine ⟨A, c, h1, h2, h3, fun h0 => ?_⟩
  obtain ⟨g, o, e, hc⟩ := h4 h0
  exact ⟨g, o, e, fun i hi => ⟨k.cell (hc i hi).1, k.cell (hc i hi).2⟩⟩

theorem IsL.nil (w : World) : IsL w (.slice none 0 0) [] := ⟨none, 0, rfl, Nat.le_refl _, by simp, fun h => absurd h (by simp)⟩

/-- the cells of spans, one behind the other. -/
def spCells : List Sp → List Value
  | [] => []
  | x :: r => .int .u64 x.f :: .int .u64 x.t :: spCells r
theorem spCells_length (l : List Sp) : (spCells l).length = l.length * 2 := by
  induction l with
  | nil => rfl
  | cons x r ih => simp only [spCells, List.length_cons, ih]; omega
theorem spCells_append (l m : List Sp) : spCells (l ++ m) = spCells l ++ spCells m := by
  induction l with
  | nil => rfl
  | cons x r ih => simp [spCells, ih]
theorem spCells_at (l : List Sp) (i : Nat) (h : i < l.length) : (spCells l)[i * 2]? = some (.int .u64 (sp l i).f) ∧ (spCells l)[i * 2 + 1]? = some (.int .u64 (sp l i).t) := by
  induction l generalizing i with
  | nil => simp at h
  | cons x r ih =>
    cases i with
    | zero => simp [spCells, sp]
    | succ i =>
      have h' : i < r.length := by simpa using h
      have := ih i h'
      have e : (i + 1) * 2 = i * 2 + 1 + 1 := by omega
      simp only [spCells, e, List.getElem?_cons_succ]
      simpa [sp] using this
theorem spCells_one (l : List Sp) : ∀ u ∈ spCells l, u.oneCell' = true := by
  induction l with
  | nil => simp [spCells]
  | cons x r ih =>
    intro u hu
    simp only [spCells, List.mem_cons] at hu
    rcases hu with rfl | rfl | hu
    · rfl
    · rfl
    · exact ih u hu

theorem own_shape {w : World} {base n : Nat} {e : TypeId} {size : Nat} {v : Value} {xs : List Value} (h : w.ownsRow base e size v n xs) : ∃ A c, v = .slice A n c := by
  rcases h.2 with ⟨rfl, rfl⟩ | ⟨g, cap, cur, rfl, _⟩
  · exact ⟨none, 0, rfl⟩
  · exact ⟨_, cap, rfl⟩

/-- A row of the call's own reads as a slice of spans. -/
theorem IsL.ofOwn {w : World} {base : Nat} {v : Value} {l : List Sp} (h : w.ownsRow base 36 2 v l.length (spCells l)) (hl : l.length ≤ 17592186044416) : IsL w v l := by
  rcases h.2 with ⟨rfl, h0⟩ | ⟨g, cap, cur, rfl, hb, hg, hn, hc, hs, ht⟩
  · refine ⟨none, 0, by rw [h0], by omega, hl, fun h1 => by omega⟩
  · refine ⟨some ⟨g, 0, none⟩, cap, rfl, hn, hl, fun h0 => ⟨g, 0, rfl, fun i hi => ?_⟩⟩
    have hat : ∀ k, k < l.length * 2 → w.cell? ⟨g, k, none⟩ = (spCells l)[k]? := by
      intro k hk
      rw [← ht, List.getElem?_take_of_lt hk]
      simp [World.cell?, hg]
    obtain ⟨a1, a2⟩ := spCells_at l i hi
    rw [hat _ (by omega), hat _ (by omega)]
    simp only [Nat.zero_add]
    exact ⟨a1, a2⟩

end Go.Proofs.YtmficjbgpcbhoaaDoor
