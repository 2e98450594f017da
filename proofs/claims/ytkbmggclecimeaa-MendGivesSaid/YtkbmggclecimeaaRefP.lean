/- The document's spans: putting together, in plain words; no program here. -/
import Derived.Test.YtkbmggclecimeaaFirst
namespace Go.Proofs.Ytkbmggclecimeaa
open Go.RowKit Sh
set_option linter.unusedVariables false

/-- spans that rise by their beginnings, each a span. -/
structure Ris (l : List Sp) : Prop where
  one : ∀ i, i < l.length → (sp l i).f ≤ (sp l i).t ∧ (sp l i).t < 18446744073709551615
  ris : ∀ i j, i < j → j < l.length → (sp l i).f ≤ (sp l j).f
theorem Ris.nil : Ris [] := ⟨fun i hi => by simp at hi, fun i j _ hj => by simp at hj⟩
theorem sp_snoc' (l : List Sp) (x : Sp) (k : Nat) : sp (l ++ [x]) k = if k < l.length then sp l k else if k = l.length then x else ⟨0, 0⟩ := by
  simp only [sp, List.getD_eq_getElem?_getD]
  by_cases h : k < l.length
  · rw [if_pos h, List.getElem?_append_left h]
  · rw [if_neg h, List.getElem?_append_right (by omega)]
    by_cases e : k = l.length
    · rw [if_pos e]; subst e; simp
    · rw [if_neg e]
      obtain ⟨m, hm⟩ : ∃ m, k - l.length = m + 1 := ⟨k - l.length - 1, by omega⟩
      rw [hm]; simp
theorem sp_snoc_lt {l : List Sp} {x : Sp} {k : Nat} (h : k < l.length) : sp (l ++ [x]) k = sp l k := by rw [sp_snoc', if_pos h]
theorem sp_snoc_eq (l : List Sp) (x : Sp) : sp (l ++ [x]) l.length = x := by rw [sp_snoc', if_neg (by omega), if_pos rfl]
theorem mem_snoc' (l : List Sp) (x : Sp) (z : Int) : mem (l ++ [x]) z ↔ mem l z ∨ (x.f ≤ z ∧ z ≤ x.t) := by
  constructor
  · rintro ⟨k, hk, m1, m2⟩
    simp at hk
    by_cases h : k < l.length
    · rw [sp_snoc_lt h] at m1 m2; exact .inl ⟨k, h, m1, m2⟩
    · obtain rfl : k = l.length := by omega
      rw [sp_snoc_eq] at m1 m2; exact .inr ⟨m1, m2⟩
  · rintro (⟨k, hk, m1, m2⟩ | ⟨m1, m2⟩)
    · exact ⟨k, by simp; omega, by rw [sp_snoc_lt hk]; exact m1, by rw [sp_snoc_lt hk]; exact m2⟩
    · exact ⟨l.length, by simp, by rw [sp_snoc_eq]; exact m1, by rw [sp_snoc_eq]; exact m2⟩
theorem rng_snoc' {l : List Sp} (h : Rng l) {x : Sp} (hx : 0 ≤ x.f ∧ x.f < 18446744073709551616 ∧ 0 ≤ x.t ∧ x.t < 18446744073709551616) : Rng (l ++ [x]) := by
  intro i hi
  simp at hi
  by_cases h' : i < l.length
  · rw [sp_snoc_lt h']; exact h i h'
  · obtain rfl : i = l.length := by omega
    rw [sp_snoc_eq]; exact hx
theorem Ris.snoc {l : List Sp} (h : Ris l) {x : Sp} (hx : x.f ≤ x.t ∧ x.t < 18446744073709551615) (hl : ∀ j, j < l.length → (sp l j).f ≤ x.f) : Ris (l ++ [x]) := by
  refine ⟨fun i hi => ?_, fun i j hij hj => ?_⟩
  · simp at hi
    by_cases h' : i < l.length
    · rw [sp_snoc_lt h']; exact h.one i h'
    · obtain rfl : i = l.length := by omega
      rw [sp_snoc_eq]; exact hx
  · simp at hj
    by_cases h' : j < l.length
    · rw [sp_snoc_lt h', sp_snoc_lt (by omega)]; exact h.ris i j hij h'
    · obtain rfl : j = l.length := by omega
      rw [sp_snoc_eq, sp_snoc_lt hij]; exact hl i hij
theorem ok_snoc {l : List Sp} (h : Ok l) {x : Sp} (hx : x.f ≤ x.t ∧ x.t < 18446744073709551615) (hl : ∀ k, l.length = k + 1 → (sp l k).t + 2 ≤ x.f) : Ok (l ++ [x]) := by
  intro j hj
  simp at hj
  by_cases h' : j < l.length
  · rw [sp_snoc_lt h', sp_snoc_lt (show j - 1 < l.length by omega)]; exact h j h'
  · obtain rfl : j = l.length := by omega
    rw [sp_snoc_eq]
    refine ⟨hx.1, hx.2, fun h0 => ?_⟩
    rw [sp_snoc_lt (by omega)]
    exact hl (l.length - 1) (by omega)
/-- the last one's end is moved. -/
def lastTo (l : List Sp) (k : Nat) (m : Int) : List Sp := l.set k ⟨(sp l k).f, m⟩
theorem lastTo_len (l : List Sp) (k : Nat) (m : Int) : (lastTo l k m).length = l.length := by simp [lastTo]
theorem sp_lastTo {l : List Sp} {k : Nat} (m : Int) (hk : k < l.length) (j : Nat) : sp (lastTo l k m) j = if j = k then ⟨(sp l k).f, m⟩ else sp l j := by
  simp only [sp, lastTo, List.getD_eq_getElem?_getD, List.getElem?_set]
  by_cases e : j = k
  · subst e; rw [if_pos rfl, if_pos hk, if_pos rfl]; rfl
  · rw [if_neg (fun h => e h.symm), if_neg e]
theorem ok_lastTo {l : List Sp} (h : Ok l) {k : Nat} (hk : l.length = k + 1) {m : Int} (hm : (sp l k).t ≤ m) (hM : m < 18446744073709551615) : Ok (lastTo l k m) := by
  intro j hj
  rw [lastTo_len] at hj
  rw [sp_lastTo m (by omega), sp_lastTo m (by omega)]
  have h1 := h j hj
  by_cases e : j = k
  · subst e
    rw [if_pos rfl]
    refine ⟨by have := h1.1; simp only; omega, hM, fun h0 => ?_⟩
    rw [if_neg (by omega)]
    exact h1.2.2 h0
  · rw [if_neg e]
    refine ⟨h1.1, h1.2.1, fun h0 => ?_⟩
    rw [if_neg (by omega)]
    exact h1.2.2 h0
theorem mem_lastTo {l : List Sp} {k : Nat} (hk : l.length = k + 1) {m : Int} (hm : (sp l k).t ≤ m) (z : Int) : mem (lastTo l k m) z ↔ mem l z ∨ ((sp l k).f ≤ z ∧ z ≤ m) := by
  constructor
  · rintro ⟨j, hj, m1, m2⟩
    rw [lastTo_len] at hj
    rw [sp_lastTo m (by omega)] at m1 m2
    by_cases e : j = k
    · rw [if_pos e] at m1 m2; exact .inr ⟨m1, m2⟩
    · rw [if_neg e] at m1 m2; exact .inl ⟨j, hj, m1, m2⟩
  · rintro (⟨j, hj, m1, m2⟩ | ⟨m1, m2⟩)
    · refine ⟨j, by rw [lastTo_len]; exact hj, ?_, ?_⟩ <;> rw [sp_lastTo m (by omega)] <;> by_cases e : j = k
      · subst e; rw [if_pos rfl]; exact m1
      · rw [if_neg e]; exact m1
      · subst e; rw [if_pos rfl]; simp only; omega
      · rw [if_neg e]; exact m2
    · exact ⟨k, by rw [lastTo_len]; omega, by rw [sp_lastTo m (by omega), if_pos rfl]; exact m1, by rw [sp_lastTo m (by omega), if_pos rfl]; exact m2⟩
theorem rng_lastTo {l : List Sp} (h : Rng l) {k : Nat} (hk : k < l.length) {m : Int} (m0 : 0 ≤ m) (m1 : m < 18446744073709551616) : Rng (lastTo l k m) := by
  intro j hj
  rw [lastTo_len] at hj
  rw [sp_lastTo m hk]
  by_cases e : j = k
  · rw [if_pos e]; have := h k hk; simp only; omega
  · rw [if_neg e]; exact h j hj
theorem spCells_lastTo {l : List Sp} {k : Nat} (m : Int) : ∀ {l : List Sp} {k : Nat}, k < l.length → spCells (lastTo l k m) = (spCells l).set (k * 2 + 1) (.int .u64 m) := by
  intro l
  induction l with
  | nil => intro k h; simp at h
  | cons x r ih =>
    intro k h
    cases k with
    | zero => simp [lastTo, spCells, sp]
    | succ k =>
      have h' : k < r.length := by simpa using h
      have e : lastTo (x :: r) (k + 1) m = x :: lastTo r k m := by simp [lastTo, sp]
      rw [e]
      simp only [spCells, ih h']
      rw [show (k + 1) * 2 + 1 = (k * 2 + 1) + 1 + 1 by omega]
      simp

/-- where 'glued' stands, i spans done. -/
structure Glu (l : List Sp) (i : Nat) (out : List Sp) : Prop where
  ok : Ok out
  rng : Rng out
  len : out.length ≤ i
  mem : ∀ z, mem out z ↔ mem (l.take i) z
  last : ∀ k, out.length = k + 1 → 0 < i ∧ (sp out k).f ≤ (sp l (i - 1)).f
theorem Glu.nil (l : List Sp) : Glu l 0 [] := ⟨fun j hj => by simp at hj, fun j hj => by simp at hj, by simp, fun z => by simp, fun k hk => by simp at hk⟩
theorem Glu.more {l : List Sp} {i : Nat} {out : List Sp} (g : Glu l i out) (hr : Rng l) (hs : Ris l) (hi : i < l.length) {k : Nat} (hk : out.length = k + 1) (hc : (sp l i).f ≤ (sp out k).t + 1) :
    Glu l (i + 1) (lastTo out k (max (sp out k).t (sp l i).t)) := by
  have h1 := hs.one i hi
  have h2 := hr i hi
  have h3 := g.ok k (by omega)
  have h4 := g.rng k (by omega)
  have h5 := g.last k hk
  have h6 : (sp out k).f ≤ (sp l i).f := by
    have := hs.ris (i - 1) i (by omega) hi
    omega
  refine ⟨ok_lastTo g.ok hk (by omega) (by omega), rng_lastTo g.rng (by omega) (by omega) (by omega), by rw [lastTo_len]; have := g.len; omega, fun z => ?_, fun j hj => ?_⟩
  · rw [mem_lastTo hk (by omega), g.mem, take_succ_sp hi, mem_snoc']
    constructor
    · rintro (h | h)
      · exact .inl h
      · by_cases c : z ≤ (sp out k).t
        · exact .inl ((g.mem z).1 ⟨k, by omega, h.1, c⟩)
        · exact .inr (by omega)
    · rintro (h | h)
      · exact .inl h
      · exact .inr (by omega)
  · rw [lastTo_len] at hj
    obtain rfl : j = k := by omega
    rw [sp_lastTo _ (by omega), if_pos rfl]
    exact ⟨by omega, by simpa using h6⟩
theorem Glu.next {l : List Sp} {i : Nat} {out : List Sp} (g : Glu l i out) (hr : Rng l) (hs : Ris l) (hi : i < l.length) (hc : ∀ k, out.length = k + 1 → (sp out k).t + 1 < (sp l i).f) :
    Glu l (i + 1) (out ++ [sp l i]) := by
  refine ⟨ok_snoc g.ok (hs.one i hi) (fun k hk => by have := hc k hk; omega), rng_snoc' g.rng (hr i hi), by simp; exact g.len, fun z => ?_, fun j hj => ?_⟩
  · rw [mem_snoc', g.mem, take_succ_sp hi, mem_snoc']
  · simp at hj
    subst hj
    rw [sp_snoc_eq]
    exact ⟨by omega, by simp⟩

/-- where the merge of 'Join' stands, i of a's and k of b's done. -/
structure Mrg (a b : List Sp) (i k : Nat) (l : List Sp) : Prop where
  ris : Ris l
  rng : Rng l
  len : l.length = i + k
  mem : ∀ z, mem l z ↔ mem (a.take i) z ∨ mem (b.take k) z
  ahd : i < a.length → ∀ j, j < l.length → (sp l j).f ≤ (sp a i).f
  bhd : k < b.length → ∀ j, j < l.length → (sp l j).f ≤ (sp b k).f
theorem Mrg.nil (a b : List Sp) : Mrg a b 0 0 [] := ⟨Ris.nil, fun j hj => by simp at hj, rfl, fun z => by simp [mem_nil], fun _ j hj => by simp at hj, fun _ j hj => by simp at hj⟩
theorem ok_up {l : List Sp} (h : Ok l) {i : Nat} (hi : i + 1 < l.length) : (sp l i).f ≤ (sp l (i + 1)).f := by
  have h1 := h i (by omega)
  have h2 := (h (i + 1) hi).2.2 (by omega)
  rw [show i + 1 - 1 = i by omega] at h2
  omega
theorem Mrg.left {a b : List Sp} {i k : Nat} {l : List Sp} (m : Mrg a b i k l) (oa : Ok a) (ra : Rng a) (hi : i < a.length) (hc : k < b.length → (sp a i).f ≤ (sp b k).f) : Mrg a b (i + 1) k (l ++ [sp a i]) := by
  have h1 := oa i hi
  refine ⟨m.ris.snoc ⟨h1.1, h1.2.1⟩ (m.ahd hi), rng_snoc' m.rng (ra i hi), by simp [m.len]; omega, fun z => ?_, fun h j hj => ?_, fun h j hj => ?_⟩
  · rw [mem_snoc', m.mem, take_succ_sp hi, mem_snoc', or_right_comm]
  · have := ok_up oa h
    simp at hj
    by_cases c : j < l.length
    · rw [sp_snoc_lt c]; have := m.ahd hi j c; omega
    · obtain rfl : j = l.length := by omega
      rw [sp_snoc_eq]; exact this
  · simp at hj
    by_cases c : j < l.length
    · rw [sp_snoc_lt c]; exact m.bhd h j c
    · obtain rfl : j = l.length := by omega
      rw [sp_snoc_eq]; exact hc h
theorem Mrg.right {a b : List Sp} {i k : Nat} {l : List Sp} (m : Mrg a b i k l) (ob : Ok b) (rb : Rng b) (hk : k < b.length) (hc : i < a.length → (sp b k).f ≤ (sp a i).f) : Mrg a b i (k + 1) (l ++ [sp b k]) := by
  have h1 := ob k hk
  refine ⟨m.ris.snoc ⟨h1.1, h1.2.1⟩ (m.bhd hk), rng_snoc' m.rng (rb k hk), by simp [m.len]; omega, fun z => ?_, fun h j hj => ?_, fun h j hj => ?_⟩
  · rw [mem_snoc', m.mem, take_succ_sp hk, mem_snoc', or_assoc]
  · simp at hj
    by_cases c : j < l.length
    · rw [sp_snoc_lt c]; exact m.ahd h j c
    · obtain rfl : j = l.length := by omega
      rw [sp_snoc_eq]; exact hc h
  · have := ok_up ob h
    simp at hj
    by_cases c : j < l.length
    · rw [sp_snoc_lt c]; have := m.bhd hk j c; omega
    · obtain rfl : j = l.length := by omega
      rw [sp_snoc_eq]; exact this

theorem own_setCell {w : World} {base : Nat} {e : TypeId} {size g n cap : Nat} {xs : List Value} (h : w.ownsRow base e size (.slice (some ⟨g, 0, none⟩) n cap) n xs) (j : Nat) (hj : j < n * size) (u : Value) :
    (w.setCell ⟨g, j, none⟩ u).ownsRow base e size (.slice (some ⟨g, 0, none⟩) n cap) n (xs.set j u) := by
  rcases h.2 with ⟨e0, _⟩ | ⟨g', cap', cur, e0, hb, hg, hn, hm, hs, ht⟩
  · cases e0
  · injection e0 with e1 _ e3
    injection e1 with e1
    injection e1 with e1
    subst e1; subst e3
    refine ⟨by rw [List.length_set]; exact h.1, .inr ⟨g, cap, cur.setIfInBounds j u, rfl, hb, heap_setCell_at hg j u, hn, hm, by simpa using hs, ?_⟩⟩
    rw [Array.toList_setIfInBounds, List.take_set, ht]
theorem own_cell {w : World} {base : Nat} {e : TypeId} {size g n cap : Nat} {xs : List Value} (h : w.ownsRow base e size (.slice (some ⟨g, 0, none⟩) n cap) n xs) (j : Nat) (hj : j < n * size) :
    w.cell? ⟨g, j, none⟩ = xs[j]? ∧ w.frozen? ⟨g, j, none⟩ = false := by
  rcases h.2 with ⟨e0, _⟩ | ⟨g', cap', cur, e0, hb, hg, hn, hm, hs, ht⟩
  · cases e0
  · injection e0 with e1 _ e3
    injection e1 with e1
    injection e1 with e1
    subst e1; subst e3
    refine ⟨?_, by simp [World.frozen?, hg]⟩
    rw [← ht, List.getElem?_take_of_lt hj]
    simp [World.cell?, hg]

end Go.Proofs.Ytkbmggclecimeaa
