/- Rows of items; ranges over a map that may be nil. -/
import Derived.Test.YtacfigociobgmaaQueM
namespace Go.Proofs.Ytacfigociobgmaa
open Go.RowKit Sh
open Go.ChangeMaps (setBlock)
set_option linter.unusedVariables false

theorem own_cell {w : World} {base : Nat} {e : TypeId} {size g n cap : Nat} {xs : List Value} (h : w.ownsRow base e size (.slice (some ⟨g, 0, none⟩) n cap) n xs) (j : Nat) (hj : j < n * size) :
    w.cell? ⟨g, j, none⟩ = xs[j]? ∧ w.frozen? ⟨g, j, none⟩ = false := by
  rcases h.2 with ⟨e0, _⟩ | ⟨g', cap', cur, e0, hb, hg, hn, hm, hs, ht⟩
  · cases e0
  · injection e0 with e1 _ e3
    injection e1 with e1
    injection e1 with e1
    subst e1; subst e3
    refine ⟨?_, by simp [World.frozen?, hg]⟩
    rw [← ht, List.getElem?_take_of_lt hj]
    simp [World.cell?, hg]
theorem own_keepB {S : Nat → Prop} {w w' : World} {base : Nat} {e : TypeId} {size : Nat} {v : Value} {n : Nat} {xs : List Value} (h : w.ownsRow base e size v n xs) (k : Keep S w w') (hS : ∀ g, v.ownBlock = some g → ¬ S g) : w'.ownsRow base e size v n xs := by
  obtain ⟨h1, h2⟩ := h
  refine ⟨h1, ?_⟩
  rcases h2 with h2 | ⟨g, cap, cur, hv, hg, hh, r⟩
  · exact .inl h2
  · exact .inr ⟨g, cap, cur, hv, hg, k.old hh (hS g (by rw [hv]; rfl)), r⟩
theorem own_block {w : World} {base : Nat} {e : TypeId} {size : Nat} {v : Value} {n : Nat} {xs : List Value} (h : w.ownsRow base e size v n xs) {g : Nat} (hg : v.ownBlock = some g) : base ≤ g ∧ g < w.heap.size ∧ ∃ c, w.heap[g]? = some (.cells c e (0, 0)) := by
  rcases h.2 with ⟨rfl, _⟩ | ⟨g', cap, cur, rfl, hb, hh, _⟩
  · cases hg
  · injection hg with hg
    subst hg
    exact ⟨hb, (Array.getElem?_eq_some_iff.1 hh).1, cur, hh⟩

def itCells : List It → List Value
  | [] => []
  | e :: E => itC e ++ itCells E
theorem itCells_length (E : List It) : (itCells E).length = E.length * 4 := by
  induction E with
  | nil => rfl
  | cons e E ih => simp [itCells, itC, ih]; omega
theorem itCells_append (E F : List It) : itCells (E ++ F) = itCells E ++ itCells F := by
  induction E with
  | nil => rfl
  | cons e E ih => simp [itCells, ih]
theorem itCells_get : ∀ (E : List It) (i c : Nat), i < E.length → c < 4 → (itCells E)[i * 4 + c]? = (itC (it E i))[c]?
  | [], i, c, h, _ => by simp at h
  | e :: E, 0, c, h, hc => by
    simp only [itCells, it, List.getD_cons_zero, Nat.zero_mul, Nat.zero_add]
    rw [List.getElem?_append_left (by simp [itC]; omega)]
  | e :: E, i + 1, c, h, hc => by
    have := itCells_get E i c (by simpa using h) hc
    simp only [itCells, it, List.getD_cons_succ] at this ⊢
    rw [List.getElem?_append_right (by simp [itC]; omega), ← this]
    congr 1
    simp [itC]; omega
theorem itC_one (e : It) : ∀ u ∈ itC e, u.oneCell' = true := by
  intro u hu
  simp [itC] at hu
  rcases hu with rfl | rfl | rfl | rfl <;> rfl
theorem itCells_one (E : List It) : ∀ u ∈ itCells E, u.oneCell' = true := by
  induction E with
  | nil => intro u hu; simp [itCells] at hu
  | cons e E ih =>
    intro u hu
    rcases List.mem_append.1 hu with h | h
    · exact itC_one e u h
    · exact ih u h
theorem own_row {w : World} {base g cap : Nat} {R : List It} (h : w.ownsRow base 41 4 (.slice (some ⟨g, 0, none⟩) R.length cap) R.length (itCells R)) : RowAt w g R := fun i hi => by
  have a0 := (own_cell h (i * 4 + 0) (by omega)).1.trans (itCells_get R i 0 hi (by omega))
  have a1 := (own_cell h (i * 4 + 1) (by omega)).1.trans (itCells_get R i 1 hi (by omega))
  have a2 := (own_cell h (i * 4 + 2) (by omega)).1.trans (itCells_get R i 2 hi (by omega))
  have a3 := (own_cell h (i * 4 + 3) (by omega)).1.trans (itCells_get R i 3 hi (by omega))
  exact ⟨a0, a1, a2, a3⟩

theorem info41 : (Try.prog.info? 41).map (fun i => (i.zero, i.size, i.bytes)) = some (some (.agg #[.int .i64 0, .int .u64 0, .int .i64 0, .int .i64 0]), 4, 32) := by kernel_rfl

/-- A range over a map that may be nil, of which L is left. -/
def ItO (w : World) (r : Nat) (mb : Option Nat) (M L : List It) : Prop :=
  (mb = none ∧ L = [] ∧ w.heap[r]? = some (.mapIter none 0 #[] 0)) ∨ ∃ B, mb = some B ∧ r ≠ B ∧ IsIt (key := It.n) (val := itV) w r B M L
theorem ItO.keep {S : Nat → Prop} {w w' : World} {r : Nat} {mb : Option Nat} {M L : List It} (h : ItO w r mb M L) (k : Keep S w w') (hn : ∀ B, mb = some B → ¬ S B) (hr : ¬ S r) : ItO w' r mb M L := by
  rcases h with ⟨rfl, h2, h3⟩ | ⟨B, rfl, h2, h3⟩
  · exact .inl ⟨rfl, h2, k.old h3 hr⟩
  · exact .inr ⟨B, rfl, h2, h3.keep k (hn B rfl) hr⟩
theorem ItO.block {w : World} {r : Nat} {mb : Option Nat} {M L : List It} (h : ItO w r mb M L) : ∃ a b c d, w.heap[r]? = some (.mapIter a b c d) := by
  rcases h with ⟨rfl, h2, h3⟩ | ⟨B, rfl, h2, h3⟩
  · exact ⟨_, _, _, _, h3⟩
  · obtain ⟨E, c, seen, _, _, _, _, h5, _⟩ := h3
    exact ⟨_, _, _, _, h5⟩
theorem ItO.next {w : World} {r : Nat} {mb : Option Nat} {M L : List It} (h : ItO w r mb M L) (ty : TypeId) :
    (L = [] ∧ (Instr.next (.pointer (some ⟨r, 0, none⟩)) false ty).run Try.prog w = .ok (.tuple #[.bool false]) w) ∨
    ∃ x L', L.Perm (x :: L') ∧ x ∈ M ∧ ∃ wn, Keep (fun k => k = r) w wn ∧ ItO wn r mb M L' ∧ (Instr.next (.pointer (some ⟨r, 0, none⟩)) false ty).run Try.prog w = .ok (.tuple #[.bool true, .int .i64 x.n, itV x]) wn ∧ (Instr.entry (.pointer (some ⟨r, 0, none⟩))).run Try.prog wn = .ok (.tuple #[.int .i64 x.n, itV x]) wn := by
  rcases h with ⟨rfl, h2, h3⟩ | ⟨B, rfl, h2, h3⟩
  · refine .inl ⟨h2, ?_⟩
    simp only [Instr.next, getObj, Sem.run_bind, Sem.run, h3, Result.andThen]
    rfl
  · rcases h3.next (P := Try.prog) ty h2 with h | ⟨x, L', p, hm, wn, k, h4, h5, h6⟩
    · exact .inl h
    · exact .inr ⟨x, L', p, hm, wn, k, .inr ⟨B, rfl, h2, h4⟩, h5, h6⟩
theorem IsQ.range {w w0 : World} {q : Nat} {mb : Option Nat} {M : List It} (h : IsQ w0 q mb M) (k : Keep (fun _ => False) w0 w) :
    ∃ o M1, M1.Perm M ∧ (Instr.range 25 (.map mb)).run Try.prog w = .ok (.pointer (some ⟨w.heap.size, 0, none⟩)) (w.alloc o) ∧ ItO (w.alloc o) w.heap.size mb M1 M1 := by
  have h := h.keep0 k
  cases mb with
  | none =>
    refine ⟨.mapIter none 0 #[] 0, [], by rw [h.non rfl], ?_, .inl ⟨rfl, rfl, heap_alloc_new w _⟩⟩
    simp [Instr.range, run_underlying Try.underlying25, Result.andThen]
  | some B =>
    obtain ⟨h1, M1, h2, h3⟩ := h.mp B rfl
    obtain ⟨o, hr, hi⟩ := h3.range (P := Try.prog) Try.underlying25
    have := h3.lt
    exact ⟨o, M1, h2, hr, .inr ⟨B, rfl, by omega, hi⟩⟩
theorem IsQ.len {w : World} {q : Nat} {mb : Option Nat} {M : List It} (h : IsQ w q mb M) (ty : TypeId) :
    (Builtin.len_ #[25] ty #[.map mb]).run Try.prog w = .ok (.int .i64 M.length) w := by
  cases mb with
  | none =>
    rw [h.non rfl]
    simp [Builtin.len_, run_underlying Try.underlying25]
    try rfl
  | some B =>
    obtain ⟨h1, M1, h2, h3⟩ := h.mp B rfl
    rw [← h2.length_eq]
    exact h3.len (P := Try.prog) (by rw [Try.underlying25]; rfl) ty

end Go.Proofs.Ytacfigociobgmaa
