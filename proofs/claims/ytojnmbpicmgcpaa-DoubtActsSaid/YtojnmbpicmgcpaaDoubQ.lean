/- A map of doubts behind its owner; ranges over it. -/
import Derived.Test.YtojnmbpicmgcpaaDoubM
namespace Go.Proofs.Ytojnmbpicmgcpaa
open Go.RowKit Sh
open Go.ChangeMaps (setBlock)
set_option linter.unusedVariables false

/-- Block q of w is a queue of the doubts M (in whatever order); mb: its map, if it has one. -/
structure IsQ (w : World) (q : Nat) (mb : Option Nat) (M : List Db) : Prop where
  cell : w.heap[q]? = some (.cells #[.map mb] 27 (0, 0))
  mp : ∀ B, mb = some B → B ≠ q ∧ ∃ M1 : List Db, M1.Perm M ∧ IsMp Db.n dbV w B M1
  non : mb = none → M = []
def QS (q : Nat) (mb : Option Nat) (k : Nat) : Prop := k = q ∨ mb = some k
theorem IsQ.keep {S : Nat → Prop} {w w' : World} {q : Nat} {mb : Option Nat} {M : List Db} (h : IsQ w q mb M) (k : Keep S w w') (hn : ∀ j, QS q mb j → ¬ S j) : IsQ w' q mb M :=
  ⟨k.old h.cell (hn q (.inl rfl)), fun B hB => by
    obtain ⟨h1, M1, h2, h3⟩ := h.mp B hB
    exact ⟨h1, M1, h2, h3.keep k (hn B (.inr hB))⟩, h.non⟩
theorem IsQ.keep0 {w w' : World} {q : Nat} {mb : Option Nat} {M : List Db} (h : IsQ w q mb M) (k : Keep (fun _ => False) w w') : IsQ w' q mb M := h.keep k fun _ _ h => h
theorem IsQ.perm {w : World} {q : Nat} {mb : Option Nat} {M M' : List Db} (h : IsQ w q mb M) (hp : M.Perm M') : IsQ w q mb M' :=
  ⟨h.cell, fun B hB => by
    obtain ⟨h1, M1, h2, h3⟩ := h.mp B hB
    exact ⟨h1, M1, h2.trans hp, h3⟩, fun hn => by rw [h.non hn] at hp; exact hp.symm.eq_nil⟩
theorem IsQ.nod {w : World} {q : Nat} {mb : Option Nat} {M : List Db} (h : IsQ w q mb M) : (M.map Db.n).Nodup := by
  cases mb with
  | none => rw [h.non rfl]; simp
  | some B =>
    obtain ⟨h1, M1, h2, h3⟩ := h.mp B rfl
    exact (h2.map Db.n).nodup_iff.1 h3.nod
theorem IsQ.lt {w : World} {q : Nat} {mb : Option Nat} {M : List Db} (h : IsQ w q mb M) : q < w.heap.size := (Array.getElem?_eq_some_iff.1 h.cell).1
theorem IsQ.blt {w : World} {q B : Nat} {M : List Db} (h : IsQ w q (some B) M) : B < w.heap.size := by
  obtain ⟨h1, M1, h2, h3⟩ := h.mp B rfl
  exact h3.lt
theorem IsQ.c0 {w : World} {q : Nat} {mb : Option Nat} {M : List Db} (h : IsQ w q mb M) : w.cell? ⟨q, 0, none⟩ = some (.map mb) := by
  have := h.cell
  simp [World.cell?, this]

def zDb : Db := ⟨0, 0, 0, 0, 0, 0, 0⟩
theorem zero55 (w : World) : (zeroValue 55).run Try.prog w = .ok (dbV zDb) w := by kernel_rfl
/-- what a look-up in a queue's map says. -/
theorem IsQ.look {w0 : World} {q : Nat} {mb : Option Nat} {M : List Db} (h : IsQ w0 q mb M) (n : Int) :
    ∃ (x : Db) (b : Bool), (∀ w, Keep (fun _ => False) w0 w → (Instr.lookup 25 (.map mb) (.int .i64 n) true).run Try.prog w = .ok (.tuple #[dbV x, .bool b]) w) ∧ ((b = true ∧ x ∈ M ∧ x.n = n) ∨ (b = false ∧ ∀ y ∈ M, y.n ≠ n)) := by
  cases mb with
  | none =>
    refine ⟨zDb, false, fun w k => ?_, .inr ⟨rfl, by rw [h.non rfl]; simp⟩⟩
    exact look_nil (P := Try.prog) Try.underlying25 Try.underlying3 (zero55 w) n true
  | some B =>
    obtain ⟨h1, M1, h2, h3⟩ := h.mp B rfl
    by_cases c : ∃ x ∈ M1, x.n = n
    · obtain ⟨x, hx, hn⟩ := c
      exact ⟨x, true, fun w k => (h3.keep k id).look_in (P := Try.prog) Try.underlying25 Try.underlying3 hx n hn true, .inl ⟨rfl, h2.mem_iff.1 hx, hn⟩⟩
    · refine ⟨zDb, false, fun w k => (h3.keep k id).look_out (P := Try.prog) Try.underlying25 Try.underlying3 (zero55 w) n (fun x hx hn => c ⟨x, hx, hn⟩) true, .inr ⟨rfl, fun y hy hn => c ⟨y, h2.mem_iff.2 hy, hn⟩⟩⟩
/-- where y comes in. -/
def putL (M : List Db) (y : Db) : List Db := M.filter (fun z => z.n ≠ y.n) ++ [y]
theorem map_put (M : List Db) (y : Db) (hn : (M.map Db.n).Nodup) (hx : ∃ x ∈ M, x.n = y.n) : (M.map fun z => if z.n = y.n then y else z).Perm (putL M y) := by
  induction M with
  | nil => obtain ⟨x, hx, _⟩ := hx; simp at hx
  | cons a M ih =>
    rw [List.map_cons, List.nodup_cons] at hn
    by_cases c : a.n = y.n
    · have e : ∀ z ∈ M, z.n ≠ y.n := fun z hz he => hn.1 (List.mem_map.2 ⟨z, hz, he.trans c.symm⟩)
      have e1 : (M.map fun z => if z.n = y.n then y else z) = M := by
        conv => rhs; rw [← List.map_id M]
        exact List.map_congr_left (fun z hz => by simp [e z hz])
      have e2 : M.filter (fun z => z.n ≠ y.n) = M := List.filter_eq_self.2 (fun z hz => by simpa using e z hz)
      rw [List.map_cons, if_pos c, e1, putL, List.filter_cons, if_neg (by simp [c]), e2]
      exact (List.perm_append_singleton y M).symm
    · obtain ⟨x, hx, hxn⟩ := hx
      have hx' : x ∈ M := by
        rcases List.mem_cons.1 hx with rfl | h
        · exact absurd hxn c
        · exact h
      rw [List.map_cons, if_neg c, putL, List.filter_cons, if_pos (by simp [c])]
      exact (ih hn.2 ⟨x, hx', hxn⟩).cons a
theorem put_out (M : List Db) (y : Db) (hx : ∀ x ∈ M, x.n ≠ y.n) : putL M y = M ++ [y] := by
  rw [putL, List.filter_eq_self.2 (fun z hz => by simpa using hx z hz)]
theorem IsQ.put {w : World} {q B : Nat} {M : List Db} (h : IsQ w q (some B) M) (y : Db) :
    ∃ o, (Instr.mapUpdate 25 (.map (some B)) (.int .i64 y.n) (dbV y)).run Try.prog w = .ok () (setBlock w B o) ∧ IsQ (setBlock w B o) q (some B) (putL M y) := by
  obtain ⟨h1, M1, h2, h3⟩ := h.mp B rfl
  have hc : ∀ o, (setBlock w B o).heap[q]? = some (.cells #[.map (some B)] 27 (0, 0)) := fun o => (block_other (Ne.symm h1)).trans h.cell
  by_cases c : ∃ x ∈ M1, x.n = y.n
  · obtain ⟨o, hr, hi⟩ := h3.upd_in (P := Try.prog) Try.underlying25 Try.underlying3 y c _ rfl _ rfl
    refine ⟨o, hr, hc o, fun B' hB' => ?_, fun h => by cases h⟩
    injection hB' with hB'
    subst hB'
    exact ⟨h1, _, (map_put M1 y h3.nod c).trans ((h2.filter _).append_right _), hi⟩
  · have c' : ∀ x ∈ M1, x.n ≠ y.n := fun x hx he => c ⟨x, hx, he⟩
    obtain ⟨o, hr, hi⟩ := h3.upd_out (P := Try.prog) Try.underlying25 Try.underlying3 y c' _ rfl _ rfl
    refine ⟨o, hr, hc o, fun B' hB' => ?_, fun h => by cases h⟩
    injection hB' with hB'
    subst hB'
    refine ⟨h1, _, ?_, hi⟩
    rw [← put_out M1 y c']
    exact (h2.filter _).append_right _
theorem IsQ.del {w : World} {q B : Nat} {M : List Db} (h : IsQ w q (some B) M) (n : Int) (kt ty : TypeId) :
    ∃ o, (Builtin.delete_ #[25, kt] ty #[.map (some B), .int .i64 n]).run Try.prog w = .ok (.tuple #[]) (setBlock w B o) ∧ IsQ (setBlock w B o) q (some B) (M.filter fun z => z.n ≠ n) := by
  obtain ⟨h1, M1, h2, h3⟩ := h.mp B rfl
  obtain ⟨o, hr, hi⟩ := h3.del (P := Try.prog) Try.underlying25 Try.underlying3 n kt ty
  refine ⟨o, hr, (block_other (Ne.symm h1)).trans h.cell, fun B' hB' => ?_, fun h => by cases h⟩
  injection hB' with hB'
  subst hB'
  exact ⟨h1, _, h2.filter _, hi⟩

theorem IsQ.made {w : World} {q : Nat} {M : List Db} (h : IsQ w q none M) : IsQ ((w.alloc (.map #[] 0)).setCell ⟨q, 0, none⟩ (.map (some w.heap.size))) q (some w.heap.size) M := by
  have hq := h.lt
  have ka : Keep (fun _ => False) w (w.alloc (.map #[] 0)) := (Keep.refl _ w).alloc _
  have ks : Keep (fun k => k = q) (w.alloc (.map #[] 0)) ((w.alloc (.map #[] 0)).setCell ⟨q, 0, none⟩ (.map (some w.heap.size))) := (Keep.refl _ _).setAt _ _
  refine ⟨?_, fun B hB => ?_, fun h => by cases h⟩
  · have := heap_setCell_at (ka.old h.cell id) 0 (.map (some w.heap.size))
    simpa using this
  · injection hB with hB
    subst hB
    exact ⟨by omega, [], by rw [h.non rfl], (IsMp.made w).keep ks (by omega)⟩

theorem putL_len (M : List Db) (y : Db) : (putL M y).length ≤ M.length + 1 := by
  simp only [putL, List.length_append, List.length_cons, List.length_nil]
  have := List.length_filter_le (fun z : Db => decide (z.n ≠ y.n)) M
  omega
theorem own_cell {w : World} {base : Nat} {e : TypeId} {size g n cap : Nat} {xs : List Value} (h : w.ownsRow base e size (.slice (some ⟨g, 0, none⟩) n cap) n xs) (j : Nat) (hj : j < n * size) :
    w.cell? ⟨g, j, none⟩ = xs[j]? ∧ w.frozen? ⟨g, j, none⟩ = false := by
  rcases h.2 with ⟨e0, _⟩ | ⟨g', cap', cur, e0, hb, hg, hn, hm, hs, ht⟩
  · cases e0
  · injection e0 with e1 _ e3
    injection e1 with e1
    injection e1 with e1
    subst e1; subst e3
    refine ⟨?_, by simp [World.frozen?, hg]⟩
    rw [← ht, List.getElem?_take_of_lt hj]
    simp [World.cell?, hg]
theorem own_keepB {S : Nat → Prop} {w w' : World} {base : Nat} {e : TypeId} {size : Nat} {v : Value} {n : Nat} {xs : List Value} (h : w.ownsRow base e size v n xs) (k : Keep S w w') (hS : ∀ g, v.ownBlock = some g → ¬ S g) : w'.ownsRow base e size v n xs := by
  obtain ⟨h1, h2⟩ := h
  refine ⟨h1, ?_⟩
  rcases h2 with h2 | ⟨g, cap, cur, hv, hg, hh, r⟩
  · exact .inl h2
  · exact .inr ⟨g, cap, cur, hv, hg, k.old hh (hS g (by rw [hv]; rfl)), r⟩
theorem own_block {w : World} {base : Nat} {e : TypeId} {size : Nat} {v : Value} {n : Nat} {xs : List Value} (h : w.ownsRow base e size v n xs) {g : Nat} (hg : v.ownBlock = some g) : base ≤ g ∧ g < w.heap.size ∧ ∃ c, w.heap[g]? = some (.cells c e (0, 0)) := by
  rcases h.2 with ⟨rfl, _⟩ | ⟨g', cap, cur, rfl, hb, hh, _⟩
  · cases hg
  · injection hg with hg
    subst hg
    exact ⟨hb, (Array.getElem?_eq_some_iff.1 hh).1, cur, hh⟩

/-- A range over a map that may be nil, of which L is left. -/
def ItO (w : World) (r : Nat) (mb : Option Nat) (M L : List Db) : Prop :=
  (mb = none ∧ L = [] ∧ w.heap[r]? = some (.mapIter none 0 #[] 0)) ∨ ∃ B, mb = some B ∧ r ≠ B ∧ IsIt (key := Db.n) (val := dbV) w r B M L
theorem ItO.keep {S : Nat → Prop} {w w' : World} {r : Nat} {mb : Option Nat} {M L : List Db} (h : ItO w r mb M L) (k : Keep S w w') (hn : ∀ B, mb = some B → ¬ S B) (hr : ¬ S r) : ItO w' r mb M L := by
  rcases h with ⟨rfl, h2, h3⟩ | ⟨B, rfl, h2, h3⟩
  · exact .inl ⟨rfl, h2, k.old h3 hr⟩
  · exact .inr ⟨B, rfl, h2, h3.keep k (hn B rfl) hr⟩
theorem ItO.block {w : World} {r : Nat} {mb : Option Nat} {M L : List Db} (h : ItO w r mb M L) : ∃ a b c d, w.heap[r]? = some (.mapIter a b c d) := by
  rcases h with ⟨rfl, h2, h3⟩ | ⟨B, rfl, h2, h3⟩
  · exact ⟨_, _, _, _, h3⟩
  · obtain ⟨E, c, seen, _, _, _, _, h5, _⟩ := h3
    exact ⟨_, _, _, _, h5⟩
theorem ItO.next {w : World} {r : Nat} {mb : Option Nat} {M L : List Db} (h : ItO w r mb M L) (ty : TypeId) :
    (L = [] ∧ (Instr.next (.pointer (some ⟨r, 0, none⟩)) false ty).run Try.prog w = .ok (.tuple #[.bool false]) w) ∨
    ∃ x L', L.Perm (x :: L') ∧ x ∈ M ∧ ∃ wn, Keep (fun k => k = r) w wn ∧ ItO wn r mb M L' ∧ (Instr.next (.pointer (some ⟨r, 0, none⟩)) false ty).run Try.prog w = .ok (.tuple #[.bool true, .int .i64 x.n, dbV x]) wn ∧ (Instr.entry (.pointer (some ⟨r, 0, none⟩))).run Try.prog wn = .ok (.tuple #[.int .i64 x.n, dbV x]) wn := by
  rcases h with ⟨rfl, h2, h3⟩ | ⟨B, rfl, h2, h3⟩
  · refine .inl ⟨h2, ?_⟩
    simp only [Instr.next, getObj, Sem.run_bind, Sem.run, h3, Result.andThen]
    rfl
  · rcases h3.next (P := Try.prog) ty h2 with h | ⟨x, L', p, hm, wn, k, h4, h5, h6⟩
    · exact .inl h
    · exact .inr ⟨x, L', p, hm, wn, k, .inr ⟨B, rfl, h2, h4⟩, h5, h6⟩
theorem IsQ.range {w w0 : World} {q : Nat} {mb : Option Nat} {M : List Db} (h : IsQ w0 q mb M) (k : Keep (fun _ => False) w0 w) :
    ∃ o M1, M1.Perm M ∧ (Instr.range 25 (.map mb)).run Try.prog w = .ok (.pointer (some ⟨w.heap.size, 0, none⟩)) (w.alloc o) ∧ ItO (w.alloc o) w.heap.size mb M1 M1 := by
  have h := h.keep0 k
  cases mb with
  | none =>
    refine ⟨.mapIter none 0 #[] 0, [], by rw [h.non rfl], ?_, .inl ⟨rfl, rfl, heap_alloc_new w _⟩⟩
    simp [Instr.range, run_underlying Try.underlying25, Result.andThen]
  | some B =>
    obtain ⟨h1, M1, h2, h3⟩ := h.mp B rfl
    obtain ⟨o, hr, hi⟩ := h3.range (P := Try.prog) Try.underlying25
    have := h3.lt
    exact ⟨o, M1, h2, hr, .inr ⟨B, rfl, by omega, hi⟩⟩
end Go.Proofs.Ytojnmbpicmgcpaa
