/- mend.Stable and the document's: what they compute. -/
import Derived.Test.YtmficjbgpcbhoaaDoorListB
import Derived.Test.YtmficjbgpcbhoaaDoorFnD
namespace Go.Proofs.YtmficjbgpcbhoaaDoor
open Go.RowKit Go.Shelf Sh
open Go.ChangeMaps (setBlock)
set_option linter.unusedVariables false

theorem less_first (n : Int) (a : Value) (w : World) : Calls Tryd.prog 10 #[.int .u64 n, .bool true, a] w fun e w' => e = .returned (.int .u64 n) ∧ w = w' := by
  go_enter Tryd.func10, Tryd.ntmps10
  go_wp2
  go_ret
  exact ⟨rfl, rfl⟩
theorem less_next (n m : Int) (b : Nat) (w : World) (h : w.cell? ⟨b, 0, none⟩ = some (.int .u64 m)) : Calls Tryd.prog 10 #[.int .u64 n, .bool false, .pointer (some ⟨b, 0, none⟩)] w fun e w' => e = .returned (.int .u64 (min m n)) ∧ w = w' := by
  go_enter Tryd.func10, Tryd.ntmps10
  go_wp2
  · go_ret
    exact ⟨by rw [Int.min_eq_right (by omega)]; rfl, rfl⟩
  · go_ret
    exact ⟨by rw [Int.min_eq_left (by omega)]; rfl, rfl⟩
/-- The least of what the nodes of a list reach; 0, if one of them reaches nothing. -/
def stab (m : Int → Option Int) : List N63 → Nat → Int → Int
  | [], _, least => least
  | c :: l, i, least => match m (c.1 : Int) with | none => 0 | some v => stab m l (i + 1) (if i = 0 then v else min least v)
theorem look_26 {w : World} {B : Nat} {m : Int → Option Int} (h : IsFn iV uV w B m) (n : Int) : (Instr.lookup 26 (.map (some B)) (.int .i64 n) true).run Tryd.prog w = .ok (.tuple #[.int .u64 ((m n).getD 0), .bool (m n).isSome]) w := by
  have := h.look key3 Tryd.underlying26 (z := .int .u64 0) (by go_simp) n true
  rw [show (.int .u64 ((m n).getD 0) : Value) = ((m n).map uV).getD (.int .u64 0) by cases m n <;> rfl]
  exact this
/-- A slice of nodes, as it lies in memory. -/
structure IsN (w : World) (v : Value) (L : List N63) : Prop where
  ex : ∃ A c, v = .slice A L.length c ∧ (0 < L.length → ∃ g, A = some ⟨g, 0, none⟩ ∧ ∀ i (h : i < L.length), w.cell? ⟨g, i, none⟩ = some (.int .i64 ((L[i]).1 : Int)) ∧ g < w.heap.size)
theorem IsN.of_own {w : World} {base : Nat} {v : Value} {L : List N63} (h : w.ownsRow base 3 1 v L.length (nC L)) : IsN w v L := by
  rcases h.2 with ⟨rfl, h0⟩ | ⟨g, cap, cur, rfl, hb, hg, hn, hc, hs, ht⟩
  · have : L = [] := by simpa [nC] using h0
    subst this
    exact ⟨none, 0, rfl, fun h => absurd h (by simp)⟩
  · refine ⟨_, cap, rfl, fun _ => ⟨g, rfl, fun i hi => ⟨?_, (Array.getElem?_eq_some_iff.1 hg).1⟩⟩⟩
    have e : (nC L)[i]? = some (.int .i64 ((L[i]).1 : Int)) := by simp [nC, hi]
    rw [← ht, List.getElem?_take_of_lt (by omega)] at e
    simp only [World.cell?, hg]
    simpa using e
theorem IsN.keep {S : Nat → Prop} {w w' : World} {v : Value} {L : List N63} (h : IsN w v L) (k : Keep S w w') (hS : ∀ A c g, v = .slice (some ⟨g, 0, none⟩) A c → ¬ S g) : IsN w' v L := by
  obtain ⟨A, c, rfl, h2⟩ := h.ex
  refine ⟨A, c, rfl, fun h0 => ?_⟩
  obtain ⟨g, rfl, h3⟩ := h2 h0
  refine ⟨g, rfl, fun i hi => ?_⟩
  obtain ⟨h4, h5⟩ := h3 i hi
  exact ⟨(World.cell?_of_block (k.block g h5 (hS _ _ g rfl))).trans h4, Nat.lt_of_lt_of_le h5 k.size⟩
end Go.Proofs.YtmficjbgpcbhoaaDoor
