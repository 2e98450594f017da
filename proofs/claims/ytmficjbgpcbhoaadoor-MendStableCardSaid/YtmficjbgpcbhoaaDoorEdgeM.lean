/- Edges of spans, as a list and in memory; no program here. -/
import Derived.Test.YtmficjbgpcbhoaaDoorSortM
import Derived.Test.YtmficjbgpcbhoaaDoorSpanM
namespace Go.Proofs.YtmficjbgpcbhoaaDoor
open Go.RowKit Sh
set_option linter.unusedVariables false

def edCells : List Edge → List Value
  | [] => []
  | x :: r => .int .u64 x.p :: .bool x.a :: .bool x.i :: edCells r
theorem edCells_length (l : List Edge) : (edCells l).length = l.length * 3 := by
  induction l with
  | nil => rfl
  | cons x r ih => simp only [edCells, List.length_cons, ih]; omega
theorem edCells_append (l m : List Edge) : edCells (l ++ m) = edCells l ++ edCells m := by
  induction l with
  | nil => rfl
  | cons x r ih => simp [edCells, ih]
def ed (l : List Edge) (i : Nat) : Edge := l.getD i ⟨0, false, false⟩
theorem edCells_at (l : List Edge) (i : Nat) (h : i < l.length) : (edCells l)[i * 3]? = some (.int .u64 (ed l i).p) ∧ (edCells l)[i * 3 + 1]? = some (.bool (ed l i).a) ∧ (edCells l)[i * 3 + 2]? = some (.bool (ed l i).i) := by
  induction l generalizing i with
  | nil => simp at h
  | cons x r ih =>
    cases i with
    | zero => simp [edCells, ed]
    | succ i =>
      have h' : i < r.length := by simpa using h
      have := ih i h'
      have e : (i + 1) * 3 = i * 3 + 1 + 1 + 1 := by omega
      simp only [edCells, e, List.getElem?_cons_succ]
      simpa [ed] using this

/-- the two edges of a span. -/
def edOf (x : Sp) (s : Bool) : List Edge := [⟨x.f, s, true⟩, ⟨IntKind.u64.wrap (x.t + 1), s, false⟩]
def edsTo (l : List Sp) (s : Bool) : Nat → List Edge
  | 0 => []
  | i + 1 => edsTo l s i ++ edOf (sp l i) s
theorem edOf_one (x : Sp) (s : Bool) : ∀ u ∈ edCells (edOf x s), u.oneCell' = true := by
  intro u hu
  simp only [edOf, edCells, List.mem_cons, List.not_mem_nil, or_false] at hu
  rcases hu with rfl | rfl | rfl | rfl | rfl | rfl <;> rfl
theorem edsTo_length (l : List Sp) (s : Bool) (i : Nat) : (edsTo l s i).length = i * 2 := by
  induction i with
  | zero => rfl
  | succ i ih => simp only [edsTo, List.length_append, ih, edOf, List.length_cons, List.length_nil]; omega

/-- an owned row of edges reads as such. -/
theorem IsE.ofOwn {w : World} {base : Nat} {v : Value} {l : List Edge} (h : w.ownsRow base 52 3 v l.length (edCells l)) (h0 : 0 < l.length) :
    ∃ g cap, v = .slice (some ⟨g, 0, none⟩) l.length cap ∧ base ≤ g ∧ l.length ≤ cap ∧ cap ≤ 9223372036854775807 ∧ IsE w g l.length (ed l) := by
  rcases h.2 with ⟨rfl, h0'⟩ | ⟨g, cap, cur, rfl, hb, hg, hn, hc, hs, ht⟩
  · omega
  · refine ⟨g, cap, rfl, hb, hn, by simpa [maxLen] using hc, ⟨cur, hg, by rw [hs]; exact Nat.mul_le_mul_right 3 hn, fun k hk => ?_⟩⟩
    have hat : ∀ q, q < l.length * 3 → cur[q]? = (edCells l)[q]? := by
      intro q hq
      rw [← ht, List.getElem?_take_of_lt hq]
      simp
    obtain ⟨a0, a1, a2⟩ := edCells_at l k hk
    rw [hat _ (by omega), hat _ (by omega), hat _ (by omega)]
    exact ⟨a0, a1, a2⟩

end Go.Proofs.YtmficjbgpcbhoaaDoor
