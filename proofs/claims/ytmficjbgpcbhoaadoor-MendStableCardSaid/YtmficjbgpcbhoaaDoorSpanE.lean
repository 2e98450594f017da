/- Walks of spans: the two ways of keeping; Clone; Many; Reach. -/
import Derived.Test.YtmficjbgpcbhoaaDoorSpanD
namespace Go.Proofs.YtmficjbgpcbhoaaDoor
open Go.RowKit Sh
set_option linter.unusedVariables false

set_option maxHeartbeats 400000 in
theorem andnot_any (x y : Bool) (w : World) : Calls Tryd.prog 19 #[.bool x, .bool y] w fun e w' => e = .returned (.bool (x && !y)) ∧ w = w' := by
  cases x <;> cases y
  all_goals
    go_enter Tryd.func19, Tryd.ntmps19
    go_wp2
    go_ret
    exact ⟨rfl, rfl⟩

/-- how many numbers the first i spans have. -/
def cnt (l : List Sp) : Nat → Int
  | 0 => 0
  | i + 1 => cnt l i + ((sp l i).t - (sp l i).f + 1)
theorem cnt_le {l : List Sp} (hO : Ok l) (hr : Rng l) : ∀ i, i ≤ l.length → 0 ≤ cnt l i ∧ (0 < i → cnt l i ≤ (sp l (i - 1)).t + 1) := by
  intro i
  induction i with
  | zero => intro _; simp [cnt]
  | succ i ih =>
    intro hi
    obtain ⟨h0, h1⟩ := ih (by omega)
    have ho := hO i hi
    have := hr i hi
    simp only [cnt, Nat.add_sub_cancel]
    refine ⟨by omega, fun _ => ?_⟩
    by_cases e : i = 0
    · subst e; simp [cnt]; omega
    · have := h1 (by omega)
      have := ho.2.2 (by omega)
      omega
noncomputable def manyL (l : List Sp) : Int := if okB l = true then cnt l l.length else 0

end Go.Proofs.YtmficjbgpcbhoaaDoor
