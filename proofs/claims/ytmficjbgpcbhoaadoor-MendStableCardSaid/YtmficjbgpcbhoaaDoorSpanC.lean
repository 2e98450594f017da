/- Walks of spans: at, Has. -/
import Derived.Test.YtmficjbgpcbhoaaDoorSpanA
import Derived.Test.YtmficjbgpcbhoaaDoorWalkP
namespace Go.Proofs.YtmficjbgpcbhoaaDoor
open Go.RowKit Sh
set_option linter.unusedVariables false

theorem Ok.mono {l : List Sp} (h : Ok l) (k j : Nat) (h1 : k ≤ j) (h2 : j < l.length) : (sp l k).t ≤ (sp l j).t := by
  by_cases e : k = j
  · subst e; exact Int.le_refl _
  · have := h.rise k j (by omega) h2
    have := (h j h2).1
    omega

def hasL (l : List Sp) (n : Int) : Prop := Ok l ∧ mem l n
open Classical in
noncomputable def hasLB (l : List Sp) (n : Int) : Bool := decide (hasL l n)
theorem hasLB_true {l : List Sp} {n : Int} (h : hasL l n) : hasLB l n = true := by simp [hasLB, h]
theorem hasLB_false {l : List Sp} {n : Int} (h : ¬ hasL l n) : hasLB l n = false := by simp [hasLB, h]
theorem hasLB_iff {l : List Sp} {n : Int} : hasLB l n = true ↔ hasL l n := by simp [hasLB]
end Go.Proofs.YtmficjbgpcbhoaaDoor
