/- ShelfReach, as the row asks for it. -/
import Derived.Test.YtkbmggclecimeaaSizeM
import Derived.Test.YtkbmggclecimeaaReachW
namespace Go.Proofs.Ytkbmggclecimeaa
open Go.RowKit Go.ChangeShapes Go.WideShapes
set_option linter.unusedVariables false
theorem shelfReach_row (a0 : Option Addr) (len0 cap0 : Nat) (z0 : List Int) (a1 : Int) (w : World) (w0 : IsRow .u8 w a0 len0 cap0 z0) (y0 : len0 * 1 ≤ 140737488351232) (w1 : (Lit.int .u8 a1).wf = true) :
    Calls Try.prog 12 #[.slice a0 len0 cap0, .int .u8 a1] w fun e w' => e = .returned (.bool true) ∧ Below w.heap.size w w' := by
  obtain ⟨b0, h0⟩ := IsB.ofRow w0 y0
  obtain ⟨r0, r1⟩ := wf_u8 w1
  refine (shelfReach_walk h0 a1 r0 r1).mono ?_
  rintro e w' ⟨rfl, hk⟩
  exact ⟨rfl, hk.below⟩
end Go.Proofs.Ytkbmggclecimeaa
