/- ShelfKeeps, as the row asks for it. -/
import Derived.Test.YtkbmggclecimeaaSizeM
import Derived.Test.YtkbmggclecimeaaKeepW
namespace Go.Proofs.Ytkbmggclecimeaa
open Go.RowKit Go.ChangeShapes Go.WideShapes
set_option linter.unusedVariables false
theorem keeps_row (a0 : Option Addr) (len0 cap0 : Nat) (z0 : List Int) (a1 : Option Addr) (len1 cap1 : Nat) (z1 : List Int) (w : World) (w0 : IsRow .u8 w a0 len0 cap0 z0) (y0 : len0 * 1 ≤ 140737488351232) (w1 : IsRow .u8 w a1 len1 cap1 z1) (y1 : len1 * 1 ≤ 140737488351232) :
    Calls Try.prog 3 #[.slice a0 len0 cap0, .slice a1 len1 cap1] w fun e w' => e = .returned (.bool true) ∧ Below w.heap.size w w' := by
  obtain ⟨b0, h0⟩ := IsB.ofRow w0 y0
  obtain ⟨b1, h1⟩ := IsB.ofRow w1 y1
  refine (keeps_walk h0 h1).mono ?_
  rintro e w' ⟨rfl, hk⟩
  exact ⟨rfl, hk.below⟩
end Go.Proofs.Ytkbmggclecimeaa
