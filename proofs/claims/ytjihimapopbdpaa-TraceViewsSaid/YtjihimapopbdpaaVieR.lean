/- TraceViews, as the row asks for it. -/
import Derived.Test.YtjihimapopbdpaaBegR
import Derived.Test.YtjihimapopbdpaaVieW
namespace Go.Proofs.Ytjihimapopbdpaa
open Go.RowKit Sh
set_option linter.unusedVariables false
theorem views_row (a0b a0c a1b a1c a2 : Int) (w0b : (Lit.int .u64 a0b).wf = true) (w0c : (Lit.int .u64 a0c).wf = true) (w1b : (Lit.int .u64 a1b).wf = true) (w1c : (Lit.int .u64 a1c).wf = true) (w2 : (Lit.int .u8 a2).wf = true) (w : World) :
    Calls Try.prog 5 #[.agg #[.int .u64 a0b, .int .u64 a0c], .agg #[.int .u64 a1b, .int .u64 a1c], .int .u8 a2] w fun e w' => e = .returned (.bool true) ∧ Below w.heap.size w w' := by
  obtain ⟨r0, r1⟩ := u8_of_wf w2
  obtain ⟨x0, x1⟩ := u64_of_wf w0b
  obtain ⟨x2, x3⟩ := u64_of_wf w0c
  obtain ⟨x4, x5⟩ := u64_of_wf w1c
  refine (views_walk ⟨a0b, a0c⟩ ⟨a1b, a1c⟩ a2 r0 r1 x0 x1 x2 x3 x4 x5).mono ?_
  rintro e w' ⟨rfl, hk⟩
  exact ⟨rfl, hk.below⟩
end Go.Proofs.Ytjihimapopbdpaa
