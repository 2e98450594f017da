/- SpanMay, as the row asks for it. -/
import Derived.Test.YtkbmggclecimeaaLawE
namespace Go.Proofs.Ytkbmggclecimeaa
open Go.RowKit Go.ChangeShapes Go.WideShapes
set_option linter.unusedVariables false
theorem wf_u64 {n : Int} (h : (Lit.int .u64 n).wf = true) : 0 ≤ n ∧ n < 18446744073709551616 := by
  simp [Lit.wf] at h
  simp only [show IntKind.u64.min = 0 from rfl, show IntKind.u64.max = 18446744073709551615 from by decide] at h
  omega
theorem may_row (a0 a1 b0 b1 : Int) (w0 : (Lit.int .u64 a0).wf = true) (w1 : (Lit.int .u64 a1).wf = true) (w2 : (Lit.int .u64 b0).wf = true) (w3 : (Lit.int .u64 b1).wf = true) (w : World) :
    Calls Try.prog 11 #[.agg #[.int .u64 a0, .int .u64 a1], .agg #[.int .u64 b0, .int .u64 b1]] w fun e w' => e = .returned (.bool true) ∧ Below w.heap.size w w' := by
  refine (mayLaw_walk a0 a1 b0 b1 (wf_u64 w0) (wf_u64 w1) (wf_u64 w2) (wf_u64 w3) w).mono ?_
  rintro e w' ⟨rfl, hk⟩
  exact ⟨rfl, hk.below⟩
end Go.Proofs.Ytkbmggclecimeaa
