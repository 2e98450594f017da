/- ShelfArgs, as the row asks for it. -/
import Derived.Test.YtkbmggclecimeaaArgsW
namespace Go.Proofs.Ytkbmggclecimeaa
open Go.RowKit Sh
set_option linter.unusedVariables false
theorem bounds_u64 {n : Int} (h : (Lit.int .u64 n).wf = true) : 0 ≤ n ∧ n < 18446744073709551616 := by
  simp [Lit.wf] at h
  simp only [show IntKind.u64.min = 0 from rfl, show IntKind.u64.max = 18446744073709551615 from by decide] at h
  omega
theorem args_row (n : Int) (text : ByteArray) (w0 : (Lit.int .u64 n).wf = true) (w1 : text.size ≤ 140737488351232) (w : World) :
    Calls Try.prog 13 #[.int .u64 n, .string text] w fun e w' => e = .returned (.bool true) ∧ Below w.heap.size w w' := by
  obtain ⟨a, b⟩ := bounds_u64 w0
  refine (args_walk n text a b w).mono ?_
  rintro e w' ⟨rfl, hk⟩
  exact ⟨rfl, hk.below⟩
end Go.Proofs.Ytkbmggclecimeaa
