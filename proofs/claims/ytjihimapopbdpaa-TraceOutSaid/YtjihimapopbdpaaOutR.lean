/- TraceOut, as the row asks for it. -/
import Derived.Test.YtjihimapopbdpaaOutW
namespace Go.Proofs.Ytjihimapopbdpaa
open Go.RowKit Sh
set_option linter.unusedVariables false
theorem out_row (a0b a0c : Int) (a0d : ByteArray) (a1 : Bool) (w0b : (Lit.int .i64 a0b).wf = true) (w0c : (Lit.int .u64 a0c).wf = true) (w0d : a0d.size ≤ maxLen) (w : World) :
    Calls Try.prog 6 #[.agg #[.int .i64 a0b, .int .u64 a0c, .string a0d], .bool a1] w fun e w' => e = .returned (.bool true) ∧ Below w.heap.size w w' := by
  refine (out_walk a0b a0c a0d a1).mono ?_
  rintro e w' ⟨rfl, hk⟩
  exact ⟨rfl, hk.below⟩
end Go.Proofs.Ytjihimapopbdpaa
