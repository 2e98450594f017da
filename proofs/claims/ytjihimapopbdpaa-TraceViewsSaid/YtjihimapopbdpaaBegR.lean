/- TraceBegins, as the row asks for it. -/
import Derived.Test.YtjihimapopbdpaaRowE
import Derived.Test.YtjihimapopbdpaaBegW
namespace Go.Proofs.Ytjihimapopbdpaa
open Go.RowKit Sh
set_option linter.unusedVariables false
theorem u8_of_wf {n : Int} (h : (Lit.int .u8 n).wf = true) : 0 ≤ n ∧ n ≤ 255 := by
  simp [Lit.wf] at h
  exact h
theorem begins_row (a0 : Option Addr) (len0 cap0 : Nat) (z0 : List Ent) (a1 : Int) (w : World) (w0 : IsEs w (.slice a0 len0 cap0) z0) (y0 : ∀ e ∈ z0, EOk e) (w1 : (Lit.int .u8 a1).wf = true) :
    Calls Try.prog 4 #[.slice a0 len0 cap0, .int .u8 a1] w fun e w' => e = .returned (.bool true) ∧ Below w.heap.size w w' := by
  obtain ⟨r0, r1⟩ := u8_of_wf w1
  refine (begins_walk w0 a1 r0 r1).mono ?_
  rintro e w' ⟨rfl, hk⟩
  exact ⟨rfl, hk.below⟩
end Go.Proofs.Ytjihimapopbdpaa
