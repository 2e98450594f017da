/- Proved: for every input TraceViews returns true, and each argument reads behind the call as it read before. Conditions: none. -/
import Derived.Test.YtjihimapopbdpaaRows
import Derived.Test.YtjihimapopbdpaaVieR
import Derived.Lib.SmallJoins
import Derived.WalkKit
import Derived.ProofKit
import Derived.OpenShut
import Derived.ShutString
import Derived.ChangeOld
import Derived.Below
import Derived.SizedLaws
namespace Go.Proofs.Ytjihimapopbdpaa.traceViews
open Go.ChangeShapes Go.WideShapes Go.ChangeAt Go.RowKit
open Go.ChangeMaps (open_string shut_string)
open Go.Joins
set_option linter.unusedVariables false
theorem own : ownKnob Try.prog.godebug = none := by kernel_rfl
set_option maxRecDepth 100000 in
theorem lifted (os : Os) (started : os.Started) (H : Type) (enc : TypeId × Value → H) :
    ReturnsInHanded {} Try.checked os 5 .any (Rows.traceViewsSpec.pre6 enc Try.prog Try.f5 Rows.traceViewsRow.domain false) (Rows.traceViewsSpec.post enc Try.prog Try.f5 false true false false) := by
  refine returnsInHanded_of_change_sized (C := Try.checked) own started (by kernel_rfl) Try.func5
    (ChangeSpec.witness6 (enc := enc) (C := Try.checked) false ⟨#[], #[.agg #[.int .u64 0, .int .u64 0], .agg #[.int .u64 0, .int .u64 0], .int .u8 0], []⟩ 8 (by kernel_rfl) (by kernel_rfl) (by kernel_rfl) (by kernel_rfl)) ?_
  intro W base args ds gs before hval0 hW hcnd hsz0 _
  have hsz : (DataW.weightsEach Try.prog (Try.f5.params.toList ++ Rows.traceViewsSpec.plain.varTypes Try.prog) (ds ++ gs)).all (· ≤ reachBytes) = true := hsz0
  have hval : ∀ (j : Nat) t v, Try.f5.params[j]? = some t → args[j]? = some v → Value.okWide Try.prog W .any base t v := hval0
  have hW' := hW
  obtain ⟨p, q, hA0, hV, rfl, hfz, hnd⟩ := hW
  have hA : DataW.TrodAll enc Try.prog W 0 (fun _ => true) true Try.f5.params.toList args.toList ds p := hA0
  rw [Try.params5] at hA hval hsz
  obtain ⟨v0, vs0, d0, ds0, p0, q0, hargs, rfl, rfl, h0, r0⟩ := trodAll_cons hA
  obtain ⟨v1, vs1, d1, ds1, p1, q1, rfl, rfl, rfl, h1, r1⟩ := trodAll_cons r0
  obtain ⟨v2, vs2, d2, ds2, p2, q2, rfl, rfl, rfl, h2, r2⟩ := trodAll_cons r1
  obtain ⟨rfl, rfl, rfl⟩ := trodAll_nil r2
  obtain rfl : args = #[v0, v1, v2] := by cases args; simp_all
  obtain ⟨rfl, rfl⟩ := trodVars_none hV
  obtain ⟨b0, c0, yb0, yc0, n0, rfl, rfl, rfl, tb0, tc0⟩ := open_agg2 Try.underlying36 (by kernel_rfl) (by kernel_rfl) (hval 0 36 v0 rfl rfl) h0
  obtain ⟨a0b, e0b, rfl, w0b⟩ := DataW.trod_int Try.underlying34 tb0
  obtain rfl : b0 = .int .u64 a0b := by simpa using e0b
  obtain ⟨a0c, e0c, rfl, w0c⟩ := DataW.trod_int Try.underlying34 tc0
  obtain rfl : c0 = .int .u64 a0c := by simpa using e0c
  obtain ⟨b1, c1, yb1, yc1, n1, rfl, rfl, rfl, tb1, tc1⟩ := open_agg2 Try.underlying36 (by kernel_rfl) (by kernel_rfl) (hval 1 36 v1 rfl rfl) h1
  obtain ⟨a1b, e1b, rfl, w1b⟩ := DataW.trod_int Try.underlying34 tb1
  obtain rfl : b1 = .int .u64 a1b := by simpa using e1b
  obtain ⟨a1c, e1c, rfl, w1c⟩ := DataW.trod_int Try.underlying34 tc1
  obtain rfl : c1 = .int .u64 a1c := by simpa using e1c
  obtain ⟨a2, rfl, rfl, rfl, w2⟩ := open_int Try.underlying5 (hval 2 5 v2 rfl rfl) h2
  clear hA0 hval0 hsz0 hsz
  refine (views_row a0b a0c a1b a1c a2 w0b w0c w1b w1c w2 W).mono fun e W' ⟨he, bel⟩ => ?_
  subst he
  exact ⟨_, rfl, _, _, _, [], _, [], hW', trodAll_mk1 (shut_bool Try.underlying4 _), (trodAll_cons_mk (shut_agg2 Try.underlying36 (by kernel_rfl) (by kernel_rfl) (field_of_Trod (shut_int Try.underlying34 w0b) rfl) (field_of_Trod (shut_int Try.underlying34 w0c) rfl)) (trodAll_cons_mk (shut_agg2 Try.underlying36 (by kernel_rfl) (by kernel_rfl) (field_of_Trod (shut_int Try.underlying34 w1b) rfl) (field_of_Trod (shut_int Try.underlying34 w1c) rfl)) (trodAll_cons_mk (shut_int Try.underlying5 w2) trodAll_mk0))), rfl, bel.frame _, fun h => by cases h⟩
theorem over : Rows.traceViewsRow.holds Try.pinned (OpenSpec.ofChange Rows.traceViewsSpec) :=
  OpenClaim.holds_of_wide 5 Try.f5 rfl rfl rfl rfl rfl rfl rfl ⟨rfl, rfl, rfl, rfl, rfl⟩ rfl rfl rfl rfl rfl (by kernel_rfl) Try.func5 (by kernel_rfl)
    (of_decide_eq_true (by kernel_rfl)) (by unfold Func.isWrapper; first | (rw [if_pos (by decide +kernel)]; kernel_rfl) | (rw [if_neg (by decide +kernel)]; exact ⟨rfl, rfl⟩))
    (fun os started H enc _ => lifted os started H enc)
theorem proved : Rows.TraceViewsSaid := over
#print axioms proved
end Go.Proofs.Ytjihimapopbdpaa.traceViews
namespace Go.Proofs.Ytjihimapopbdpaa
/-- The row, under a short name, for the claim. -/
theorem traceViews_holds : Rows.TraceViewsSaid := traceViews.proved
end Go.Proofs.Ytjihimapopbdpaa
