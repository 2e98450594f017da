/- Proved: for every input TraceOut returns true, and each argument reads behind the call as it read before. Conditions: none. -/
import Derived.Test.YtjihimapopbdpaaRows
import Derived.Test.YtjihimapopbdpaaOutR
import Derived.Lib.SmallJoins
import Derived.WalkKit
import Derived.ProofKit
import Derived.OpenShut
import Derived.ShutString
import Derived.ChangeOld
import Derived.Below
import Derived.SizedLaws
namespace Go.Proofs.Ytjihimapopbdpaa.traceOut
open Go.ChangeShapes Go.WideShapes Go.ChangeAt Go.RowKit
open Go.ChangeMaps (open_string shut_string)
open Go.Joins
set_option linter.unusedVariables false
theorem own : ownKnob Try.prog.godebug = none := by kernel_rfl
set_option maxRecDepth 100000 in
theorem lifted (os : Os) (started : os.Started) (H : Type) (enc : TypeId × Value → H) :
    ReturnsInHanded {} Try.checked os 6 .any (Rows.traceOutSpec.pre6 enc Try.prog Try.f6 Rows.traceOutRow.domain false) (Rows.traceOutSpec.post enc Try.prog Try.f6 false true false false) := by
  refine returnsInHanded_of_change_sized (C := Try.checked) own started (by kernel_rfl) Try.func6
    (ChangeSpec.witness6 (enc := enc) (C := Try.checked) false ⟨#[], #[.agg #[.int .i64 0, .int .u64 0, .string ByteArray.empty], .bool false], []⟩ 8 (by kernel_rfl) (by kernel_rfl) (by kernel_rfl) (by kernel_rfl)) ?_
  intro W base args ds gs before hval0 hW hcnd hsz0 _
  have hsz : (DataW.weightsEach Try.prog (Try.f6.params.toList ++ Rows.traceOutSpec.plain.varTypes Try.prog) (ds ++ gs)).all (· ≤ reachBytes) = true := hsz0
  have hval : ∀ (j : Nat) t v, Try.f6.params[j]? = some t → args[j]? = some v → Value.okWide Try.prog W .any base t v := hval0
  have hW' := hW
  obtain ⟨p, q, hA0, hV, rfl, hfz, hnd⟩ := hW
  have hA : DataW.TrodAll enc Try.prog W 0 (fun _ => true) true Try.f6.params.toList args.toList ds p := hA0
  rw [Try.params6] at hA hval hsz
  obtain ⟨v0, vs0, d0, ds0, p0, q0, hargs, rfl, rfl, h0, r0⟩ := trodAll_cons hA
  obtain ⟨v1, vs1, d1, ds1, p1, q1, rfl, rfl, rfl, h1, r1⟩ := trodAll_cons r0
  obtain ⟨rfl, rfl, rfl⟩ := trodAll_nil r1
  obtain rfl : args = #[v0, v1] := by cases args; simp_all
  obtain ⟨rfl, rfl⟩ := trodVars_none hV
  obtain ⟨b0, c0, d0, yb0, yc0, yd0, n0, rfl, rfl, rfl, tb0, tc0, td0⟩ := open_agg3 Try.underlying38 (by kernel_rfl) (by kernel_rfl) (hval 0 38 v0 rfl rfl) h0
  obtain ⟨a0b, e0b, rfl, w0b⟩ := DataW.trod_int Try.underlying3 tb0
  obtain rfl : b0 = .int .i64 a0b := by simpa using e0b
  obtain ⟨a0c, e0c, rfl, w0c⟩ := DataW.trod_int Try.underlying34 tc0
  obtain rfl : c0 = .int .u64 a0c := by simpa using e0c
  obtain ⟨a0d, e0d, rfl, w0d⟩ := DataW.trod_string Try.underlying9 td0
  obtain rfl : d0 = .string a0d := by simpa using e0d
  obtain ⟨a1, rfl, rfl, rfl⟩ := open_bool Try.underlying4 (hval 1 4 v1 rfl rfl) h1
  clear hA0 hval0 hsz0 hsz
  refine (out_row a0b a0c a0d a1 w0b w0c w0d W).mono fun e W' ⟨he, bel⟩ => ?_
  subst he
  exact ⟨_, rfl, _, _, _, [], _, [], hW', trodAll_mk1 (shut_bool Try.underlying4 _), (trodAll_cons_mk (shut_agg3 Try.underlying38 (by kernel_rfl) (by kernel_rfl) (field_of_Trod (shut_int Try.underlying3 w0b) rfl) (field_of_Trod (shut_int Try.underlying34 w0c) rfl) (field_of_Trod (shut_string Try.underlying9 w0d) rfl)) (trodAll_cons_mk (shut_bool Try.underlying4 _) trodAll_mk0)), rfl, bel.frame _, fun h => by cases h⟩
theorem over : Rows.traceOutRow.holds Try.pinned (OpenSpec.ofChange Rows.traceOutSpec) :=
  OpenClaim.holds_of_wide 6 Try.f6 rfl rfl rfl rfl rfl rfl rfl ⟨rfl, rfl, rfl, rfl, rfl⟩ rfl rfl rfl rfl rfl (by kernel_rfl) Try.func6 (by kernel_rfl)
    (of_decide_eq_true (by kernel_rfl)) (by unfold Func.isWrapper; first | (rw [if_pos (by decide +kernel)]; kernel_rfl) | (rw [if_neg (by decide +kernel)]; exact ⟨rfl, rfl⟩))
    (fun os started H enc _ => lifted os started H enc)
theorem proved : Rows.TraceOutSaid := over
#print axioms proved
end Go.Proofs.Ytjihimapopbdpaa.traceOut
namespace Go.Proofs.Ytjihimapopbdpaa
/-- The row, under a short name, for the claim. -/
theorem traceOut_holds : Rows.TraceOutSaid := traceOut.proved
end Go.Proofs.Ytjihimapopbdpaa
