/-
  No cell of these rows narrows 'for every input' (looked for: loops, veiled, ifaces, maps, wideKeys, modest, calm, conditions, laid).
  DERIVED. THE GIVEN ROWS OF THIS SEAT. 5 by the template 'for every input the law returns true; each argument reads behind the call as it read before'; 0 by the template 'total and deterministic' (their statements: YtojnmbpicmgcpaaTotals.lean).
  GIVEN WITH THE SEED: the statements are not yours to turn. If you find one false, say at which input.
  Laid BY PROGRAM, IN A SANDBOX (cutbox-rows.mjs): the forced cells as the released guide's own fill.sh prints them over the translation 42dc60ff13ab8f6d… (all of the seat's roots in one cut). By AI agents, Wed Nov 11 2026. No macro, syntax, notation, axiom, sorry.
-/
import Derived.Test.YtojnmbpicmgcpaaChecked
import GoSem.Claim
import GoSem.ClaimJoined
import GoSem.ClaimMapViews
import Derived.JoinedTies
import Derived.KernelRfl
namespace Go.Proofs.Ytojnmbpicmgcpaa
/- THE CELL 'sum', in the pinned program and in every row, IS THE sha256 OF THE DUMP (.gsa) THAT YtojnmbpicmgcpaaProg.lean LOADS. Nothing in Lean hashes anything: it is a label: what it is worth is what the hold of that sum in a sandbox is worth. -/
noncomputable def Try.pinned : Pinned := { name := "ytojnmbpicmgcpaa", sum := "42dc60ff13ab8f6dfeb91915d753b2fc208ad8663a950a215688749367396d96", checked := Try.checked }
namespace Rows
def none {H : Type} : Left H := { results := [], args := [] }

/-- 'conventiclelaw10.DoubtActs': WHATEVER THE INPUT: true; the input reads as it did. -/
def doubtActsSpec : ChangeSpec := { name := "doubtActs", fn := fun _ => fun
  | [d] => { results := [.lit (.bool true)], args := [d] }
  | _ => none }
def doubtActsRow : OpenClaim := { program := "ytojnmbpicmgcpaa", sum := "42dc60ff13ab8f6dfeb91915d753b2fc208ad8663a950a215688749367396d96", func := "conventicle/conventiclelaw10.DoubtActs", spec := "doubtActs", inPlace := ["math.archCeil", "math.archFloor", "math.Float64bits", "math.Float64frombits", "math.archTrunc", "math/bits.Add64"], unfollowed := true, recurses := true, apart := false }
def DoubtActsSaid : Prop := doubtActsRow.holds Try.pinned (OpenSpec.ofChange doubtActsSpec)

/-- ITS FALSE NEIGHBOUR: 'it returns false'. Refute it at one input. -/
def doubtActsWrong : ChangeSpec := { name := "doubtActs", fn := fun _ => fun
  | [d] => { results := [.lit (.bool false)], args := [d] }
  | _ => none }
def DoubtActsWrongFalsely : Prop := doubtActsRow.holds Try.pinned (OpenSpec.ofChange doubtActsWrong)

/-- 'conventiclelaw10.DoubtSooner': WHATEVER THE INPUT: true; the input reads as it did. -/
def doubtSoonerSpec : ChangeSpec := { name := "doubtSooner", fn := fun _ => fun
  | [d1, d2, d3, d4] => { results := [.lit (.bool true)], args := [d1, d2, d3, d4] }
  | _ => none }
def doubtSoonerRow : OpenClaim := { program := "ytojnmbpicmgcpaa", sum := "42dc60ff13ab8f6dfeb91915d753b2fc208ad8663a950a215688749367396d96", func := "conventicle/conventiclelaw10.DoubtSooner", spec := "doubtSooner", inPlace := ["math.archCeil", "math.archFloor", "math.Float64bits", "math.Float64frombits", "math.archTrunc", "math/bits.Add64"], unfollowed := true, recurses := true, apart := false }
def DoubtSoonerSaid : Prop := doubtSoonerRow.holds Try.pinned (OpenSpec.ofChange doubtSoonerSpec)

/-- ITS FALSE NEIGHBOUR: 'it returns false'. Refute it at one input. -/
def doubtSoonerWrong : ChangeSpec := { name := "doubtSooner", fn := fun _ => fun
  | [d1, d2, d3, d4] => { results := [.lit (.bool false)], args := [d1, d2, d3, d4] }
  | _ => none }
def DoubtSoonerWrongFalsely : Prop := doubtSoonerRow.holds Try.pinned (OpenSpec.ofChange doubtSoonerWrong)

/-- 'conventiclelaw10.DoubtOnce': WHATEVER THE INPUT: true; the input reads as it did. -/
def doubtOnceSpec : ChangeSpec := { name := "doubtOnce", fn := fun _ => fun
  | [d1, d2, d3] => { results := [.lit (.bool true)], args := [d1, d2, d3] }
  | _ => none }
def doubtOnceRow : OpenClaim := { program := "ytojnmbpicmgcpaa", sum := "42dc60ff13ab8f6dfeb91915d753b2fc208ad8663a950a215688749367396d96", func := "conventicle/conventiclelaw10.DoubtOnce", spec := "doubtOnce", inPlace := ["math.archCeil", "math.archFloor", "math.Float64bits", "math.Float64frombits", "math.archTrunc", "math/bits.Add64"], unfollowed := true, recurses := true, apart := false }
def DoubtOnceSaid : Prop := doubtOnceRow.holds Try.pinned (OpenSpec.ofChange doubtOnceSpec)

/-- ITS FALSE NEIGHBOUR: 'it returns false'. Refute it at one input. -/
def doubtOnceWrong : ChangeSpec := { name := "doubtOnce", fn := fun _ => fun
  | [d1, d2, d3] => { results := [.lit (.bool false)], args := [d1, d2, d3] }
  | _ => none }
def DoubtOnceWrongFalsely : Prop := doubtOnceRow.holds Try.pinned (OpenSpec.ofChange doubtOnceWrong)

/-- 'conventiclelaw10.DoubtNew': WHATEVER THE INPUT: true; the input reads as it did. -/
def doubtNewSpec : ChangeSpec := { name := "doubtNew", fn := fun _ => fun
  | [d1, d2, d3, d4] => { results := [.lit (.bool true)], args := [d1, d2, d3, d4] }
  | _ => none }
def doubtNewRow : OpenClaim := { program := "ytojnmbpicmgcpaa", sum := "42dc60ff13ab8f6dfeb91915d753b2fc208ad8663a950a215688749367396d96", func := "conventicle/conventiclelaw10.DoubtNew", spec := "doubtNew", inPlace := ["math.archCeil", "math.archFloor", "math.Float64bits", "math.Float64frombits", "math.archTrunc", "math/bits.Add64"], unfollowed := true, recurses := true, apart := false }
def DoubtNewSaid : Prop := doubtNewRow.holds Try.pinned (OpenSpec.ofChange doubtNewSpec)

/-- ITS FALSE NEIGHBOUR: 'it returns false'. Refute it at one input. -/
def doubtNewWrong : ChangeSpec := { name := "doubtNew", fn := fun _ => fun
  | [d1, d2, d3, d4] => { results := [.lit (.bool false)], args := [d1, d2, d3, d4] }
  | _ => none }
def DoubtNewWrongFalsely : Prop := doubtNewRow.holds Try.pinned (OpenSpec.ofChange doubtNewWrong)

/-- 'conventiclelaw10.DoubtArgs': WHATEVER THE INPUT: true; the input reads as it did. -/
def doubtArgsSpec : ChangeSpec := { name := "doubtArgs", fn := fun _ => fun
  | [d1, d2, d3, d4, d5] => { results := [.lit (.bool true)], args := [d1, d2, d3, d4, d5] }
  | _ => none }
def doubtArgsRow : OpenClaim := { program := "ytojnmbpicmgcpaa", sum := "42dc60ff13ab8f6dfeb91915d753b2fc208ad8663a950a215688749367396d96", func := "conventicle/conventiclelaw10.DoubtArgs", spec := "doubtArgs", inPlace := ["math.archCeil", "math.archFloor", "math.Float64bits", "math.Float64frombits", "math.archTrunc", "math/bits.Add64"], unfollowed := true, recurses := true, apart := false }
def DoubtArgsSaid : Prop := doubtArgsRow.holds Try.pinned (OpenSpec.ofChange doubtArgsSpec)

/-- ITS FALSE NEIGHBOUR: 'it returns false'. Refute it at one input. -/
def doubtArgsWrong : ChangeSpec := { name := "doubtArgs", fn := fun _ => fun
  | [d1, d2, d3, d4, d5] => { results := [.lit (.bool false)], args := [d1, d2, d3, d4, d5] }
  | _ => none }
def DoubtArgsWrongFalsely : Prop := doubtArgsRow.holds Try.pinned (OpenSpec.ofChange doubtArgsWrong)

/- THE SECOND FORM. 'bulk': how many values and letters a reading holds, each counted each time it is reached (what is shared counts as often as it is met; a slice's spare places count too). A statement '..UptoSaid' is the law's where the arguments, and the package variables that the reading takes, are together of bulk at most 1048576: NARROWER than '..Said'. Prove '..Said' where nothing that the law and all that it calls make is longer than what came in: it says more and counts as full. Else prove '..UptoSaid'. A law counts once. -/
mutual
def uptoBulk {H : Type} : DataW H → Nat
  | .lit (.string bytes) => bytes.length + 1
  | .lit _ => 1
  | .nil => 1
  | .ptr d => uptoBulk d + 1
  | .slice elems spare => uptoBulkAll elems + uptoBulkAll spare + 1
  | .agg parts => uptoBulkAll parts + 1
  | .iface _ d => uptoBulk d + 1
  | .map entries => uptoBulkEntries entries + 1
  | .held _ => 1
def uptoBulkAll {H : Type} : List (DataW H) → Nat
  | [] => 0
  | d :: r => uptoBulk d + uptoBulkAll r
def uptoBulkEntries {H : Type} : List (Lit × DataW H) → Nat
  | [] => 0
  | x :: r => uptoBulkEntry x + uptoBulkEntries r
def uptoBulkEntry {H : Type} : Lit × DataW H → Nat
  | (.string bytes, d) => bytes.length + uptoBulk d + 1
  | (_, d) => uptoBulk d + 1
 end
def uptoSmall : (H : Type) → List (DataW H) → Bool := fun _ ds => decide (uptoBulkAll ds ≤ 1048576)
def OpenSpec.upto (s : _root_.Go.ChangeSpec) : _root_.Go.OpenSpec := { _root_.Go.OpenSpec.ofChange s with cond := some uptoSmall }

/-- 'conventiclelaw10.DoubtActs', WHERE WHAT IT READS IS OF BULK AT MOST 1048576: true; the input reads as it did. -/
def doubtActsUptoRow : OpenClaim := { program := "ytojnmbpicmgcpaa", sum := "42dc60ff13ab8f6dfeb91915d753b2fc208ad8663a950a215688749367396d96", func := "conventicle/conventiclelaw10.DoubtActs", spec := "doubtActs", inPlace := ["math.archCeil", "math.archFloor", "math.Float64bits", "math.Float64frombits", "math.archTrunc", "math/bits.Add64"], unfollowed := true, recurses := true, apart := false, narrowed := true }
def DoubtActsUptoSaid : Prop := doubtActsUptoRow.holds Try.pinned (OpenSpec.upto doubtActsSpec)

/-- 'conventiclelaw10.DoubtSooner', WHERE WHAT IT READS IS OF BULK AT MOST 1048576: true; the input reads as it did. -/
def doubtSoonerUptoRow : OpenClaim := { program := "ytojnmbpicmgcpaa", sum := "42dc60ff13ab8f6dfeb91915d753b2fc208ad8663a950a215688749367396d96", func := "conventicle/conventiclelaw10.DoubtSooner", spec := "doubtSooner", inPlace := ["math.archCeil", "math.archFloor", "math.Float64bits", "math.Float64frombits", "math.archTrunc", "math/bits.Add64"], unfollowed := true, recurses := true, apart := false, narrowed := true }
def DoubtSoonerUptoSaid : Prop := doubtSoonerUptoRow.holds Try.pinned (OpenSpec.upto doubtSoonerSpec)

/-- 'conventiclelaw10.DoubtOnce', WHERE WHAT IT READS IS OF BULK AT MOST 1048576: true; the input reads as it did. -/
def doubtOnceUptoRow : OpenClaim := { program := "ytojnmbpicmgcpaa", sum := "42dc60ff13ab8f6dfeb91915d753b2fc208ad8663a950a215688749367396d96", func := "conventicle/conventiclelaw10.DoubtOnce", spec := "doubtOnce", inPlace := ["math.archCeil", "math.archFloor", "math.Float64bits", "math.Float64frombits", "math.archTrunc", "math/bits.Add64"], unfollowed := true, recurses := true, apart := false, narrowed := true }
def DoubtOnceUptoSaid : Prop := doubtOnceUptoRow.holds Try.pinned (OpenSpec.upto doubtOnceSpec)

/-- 'conventiclelaw10.DoubtNew', WHERE WHAT IT READS IS OF BULK AT MOST 1048576: true; the input reads as it did. -/
def doubtNewUptoRow : OpenClaim := { program := "ytojnmbpicmgcpaa", sum := "42dc60ff13ab8f6dfeb91915d753b2fc208ad8663a950a215688749367396d96", func := "conventicle/conventiclelaw10.DoubtNew", spec := "doubtNew", inPlace := ["math.archCeil", "math.archFloor", "math.Float64bits", "math.Float64frombits", "math.archTrunc", "math/bits.Add64"], unfollowed := true, recurses := true, apart := false, narrowed := true }
def DoubtNewUptoSaid : Prop := doubtNewUptoRow.holds Try.pinned (OpenSpec.upto doubtNewSpec)

/-- 'conventiclelaw10.DoubtArgs', WHERE WHAT IT READS IS OF BULK AT MOST 1048576: true; the input reads as it did. -/
def doubtArgsUptoRow : OpenClaim := { program := "ytojnmbpicmgcpaa", sum := "42dc60ff13ab8f6dfeb91915d753b2fc208ad8663a950a215688749367396d96", func := "conventicle/conventiclelaw10.DoubtArgs", spec := "doubtArgs", inPlace := ["math.archCeil", "math.archFloor", "math.Float64bits", "math.Float64frombits", "math.archTrunc", "math/bits.Add64"], unfollowed := true, recurses := true, apart := false, narrowed := true }
def DoubtArgsUptoSaid : Prop := doubtArgsUptoRow.holds Try.pinned (OpenSpec.upto doubtArgsSpec)

end Rows
end Go.Proofs.Ytojnmbpicmgcpaa
