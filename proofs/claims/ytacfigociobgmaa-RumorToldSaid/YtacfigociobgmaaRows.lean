/-
  No cell of these rows narrows 'for every input' (looked for: loops, veiled, ifaces, maps, wideKeys, modest, calm, conditions, laid).
  DERIVED. THE GIVEN ROWS OF THIS SEAT. 5 by the template 'for every input the law returns true; each argument reads behind the call as it read before'; 0 by the template 'total and deterministic' (their statements: YtacfigociobgmaaTotals.lean).
  GIVEN WITH THE SEED: the statements are not yours to turn. If you find one false, say at which input.
  Laid BY PROGRAM, IN A SANDBOX (cutbox-rows.mjs): the forced cells as the released guide's own fill.sh prints them over the translation fe8fbeef31d543d5… (all of the seat's roots in one cut). By AI agents, Wed Nov 11 2026. No macro, syntax, notation, axiom, sorry.
-/
import Derived.Test.YtacfigociobgmaaChecked
import GoSem.Claim
import GoSem.ClaimJoined
import GoSem.ClaimMapViews
import Derived.JoinedTies
import Derived.KernelRfl
namespace Go.Proofs.Ytacfigociobgmaa
/- THE CELL 'sum', in the pinned program and in every row, IS THE sha256 OF THE DUMP (.gsa) THAT YtacfigociobgmaaProg.lean LOADS. Nothing in Lean hashes anything: it is a label: what it is worth is what the hold of that sum in a sandbox is worth. -/
noncomputable def Try.pinned : Pinned := { name := "ytacfigociobgmaa", sum := "fe8fbeef31d543d566434aecb25645f2e42f66507ccfe68a5cfdefc776304d46", checked := Try.checked }
namespace Rows
def none {H : Type} : Left H := { results := [], args := [] }

/-- 'conventiclelaw08.RumorTold': WHATEVER THE INPUT: true; the input reads as it did. -/
def rumorToldSpec : ChangeSpec := { name := "rumorTold", fn := fun _ => fun
  | [d1, d2, d3] => { results := [.lit (.bool true)], args := [d1, d2, d3] }
  | _ => none }
def rumorToldRow : OpenClaim := { program := "ytacfigociobgmaa", sum := "fe8fbeef31d543d566434aecb25645f2e42f66507ccfe68a5cfdefc776304d46", func := "conventicle/conventiclelaw08.RumorTold", spec := "rumorTold", unfollowed := true, recurses := true, apart := false }
def RumorToldSaid : Prop := rumorToldRow.holds Try.pinned (OpenSpec.ofChange rumorToldSpec)

/-- ITS FALSE NEIGHBOUR: 'it returns false'. Refute it at one input. -/
def rumorToldWrong : ChangeSpec := { name := "rumorTold", fn := fun _ => fun
  | [d1, d2, d3] => { results := [.lit (.bool false)], args := [d1, d2, d3] }
  | _ => none }
def RumorToldWrongFalsely : Prop := rumorToldRow.holds Try.pinned (OpenSpec.ofChange rumorToldWrong)

/-- 'conventiclelaw08.RumorNew': WHATEVER THE INPUT: true; the input reads as it did. -/
def rumorNewSpec : ChangeSpec := { name := "rumorNew", fn := fun _ => fun
  | [d1, d2, d3, d4] => { results := [.lit (.bool true)], args := [d1, d2, d3, d4] }
  | _ => none }
def rumorNewRow : OpenClaim := { program := "ytacfigociobgmaa", sum := "fe8fbeef31d543d566434aecb25645f2e42f66507ccfe68a5cfdefc776304d46", func := "conventicle/conventiclelaw08.RumorNew", spec := "rumorNew", unfollowed := true, recurses := true, apart := false }
def RumorNewSaid : Prop := rumorNewRow.holds Try.pinned (OpenSpec.ofChange rumorNewSpec)

/-- ITS FALSE NEIGHBOUR: 'it returns false'. Refute it at one input. -/
def rumorNewWrong : ChangeSpec := { name := "rumorNew", fn := fun _ => fun
  | [d1, d2, d3, d4] => { results := [.lit (.bool false)], args := [d1, d2, d3, d4] }
  | _ => none }
def RumorNewWrongFalsely : Prop := rumorNewRow.holds Try.pinned (OpenSpec.ofChange rumorNewWrong)

/-- 'conventiclelaw08.RumorRoom': WHATEVER THE INPUT: true; the input reads as it did. -/
def rumorRoomSpec : ChangeSpec := { name := "rumorRoom", fn := fun _ => fun
  | [d] => { results := [.lit (.bool true)], args := [d] }
  | _ => none }
def rumorRoomRow : OpenClaim := { program := "ytacfigociobgmaa", sum := "fe8fbeef31d543d566434aecb25645f2e42f66507ccfe68a5cfdefc776304d46", func := "conventicle/conventiclelaw08.RumorRoom", spec := "rumorRoom", unfollowed := true, recurses := true, apart := false }
def RumorRoomSaid : Prop := rumorRoomRow.holds Try.pinned (OpenSpec.ofChange rumorRoomSpec)

/-- ITS FALSE NEIGHBOUR: 'it returns false'. Refute it at one input. -/
def rumorRoomWrong : ChangeSpec := { name := "rumorRoom", fn := fun _ => fun
  | [d] => { results := [.lit (.bool false)], args := [d] }
  | _ => none }
def RumorRoomWrongFalsely : Prop := rumorRoomRow.holds Try.pinned (OpenSpec.ofChange rumorRoomWrong)

/-- 'conventiclelaw08.RumorTurns': WHATEVER THE INPUT: true; the input reads as it did. -/
def rumorTurnsSpec : ChangeSpec := { name := "rumorTurns", fn := fun _ => fun
  | [d1, d2] => { results := [.lit (.bool true)], args := [d1, d2] }
  | _ => none }
def rumorTurnsRow : OpenClaim := { program := "ytacfigociobgmaa", sum := "fe8fbeef31d543d566434aecb25645f2e42f66507ccfe68a5cfdefc776304d46", func := "conventicle/conventiclelaw08.RumorTurns", spec := "rumorTurns", unfollowed := true, recurses := true, apart := false }
def RumorTurnsSaid : Prop := rumorTurnsRow.holds Try.pinned (OpenSpec.ofChange rumorTurnsSpec)

/-- ITS FALSE NEIGHBOUR: 'it returns false'. Refute it at one input. -/
def rumorTurnsWrong : ChangeSpec := { name := "rumorTurns", fn := fun _ => fun
  | [d1, d2] => { results := [.lit (.bool false)], args := [d1, d2] }
  | _ => none }
def RumorTurnsWrongFalsely : Prop := rumorTurnsRow.holds Try.pinned (OpenSpec.ofChange rumorTurnsWrong)

/-- 'conventiclelaw08.RumorCap': WHATEVER THE INPUT: true; the input reads as it did. -/
def rumorCapSpec : ChangeSpec := { name := "rumorCap", fn := fun _ => fun
  | [d1, d2] => { results := [.lit (.bool true)], args := [d1, d2] }
  | _ => none }
def rumorCapRow : OpenClaim := { program := "ytacfigociobgmaa", sum := "fe8fbeef31d543d566434aecb25645f2e42f66507ccfe68a5cfdefc776304d46", func := "conventicle/conventiclelaw08.RumorCap", spec := "rumorCap", unfollowed := true, recurses := true, apart := false }
def RumorCapSaid : Prop := rumorCapRow.holds Try.pinned (OpenSpec.ofChange rumorCapSpec)

/-- ITS FALSE NEIGHBOUR: 'it returns false'. Refute it at one input. -/
def rumorCapWrong : ChangeSpec := { name := "rumorCap", fn := fun _ => fun
  | [d1, d2] => { results := [.lit (.bool false)], args := [d1, d2] }
  | _ => none }
def RumorCapWrongFalsely : Prop := rumorCapRow.holds Try.pinned (OpenSpec.ofChange rumorCapWrong)

/- THE SECOND FORM. 'bulk': how many values and letters a reading holds, each counted each time it is reached (what is shared counts as often as it is met; a slice's spare places count too). A statement '..UptoSaid' is the law's where the arguments, and the package variables that the reading takes, are together of bulk at most 1048576: NARROWER than '..Said'. Prove '..Said' where nothing that the law and all that it calls make is longer than what came in: it says more and counts as full. Else prove '..UptoSaid'. A law counts once. -/
mutual
def uptoBulk {H : Type} : DataW H → Nat
  | .lit (.string bytes) => bytes.length + 1
  | .lit _ => 1
  | .nil => 1
  | .ptr d => uptoBulk d + 1
  | .slice elems spare => uptoBulkAll elems + uptoBulkAll spare + 1
  | .agg parts => uptoBulkAll parts + 1
  | .iface _ d => uptoBulk d + 1
  | .map entries => uptoBulkEntries entries + 1
  | .held _ => 1
def uptoBulkAll {H : Type} : List (DataW H) → Nat
  | [] => 0
  | d :: r => uptoBulk d + uptoBulkAll r
def uptoBulkEntries {H : Type} : List (Lit × DataW H) → Nat
  | [] => 0
  | x :: r => uptoBulkEntry x + uptoBulkEntries r
def uptoBulkEntry {H : Type} : Lit × DataW H → Nat
  | (.string bytes, d) => bytes.length + uptoBulk d + 1
  | (_, d) => uptoBulk d + 1
 end
def uptoSmall : (H : Type) → List (DataW H) → Bool := fun _ ds => decide (uptoBulkAll ds ≤ 1048576)
def OpenSpec.upto (s : _root_.Go.ChangeSpec) : _root_.Go.OpenSpec := { _root_.Go.OpenSpec.ofChange s with cond := some uptoSmall }

/-- 'conventiclelaw08.RumorTold', WHERE WHAT IT READS IS OF BULK AT MOST 1048576: true; the input reads as it did. -/
def rumorToldUptoRow : OpenClaim := { program := "ytacfigociobgmaa", sum := "fe8fbeef31d543d566434aecb25645f2e42f66507ccfe68a5cfdefc776304d46", func := "conventicle/conventiclelaw08.RumorTold", spec := "rumorTold", unfollowed := true, recurses := true, apart := false, narrowed := true }
def RumorToldUptoSaid : Prop := rumorToldUptoRow.holds Try.pinned (OpenSpec.upto rumorToldSpec)

/-- 'conventiclelaw08.RumorNew', WHERE WHAT IT READS IS OF BULK AT MOST 1048576: true; the input reads as it did. -/
def rumorNewUptoRow : OpenClaim := { program := "ytacfigociobgmaa", sum := "fe8fbeef31d543d566434aecb25645f2e42f66507ccfe68a5cfdefc776304d46", func := "conventicle/conventiclelaw08.RumorNew", spec := "rumorNew", unfollowed := true, recurses := true, apart := false, narrowed := true }
def RumorNewUptoSaid : Prop := rumorNewUptoRow.holds Try.pinned (OpenSpec.upto rumorNewSpec)

/-- 'conventiclelaw08.RumorRoom', WHERE WHAT IT READS IS OF BULK AT MOST 1048576: true; the input reads as it did. -/
def rumorRoomUptoRow : OpenClaim := { program := "ytacfigociobgmaa", sum := "fe8fbeef31d543d566434aecb25645f2e42f66507ccfe68a5cfdefc776304d46", func := "conventicle/conventiclelaw08.RumorRoom", spec := "rumorRoom", unfollowed := true, recurses := true, apart := false, narrowed := true }
def RumorRoomUptoSaid : Prop := rumorRoomUptoRow.holds Try.pinned (OpenSpec.upto rumorRoomSpec)

/-- 'conventiclelaw08.RumorTurns', WHERE WHAT IT READS IS OF BULK AT MOST 1048576: true; the input reads as it did. -/
def rumorTurnsUptoRow : OpenClaim := { program := "ytacfigociobgmaa", sum := "fe8fbeef31d543d566434aecb25645f2e42f66507ccfe68a5cfdefc776304d46", func := "conventicle/conventiclelaw08.RumorTurns", spec := "rumorTurns", unfollowed := true, recurses := true, apart := false, narrowed := true }
def RumorTurnsUptoSaid : Prop := rumorTurnsUptoRow.holds Try.pinned (OpenSpec.upto rumorTurnsSpec)

/-- 'conventiclelaw08.RumorCap', WHERE WHAT IT READS IS OF BULK AT MOST 1048576: true; the input reads as it did. -/
def rumorCapUptoRow : OpenClaim := { program := "ytacfigociobgmaa", sum := "fe8fbeef31d543d566434aecb25645f2e42f66507ccfe68a5cfdefc776304d46", func := "conventicle/conventiclelaw08.RumorCap", spec := "rumorCap", unfollowed := true, recurses := true, apart := false, narrowed := true }
def RumorCapUptoSaid : Prop := rumorCapUptoRow.holds Try.pinned (OpenSpec.upto rumorCapSpec)

end Rows
end Go.Proofs.Ytacfigociobgmaa
