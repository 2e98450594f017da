/-
  No cell of these rows narrows 'for every input' (looked for: loops, veiled, ifaces, maps, wideKeys, modest, calm, conditions, laid).
  DERIVED. THE GIVEN ROWS OF THIS SEAT. 12 by the template 'for every input the law returns true; each argument reads behind the call as it read before'; 0 by the template 'total and deterministic' (their statements: YtkbmggclecimeaaTotals.lean).
  GIVEN WITH THE SEED: the statements are not yours to turn. If you find one false, say at which input.
  Laid BY PROGRAM, IN A SANDBOX (cutbox-rows.mjs): the forced cells as the released guide's own fill.sh prints them over the translation 522d4885c5f2acf0… (all of the seat's roots in one cut). By AI agents, Wed Nov 11 2026. No macro, syntax, notation, axiom, sorry.
-/
import Derived.Test.YtkbmggclecimeaaChecked
import GoSem.Claim
import GoSem.ClaimJoined
import GoSem.ClaimMapViews
import Derived.JoinedTies
import Derived.KernelRfl
namespace Go.Proofs.Ytkbmggclecimeaa
/- THE CELL 'sum', in the pinned program and in every row, IS THE sha256 OF THE DUMP (.gsa) THAT YtkbmggclecimeaaProg.lean LOADS. Nothing in Lean hashes anything: it is a label: what it is worth is what the hold of that sum in a sandbox is worth. -/
noncomputable def Try.pinned : Pinned := { name := "ytkbmggclecimeaa", sum := "522d4885c5f2acf0a983cf3e17a82cb8212896242792a51cadc0261e17d165dd", checked := Try.checked }
namespace Rows
def none {H : Type} : Left H := { results := [], args := [] }

/-- 'conventiclelaw13.ShelfKeeps': WHATEVER THE INPUT: true; the input reads as it did. -/
def shelfKeepsSpec : ChangeSpec := { name := "shelfKeeps", fn := fun _ => fun
  | [d1, d2] => { results := [.lit (.bool true)], args := [d1, d2] }
  | _ => none }
def shelfKeepsRow : OpenClaim := { program := "ytkbmggclecimeaa", sum := "522d4885c5f2acf0a983cf3e17a82cb8212896242792a51cadc0261e17d165dd", func := "conventicle/conventiclelaw13.ShelfKeeps", spec := "shelfKeeps", apart := false }
def ShelfKeepsSaid : Prop := shelfKeepsRow.holds Try.pinned (OpenSpec.ofChange shelfKeepsSpec)

/-- ITS FALSE NEIGHBOUR: 'it returns false'. Refute it at one input. -/
def shelfKeepsWrong : ChangeSpec := { name := "shelfKeeps", fn := fun _ => fun
  | [d1, d2] => { results := [.lit (.bool false)], args := [d1, d2] }
  | _ => none }
def ShelfKeepsWrongFalsely : Prop := shelfKeepsRow.holds Try.pinned (OpenSpec.ofChange shelfKeepsWrong)

/-- 'conventiclelaw13.ShelfTrims': WHATEVER THE INPUT: true; the input reads as it did. -/
def shelfTrimsSpec : ChangeSpec := { name := "shelfTrims", fn := fun _ => fun
  | [d1, d2] => { results := [.lit (.bool true)], args := [d1, d2] }
  | _ => none }
def shelfTrimsRow : OpenClaim := { program := "ytkbmggclecimeaa", sum := "522d4885c5f2acf0a983cf3e17a82cb8212896242792a51cadc0261e17d165dd", func := "conventicle/conventiclelaw13.ShelfTrims", spec := "shelfTrims", apart := false }
def ShelfTrimsSaid : Prop := shelfTrimsRow.holds Try.pinned (OpenSpec.ofChange shelfTrimsSpec)

/-- ITS FALSE NEIGHBOUR: 'it returns false'. Refute it at one input. -/
def shelfTrimsWrong : ChangeSpec := { name := "shelfTrims", fn := fun _ => fun
  | [d1, d2] => { results := [.lit (.bool false)], args := [d1, d2] }
  | _ => none }
def ShelfTrimsWrongFalsely : Prop := shelfTrimsRow.holds Try.pinned (OpenSpec.ofChange shelfTrimsWrong)

/-- 'conventiclelaw14.MendLack': WHATEVER THE INPUT: true; the input reads as it did. -/
def mendLackSpec : ChangeSpec := { name := "mendLack", fn := fun _ => fun
  | [d1, d2, d3] => { results := [.lit (.bool true)], args := [d1, d2, d3] }
  | _ => none }
def mendLackRow : OpenClaim := { program := "ytkbmggclecimeaa", sum := "522d4885c5f2acf0a983cf3e17a82cb8212896242792a51cadc0261e17d165dd", func := "conventicle/conventiclelaw14.MendLack", spec := "mendLack", unfollowed := true, recurses := true, apart := false }
def MendLackSaid : Prop := mendLackRow.holds Try.pinned (OpenSpec.ofChange mendLackSpec)

/-- ITS FALSE NEIGHBOUR: 'it returns false'. Refute it at one input. -/
def mendLackWrong : ChangeSpec := { name := "mendLack", fn := fun _ => fun
  | [d1, d2, d3] => { results := [.lit (.bool false)], args := [d1, d2, d3] }
  | _ => none }
def MendLackWrongFalsely : Prop := mendLackRow.holds Try.pinned (OpenSpec.ofChange mendLackWrong)

/-- 'conventiclelaw12.SpanBoth': WHATEVER THE INPUT: true; the input reads as it did. -/
def spanBothSpec : ChangeSpec := { name := "spanBoth", fn := fun _ => fun
  | [d1, d2, d3] => { results := [.lit (.bool true)], args := [d1, d2, d3] }
  | _ => none }
def spanBothRow : OpenClaim := { program := "ytkbmggclecimeaa", sum := "522d4885c5f2acf0a983cf3e17a82cb8212896242792a51cadc0261e17d165dd", func := "conventicle/conventiclelaw12.SpanBoth", spec := "spanBoth", unfollowed := true, recurses := true, apart := false }
def SpanBothSaid : Prop := spanBothRow.holds Try.pinned (OpenSpec.ofChange spanBothSpec)

/-- ITS FALSE NEIGHBOUR: 'it returns false'. Refute it at one input. -/
def spanBothWrong : ChangeSpec := { name := "spanBoth", fn := fun _ => fun
  | [d1, d2, d3] => { results := [.lit (.bool false)], args := [d1, d2, d3] }
  | _ => none }
def SpanBothWrongFalsely : Prop := spanBothRow.holds Try.pinned (OpenSpec.ofChange spanBothWrong)

/-- 'conventiclelaw12.SpanSets': WHATEVER THE INPUT: true; the input reads as it did. -/
def spanSetsSpec : ChangeSpec := { name := "spanSets", fn := fun _ => fun
  | [d1, d2] => { results := [.lit (.bool true)], args := [d1, d2] }
  | _ => none }
def spanSetsRow : OpenClaim := { program := "ytkbmggclecimeaa", sum := "522d4885c5f2acf0a983cf3e17a82cb8212896242792a51cadc0261e17d165dd", func := "conventicle/conventiclelaw12.SpanSets", spec := "spanSets", unfollowed := true, recurses := true, apart := false }
def SpanSetsSaid : Prop := spanSetsRow.holds Try.pinned (OpenSpec.ofChange spanSetsSpec)

/-- ITS FALSE NEIGHBOUR: 'it returns false'. Refute it at one input. -/
def spanSetsWrong : ChangeSpec := { name := "spanSets", fn := fun _ => fun
  | [d1, d2] => { results := [.lit (.bool false)], args := [d1, d2] }
  | _ => none }
def SpanSetsWrongFalsely : Prop := spanSetsRow.holds Try.pinned (OpenSpec.ofChange spanSetsWrong)

/-- 'conventiclelaw12.SpanAdds': WHATEVER THE INPUT: true; the input reads as it did. -/
def spanAddsSpec : ChangeSpec := { name := "spanAdds", fn := fun _ => fun
  | [d1, d2] => { results := [.lit (.bool true)], args := [d1, d2] }
  | _ => none }
def spanAddsRow : OpenClaim := { program := "ytkbmggclecimeaa", sum := "522d4885c5f2acf0a983cf3e17a82cb8212896242792a51cadc0261e17d165dd", func := "conventicle/conventiclelaw12.SpanAdds", spec := "spanAdds", unfollowed := true, recurses := true, apart := false }
def SpanAddsSaid : Prop := spanAddsRow.holds Try.pinned (OpenSpec.ofChange spanAddsSpec)

/-- ITS FALSE NEIGHBOUR: 'it returns false'. Refute it at one input. -/
def spanAddsWrong : ChangeSpec := { name := "spanAdds", fn := fun _ => fun
  | [d1, d2] => { results := [.lit (.bool false)], args := [d1, d2] }
  | _ => none }
def SpanAddsWrongFalsely : Prop := spanAddsRow.holds Try.pinned (OpenSpec.ofChange spanAddsWrong)

/-- 'conventiclelaw12.SpanTells': WHATEVER THE INPUT: true; the input reads as it did. -/
def spanTellsSpec : ChangeSpec := { name := "spanTells", fn := fun _ => fun
  | [d1, d2, d3] => { results := [.lit (.bool true)], args := [d1, d2, d3] }
  | _ => none }
def spanTellsRow : OpenClaim := { program := "ytkbmggclecimeaa", sum := "522d4885c5f2acf0a983cf3e17a82cb8212896242792a51cadc0261e17d165dd", func := "conventicle/conventiclelaw12.SpanTells", spec := "spanTells", unfollowed := true, recurses := true, apart := false }
def SpanTellsSaid : Prop := spanTellsRow.holds Try.pinned (OpenSpec.ofChange spanTellsSpec)

/-- ITS FALSE NEIGHBOUR: 'it returns false'. Refute it at one input. -/
def spanTellsWrong : ChangeSpec := { name := "spanTells", fn := fun _ => fun
  | [d1, d2, d3] => { results := [.lit (.bool false)], args := [d1, d2, d3] }
  | _ => none }
def SpanTellsWrongFalsely : Prop := spanTellsRow.holds Try.pinned (OpenSpec.ofChange spanTellsWrong)

/-- 'conventiclelaw12.SpanReach': WHATEVER THE INPUT: true; the input reads as it did. -/
def spanReachSpec : ChangeSpec := { name := "spanReach", fn := fun _ => fun
  | [d1, d2, d3] => { results := [.lit (.bool true)], args := [d1, d2, d3] }
  | _ => none }
def spanReachRow : OpenClaim := { program := "ytkbmggclecimeaa", sum := "522d4885c5f2acf0a983cf3e17a82cb8212896242792a51cadc0261e17d165dd", func := "conventicle/conventiclelaw12.SpanReach", spec := "spanReach", unfollowed := true, recurses := true, apart := false }
def SpanReachSaid : Prop := spanReachRow.holds Try.pinned (OpenSpec.ofChange spanReachSpec)

/-- ITS FALSE NEIGHBOUR: 'it returns false'. Refute it at one input. -/
def spanReachWrong : ChangeSpec := { name := "spanReach", fn := fun _ => fun
  | [d1, d2, d3] => { results := [.lit (.bool false)], args := [d1, d2, d3] }
  | _ => none }
def SpanReachWrongFalsely : Prop := spanReachRow.holds Try.pinned (OpenSpec.ofChange spanReachWrong)

/-- 'conventiclelaw12.SpanMay': WHATEVER THE INPUT: true; the input reads as it did. -/
def spanMaySpec : ChangeSpec := { name := "spanMay", fn := fun _ => fun
  | [d1, d2] => { results := [.lit (.bool true)], args := [d1, d2] }
  | _ => none }
def spanMayRow : OpenClaim := { program := "ytkbmggclecimeaa", sum := "522d4885c5f2acf0a983cf3e17a82cb8212896242792a51cadc0261e17d165dd", func := "conventicle/conventiclelaw12.SpanMay", spec := "spanMay", unfollowed := true, recurses := true, apart := false }
def SpanMaySaid : Prop := spanMayRow.holds Try.pinned (OpenSpec.ofChange spanMaySpec)

/-- ITS FALSE NEIGHBOUR: 'it returns false'. Refute it at one input. -/
def spanMayWrong : ChangeSpec := { name := "spanMay", fn := fun _ => fun
  | [d1, d2] => { results := [.lit (.bool false)], args := [d1, d2] }
  | _ => none }
def SpanMayWrongFalsely : Prop := spanMayRow.holds Try.pinned (OpenSpec.ofChange spanMayWrong)

/-- 'conventiclelaw13.ShelfReach': WHATEVER THE INPUT: true; the input reads as it did. -/
def shelfReachSpec : ChangeSpec := { name := "shelfReach", fn := fun _ => fun
  | [d1, d2] => { results := [.lit (.bool true)], args := [d1, d2] }
  | _ => none }
def shelfReachRow : OpenClaim := { program := "ytkbmggclecimeaa", sum := "522d4885c5f2acf0a983cf3e17a82cb8212896242792a51cadc0261e17d165dd", func := "conventicle/conventiclelaw13.ShelfReach", spec := "shelfReach", unfollowed := true, recurses := true, apart := false }
def ShelfReachSaid : Prop := shelfReachRow.holds Try.pinned (OpenSpec.ofChange shelfReachSpec)

/-- ITS FALSE NEIGHBOUR: 'it returns false'. Refute it at one input. -/
def shelfReachWrong : ChangeSpec := { name := "shelfReach", fn := fun _ => fun
  | [d1, d2] => { results := [.lit (.bool false)], args := [d1, d2] }
  | _ => none }
def ShelfReachWrongFalsely : Prop := shelfReachRow.holds Try.pinned (OpenSpec.ofChange shelfReachWrong)

/-- 'conventiclelaw13.ShelfArgs': WHATEVER THE INPUT: true; the input reads as it did. -/
def shelfArgsSpec : ChangeSpec := { name := "shelfArgs", fn := fun _ => fun
  | [d1, d2] => { results := [.lit (.bool true)], args := [d1, d2] }
  | _ => none }
def shelfArgsRow : OpenClaim := { program := "ytkbmggclecimeaa", sum := "522d4885c5f2acf0a983cf3e17a82cb8212896242792a51cadc0261e17d165dd", func := "conventicle/conventiclelaw13.ShelfArgs", spec := "shelfArgs", unfollowed := true, recurses := true, apart := false }
def ShelfArgsSaid : Prop := shelfArgsRow.holds Try.pinned (OpenSpec.ofChange shelfArgsSpec)

/-- ITS FALSE NEIGHBOUR: 'it returns false'. Refute it at one input. -/
def shelfArgsWrong : ChangeSpec := { name := "shelfArgs", fn := fun _ => fun
  | [d1, d2] => { results := [.lit (.bool false)], args := [d1, d2] }
  | _ => none }
def ShelfArgsWrongFalsely : Prop := shelfArgsRow.holds Try.pinned (OpenSpec.ofChange shelfArgsWrong)

/-- 'conventiclelaw14.MendGives': WHATEVER THE INPUT: true; the input reads as it did. -/
def mendGivesSpec : ChangeSpec := { name := "mendGives", fn := fun _ => fun
  | [d1, d2, d3] => { results := [.lit (.bool true)], args := [d1, d2, d3] }
  | _ => none }
def mendGivesRow : OpenClaim := { program := "ytkbmggclecimeaa", sum := "522d4885c5f2acf0a983cf3e17a82cb8212896242792a51cadc0261e17d165dd", func := "conventicle/conventiclelaw14.MendGives", spec := "mendGives", unfollowed := true, recurses := true, apart := false }
def MendGivesSaid : Prop := mendGivesRow.holds Try.pinned (OpenSpec.ofChange mendGivesSpec)

/-- ITS FALSE NEIGHBOUR: 'it returns false'. Refute it at one input. -/
def mendGivesWrong : ChangeSpec := { name := "mendGives", fn := fun _ => fun
  | [d1, d2, d3] => { results := [.lit (.bool false)], args := [d1, d2, d3] }
  | _ => none }
def MendGivesWrongFalsely : Prop := mendGivesRow.holds Try.pinned (OpenSpec.ofChange mendGivesWrong)

/- THE SECOND FORM. 'bulk': how many values and letters a reading holds, each counted each time it is reached (what is shared counts as often as it is met; a slice's spare places count too). A statement '..UptoSaid' is the law's where the arguments, and the package variables that the reading takes, are together of bulk at most 1048576: NARROWER than '..Said'. Prove '..Said' where nothing that the law and all that it calls make is longer than what came in: it says more and counts as full. Else prove '..UptoSaid'. A law counts once. -/
mutual
def uptoBulk {H : Type} : DataW H → Nat
  | .lit (.string bytes) => bytes.length + 1
  | .lit _ => 1
  | .nil => 1
  | .ptr d => uptoBulk d + 1
  | .slice elems spare => uptoBulkAll elems + uptoBulkAll spare + 1
  | .agg parts => uptoBulkAll parts + 1
  | .iface _ d => uptoBulk d + 1
  | .map entries => uptoBulkEntries entries + 1
  | .held _ => 1
def uptoBulkAll {H : Type} : List (DataW H) → Nat
  | [] => 0
  | d :: r => uptoBulk d + uptoBulkAll r
def uptoBulkEntries {H : Type} : List (Lit × DataW H) → Nat
  | [] => 0
  | x :: r => uptoBulkEntry x + uptoBulkEntries r
def uptoBulkEntry {H : Type} : Lit × DataW H → Nat
  | (.string bytes, d) => bytes.length + uptoBulk d + 1
  | (_, d) => uptoBulk d + 1
 end
def uptoSmall : (H : Type) → List (DataW H) → Bool := fun _ ds => decide (uptoBulkAll ds ≤ 1048576)
def OpenSpec.upto (s : _root_.Go.ChangeSpec) : _root_.Go.OpenSpec := { _root_.Go.OpenSpec.ofChange s with cond := some uptoSmall }

/-- 'conventiclelaw13.ShelfKeeps', WHERE WHAT IT READS IS OF BULK AT MOST 1048576: true; the input reads as it did. -/
def shelfKeepsUptoRow : OpenClaim := { program := "ytkbmggclecimeaa", sum := "522d4885c5f2acf0a983cf3e17a82cb8212896242792a51cadc0261e17d165dd", func := "conventicle/conventiclelaw13.ShelfKeeps", spec := "shelfKeeps", apart := false, narrowed := true }
def ShelfKeepsUptoSaid : Prop := shelfKeepsUptoRow.holds Try.pinned (OpenSpec.upto shelfKeepsSpec)

/-- 'conventiclelaw13.ShelfTrims', WHERE WHAT IT READS IS OF BULK AT MOST 1048576: true; the input reads as it did. -/
def shelfTrimsUptoRow : OpenClaim := { program := "ytkbmggclecimeaa", sum := "522d4885c5f2acf0a983cf3e17a82cb8212896242792a51cadc0261e17d165dd", func := "conventicle/conventiclelaw13.ShelfTrims", spec := "shelfTrims", apart := false, narrowed := true }
def ShelfTrimsUptoSaid : Prop := shelfTrimsUptoRow.holds Try.pinned (OpenSpec.upto shelfTrimsSpec)

/-- 'conventiclelaw14.MendLack', WHERE WHAT IT READS IS OF BULK AT MOST 1048576: true; the input reads as it did. -/
def mendLackUptoRow : OpenClaim := { program := "ytkbmggclecimeaa", sum := "522d4885c5f2acf0a983cf3e17a82cb8212896242792a51cadc0261e17d165dd", func := "conventicle/conventiclelaw14.MendLack", spec := "mendLack", unfollowed := true, recurses := true, apart := false, narrowed := true }
def MendLackUptoSaid : Prop := mendLackUptoRow.holds Try.pinned (OpenSpec.upto mendLackSpec)

/-- 'conventiclelaw12.SpanBoth', WHERE WHAT IT READS IS OF BULK AT MOST 1048576: true; the input reads as it did. -/
def spanBothUptoRow : OpenClaim := { program := "ytkbmggclecimeaa", sum := "522d4885c5f2acf0a983cf3e17a82cb8212896242792a51cadc0261e17d165dd", func := "conventicle/conventiclelaw12.SpanBoth", spec := "spanBoth", unfollowed := true, recurses := true, apart := false, narrowed := true }
def SpanBothUptoSaid : Prop := spanBothUptoRow.holds Try.pinned (OpenSpec.upto spanBothSpec)

/-- 'conventiclelaw12.SpanSets', WHERE WHAT IT READS IS OF BULK AT MOST 1048576: true; the input reads as it did. -/
def spanSetsUptoRow : OpenClaim := { program := "ytkbmggclecimeaa", sum := "522d4885c5f2acf0a983cf3e17a82cb8212896242792a51cadc0261e17d165dd", func := "conventicle/conventiclelaw12.SpanSets", spec := "spanSets", unfollowed := true, recurses := true, apart := false, narrowed := true }
def SpanSetsUptoSaid : Prop := spanSetsUptoRow.holds Try.pinned (OpenSpec.upto spanSetsSpec)

/-- 'conventiclelaw12.SpanAdds', WHERE WHAT IT READS IS OF BULK AT MOST 1048576: true; the input reads as it did. -/
def spanAddsUptoRow : OpenClaim := { program := "ytkbmggclecimeaa", sum := "522d4885c5f2acf0a983cf3e17a82cb8212896242792a51cadc0261e17d165dd", func := "conventicle/conventiclelaw12.SpanAdds", spec := "spanAdds", unfollowed := true, recurses := true, apart := false, narrowed := true }
def SpanAddsUptoSaid : Prop := spanAddsUptoRow.holds Try.pinned (OpenSpec.upto spanAddsSpec)

/-- 'conventiclelaw12.SpanTells', WHERE WHAT IT READS IS OF BULK AT MOST 1048576: true; the input reads as it did. -/
def spanTellsUptoRow : OpenClaim := { program := "ytkbmggclecimeaa", sum := "522d4885c5f2acf0a983cf3e17a82cb8212896242792a51cadc0261e17d165dd", func := "conventicle/conventiclelaw12.SpanTells", spec := "spanTells", unfollowed := true, recurses := true, apart := false, narrowed := true }
def SpanTellsUptoSaid : Prop := spanTellsUptoRow.holds Try.pinned (OpenSpec.upto spanTellsSpec)

/-- 'conventiclelaw12.SpanReach', WHERE WHAT IT READS IS OF BULK AT MOST 1048576: true; the input reads as it did. -/
def spanReachUptoRow : OpenClaim := { program := "ytkbmggclecimeaa", sum := "522d4885c5f2acf0a983cf3e17a82cb8212896242792a51cadc0261e17d165dd", func := "conventicle/conventiclelaw12.SpanReach", spec := "spanReach", unfollowed := true, recurses := true, apart := false, narrowed := true }
def SpanReachUptoSaid : Prop := spanReachUptoRow.holds Try.pinned (OpenSpec.upto spanReachSpec)

/-- 'conventiclelaw12.SpanMay', WHERE WHAT IT READS IS OF BULK AT MOST 1048576: true; the input reads as it did. -/
def spanMayUptoRow : OpenClaim := { program := "ytkbmggclecimeaa", sum := "522d4885c5f2acf0a983cf3e17a82cb8212896242792a51cadc0261e17d165dd", func := "conventicle/conventiclelaw12.SpanMay", spec := "spanMay", unfollowed := true, recurses := true, apart := false, narrowed := true }
def SpanMayUptoSaid : Prop := spanMayUptoRow.holds Try.pinned (OpenSpec.upto spanMaySpec)

/-- 'conventiclelaw13.ShelfReach', WHERE WHAT IT READS IS OF BULK AT MOST 1048576: true; the input reads as it did. -/
def shelfReachUptoRow : OpenClaim := { program := "ytkbmggclecimeaa", sum := "522d4885c5f2acf0a983cf3e17a82cb8212896242792a51cadc0261e17d165dd", func := "conventicle/conventiclelaw13.ShelfReach", spec := "shelfReach", unfollowed := true, recurses := true, apart := false, narrowed := true }
def ShelfReachUptoSaid : Prop := shelfReachUptoRow.holds Try.pinned (OpenSpec.upto shelfReachSpec)

/-- 'conventiclelaw13.ShelfArgs', WHERE WHAT IT READS IS OF BULK AT MOST 1048576: true; the input reads as it did. -/
def shelfArgsUptoRow : OpenClaim := { program := "ytkbmggclecimeaa", sum := "522d4885c5f2acf0a983cf3e17a82cb8212896242792a51cadc0261e17d165dd", func := "conventicle/conventiclelaw13.ShelfArgs", spec := "shelfArgs", unfollowed := true, recurses := true, apart := false, narrowed := true }
def ShelfArgsUptoSaid : Prop := shelfArgsUptoRow.holds Try.pinned (OpenSpec.upto shelfArgsSpec)

/-- 'conventiclelaw14.MendGives', WHERE WHAT IT READS IS OF BULK AT MOST 1048576: true; the input reads as it did. -/
def mendGivesUptoRow : OpenClaim := { program := "ytkbmggclecimeaa", sum := "522d4885c5f2acf0a983cf3e17a82cb8212896242792a51cadc0261e17d165dd", func := "conventicle/conventiclelaw14.MendGives", spec := "mendGives", unfollowed := true, recurses := true, apart := false, narrowed := true }
def MendGivesUptoSaid : Prop := mendGivesUptoRow.holds Try.pinned (OpenSpec.upto mendGivesSpec)

end Rows
end Go.Proofs.Ytkbmggclecimeaa
