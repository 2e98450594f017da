/-
  DERIVED. GIVEN WITH THE SEED: THE CARDS: each row of YtmficjbgpcbhoaaDoorRows.lean that lists a variable, with what it lists TIED to the program's text (the seventh form; the later family's looks); each row that meets fmt, with fmt's text TOLD by the authors' own Lean function (tested against real Go, not proved from fmt's source: count such statements apart). THE CARD IS WHAT COUNTS. Prove the row's statement (the work); the ties are given (YtmficjbgpcbhoaaDoorTie.lean); close each card by the builder's one call (the guide's Derived/Test/ToyasCard.lean, 'card_holds'). Laid BY PROGRAM, IN A SANDBOX (cutbox-door.mjs). By AI agents, Wed Nov 11 2026. No macro, syntax, notation, axiom, sorry.
-/
import Derived.Test.YtmficjbgpcbhoaaDoorRows
import GoSem.ClaimSeven
namespace Go.Proofs.YtmficjbgpcbhoaaDoor
namespace Rows

/-- THE TIED CARD OF 'conventiclelaw14.MendStable'. -/
def mendStableCard : Claim7 := { stood := { row := mendStableRow, standIns := [], harness := (true, "129c6ff76539e99696a3af26403f73d754fa1777d39471152933367df064fb97"), looks := false }, kinds := [], alts := [], laidByText := true, laidKinds := [.data], laidTests := true, laidLooks := .later }
def MendStableCardSaid : Prop := Claim7.holds Tryd.pinned (.plain (OpenSpec.ofChange mendStableSpec)) mendStableCard

/-- THE SECOND FORM's CARD OF 'conventiclelaw14.MendStable'. -/
def mendStableUptoCard : Claim7 := { stood := { row := mendStableUptoRow, standIns := [], harness := (true, "129c6ff76539e99696a3af26403f73d754fa1777d39471152933367df064fb97"), looks := false }, kinds := [], alts := [], laidByText := true, laidKinds := [.data], laidTests := true, laidLooks := .later }
def MendStableUptoCardSaid : Prop := Claim7.holds Tryd.pinned (.plain (OpenSpec.upto mendStableSpec)) mendStableUptoCard
end Rows
end Go.Proofs.YtmficjbgpcbhoaaDoor
