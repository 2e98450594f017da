/-
  DERIVED. GIVEN WITH THE SEED: THE CARDS: each row of YtofonfohaocclaaGreatDoorRows.lean that lists a variable, with what it lists TIED to the program's text (the seventh form; the later family's looks); each row that meets fmt, with fmt's text TOLD by the authors' own Lean function (tested against real Go, not proved from fmt's source: count such statements apart). THE CARD IS WHAT COUNTS. Prove the row's statement (the work); the ties are given (YtofonfohaocclaaGreatDoorTie.lean); close each card by the builder's one call (the guide's Derived/Test/ToyasCard.lean, 'card_holds'). Laid BY PROGRAM, IN A SANDBOX (cutbox-door.mjs). By AI agents, Wed Nov 11 2026. No macro, syntax, notation, axiom, sorry.
-/
import Derived.Test.YtofonfohaocclaaGreatDoorRows
import GoSem.ClaimSeven
namespace Go.Proofs.YtofonfohaocclaaGreatDoor
namespace Rows

/-- THE TIED CARD OF 'conventiclelaw11.DetectCalm'. -/
def detectCalmCard : Claim7 := { stood := { row := detectCalmRow, standIns := [], harness := (true, "ee293d35ede8acdecb95d8c718562157d08c7c465503466046f92810f0ad5241"), looks := true }, kinds := [], alts := [], laidByText := true, laidKinds := [.data], laidTests := true, laidLooks := .later }
def DetectCalmCardSaid : Prop := Claim7.holds Tryz.pinned (.plain (OpenSpec.ofChange detectCalmSpec)) detectCalmCard

/-- THE TIED CARD OF 'conventiclelaw11.DetectDown'. -/
def detectDownCard : Claim7 := { stood := { row := detectDownRow, standIns := [], harness := (true, "ee293d35ede8acdecb95d8c718562157d08c7c465503466046f92810f0ad5241"), looks := true }, kinds := [], alts := [], laidByText := true, laidKinds := [.data], laidTests := true, laidLooks := .later }
def DetectDownCardSaid : Prop := Claim7.holds Tryz.pinned (.plain (OpenSpec.ofChange detectDownSpec)) detectDownCard

/-- THE TIED CARD OF 'conventiclelaw11.DetectRefutes'. -/
def detectRefutesCard : Claim7 := { stood := { row := detectRefutesRow, standIns := [], harness := (true, "ee293d35ede8acdecb95d8c718562157d08c7c465503466046f92810f0ad5241"), looks := true }, kinds := [], alts := [], laidByText := true, laidKinds := [.data], laidTests := true, laidLooks := .later }
def DetectRefutesCardSaid : Prop := Claim7.holds Tryz.pinned (.plain (OpenSpec.ofChange detectRefutesSpec)) detectRefutesCard

/-- THE TIED CARD OF 'conventiclelaw11.DetectSays'. -/
def detectSaysCard : Claim7 := { stood := { row := detectSaysRow, standIns := [], harness := (true, "ee293d35ede8acdecb95d8c718562157d08c7c465503466046f92810f0ad5241"), looks := true }, kinds := [], alts := [], laidByText := true, laidKinds := [.data], laidTests := true, laidLooks := .later }
def DetectSaysCardSaid : Prop := Claim7.holds Tryz.pinned (.plain (OpenSpec.ofChange detectSaysSpec)) detectSaysCard

/-- THE TIED CARD OF 'conventiclelaw11.DetectActs'. -/
def detectActsCard : Claim7 := { stood := { row := detectActsRow, standIns := [], harness := (true, "ee293d35ede8acdecb95d8c718562157d08c7c465503466046f92810f0ad5241"), looks := true }, kinds := [], alts := [], laidByText := true, laidKinds := [.data], laidTests := true, laidLooks := .later }
def DetectActsCardSaid : Prop := Claim7.holds Tryz.pinned (.plain (OpenSpec.ofChange detectActsSpec)) detectActsCard

/-- THE SECOND FORM's CARD OF 'conventiclelaw11.DetectCalm'. -/
def detectCalmUptoCard : Claim7 := { stood := { row := detectCalmUptoRow, standIns := [], harness := (true, "ee293d35ede8acdecb95d8c718562157d08c7c465503466046f92810f0ad5241"), looks := true }, kinds := [], alts := [], laidByText := true, laidKinds := [.data], laidTests := true, laidLooks := .later }
def DetectCalmUptoCardSaid : Prop := Claim7.holds Tryz.pinned (.plain (OpenSpec.upto detectCalmSpec)) detectCalmUptoCard

/-- THE SECOND FORM's CARD OF 'conventiclelaw11.DetectDown'. -/
def detectDownUptoCard : Claim7 := { stood := { row := detectDownUptoRow, standIns := [], harness := (true, "ee293d35ede8acdecb95d8c718562157d08c7c465503466046f92810f0ad5241"), looks := true }, kinds := [], alts := [], laidByText := true, laidKinds := [.data], laidTests := true, laidLooks := .later }
def DetectDownUptoCardSaid : Prop := Claim7.holds Tryz.pinned (.plain (OpenSpec.upto detectDownSpec)) detectDownUptoCard

/-- THE SECOND FORM's CARD OF 'conventiclelaw11.DetectRefutes'. -/
def detectRefutesUptoCard : Claim7 := { stood := { row := detectRefutesUptoRow, standIns := [], harness := (true, "ee293d35ede8acdecb95d8c718562157d08c7c465503466046f92810f0ad5241"), looks := true }, kinds := [], alts := [], laidByText := true, laidKinds := [.data], laidTests := true, laidLooks := .later }
def DetectRefutesUptoCardSaid : Prop := Claim7.holds Tryz.pinned (.plain (OpenSpec.upto detectRefutesSpec)) detectRefutesUptoCard

/-- THE SECOND FORM's CARD OF 'conventiclelaw11.DetectSays'. -/
def detectSaysUptoCard : Claim7 := { stood := { row := detectSaysUptoRow, standIns := [], harness := (true, "ee293d35ede8acdecb95d8c718562157d08c7c465503466046f92810f0ad5241"), looks := true }, kinds := [], alts := [], laidByText := true, laidKinds := [.data], laidTests := true, laidLooks := .later }
def DetectSaysUptoCardSaid : Prop := Claim7.holds Tryz.pinned (.plain (OpenSpec.upto detectSaysSpec)) detectSaysUptoCard

/-- THE SECOND FORM's CARD OF 'conventiclelaw11.DetectActs'. -/
def detectActsUptoCard : Claim7 := { stood := { row := detectActsUptoRow, standIns := [], harness := (true, "ee293d35ede8acdecb95d8c718562157d08c7c465503466046f92810f0ad5241"), looks := true }, kinds := [], alts := [], laidByText := true, laidKinds := [.data], laidTests := true, laidLooks := .later }
def DetectActsUptoCardSaid : Prop := Claim7.holds Tryz.pinned (.plain (OpenSpec.upto detectActsSpec)) detectActsUptoCard
end Rows
end Go.Proofs.YtofonfohaocclaaGreatDoor
