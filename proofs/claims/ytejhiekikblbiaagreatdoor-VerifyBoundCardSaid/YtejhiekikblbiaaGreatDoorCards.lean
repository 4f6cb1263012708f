/-
  DERIVED. GIVEN WITH THE SEED: THE CARDS: each row of YtejhiekikblbiaaGreatDoorRows.lean that lists a variable, with what it lists TIED to the program's text (the seventh form; the later family's looks); each row that meets fmt, with fmt's text TOLD by the authors' own Lean function (tested against real Go, not proved from fmt's source: count such statements apart). THE CARD IS WHAT COUNTS. Prove the row's statement (the work); the ties are given (YtejhiekikblbiaaGreatDoorTie.lean); close each card by the builder's one call (the guide's Derived/Test/ToyasCard.lean, 'card_holds'). Laid BY PROGRAM, IN A SANDBOX (cutbox-door.mjs). By AI agents, Wed Nov 11 2026. No macro, syntax, notation, axiom, sorry.
-/
import Derived.Test.YtejhiekikblbiaaGreatDoorRows
import GoSem.ClaimSeven
namespace Go.Proofs.YtejhiekikblbiaaGreatDoor
namespace Rows

/-- THE TIED CARD OF 'porterlaw36.NotaryTickets'. -/
def notaryTicketsCard : Claim7 := { stood := { row := notaryTicketsRow, standIns := [], harness := (true, "d573843c488a9a7c40c1124569353e5f09f7f033c83a69f6887b10b92c37bffa"), looks := true }, kinds := [], alts := [], laidByText := true, laidKinds := [.data], laidTests := true, laidLooks := .later }
def NotaryTicketsCardSaid : Prop := Claim7.holds Tryz.pinned (.plain (OpenSpec.ofChange notaryTicketsSpec)) notaryTicketsCard

/-- THE TIED CARD OF 'porterlaw37.VerifyTells'. -/
def verifyTellsCard : Claim7 := { stood := { row := verifyTellsRow, standIns := [], harness := (true, "d573843c488a9a7c40c1124569353e5f09f7f033c83a69f6887b10b92c37bffa"), looks := true }, kinds := [], alts := [], laidByText := true, laidKinds := [.data], laidTests := true, laidLooks := .later }
def VerifyTellsCardSaid : Prop := Claim7.holds Tryz.pinned (.plain (OpenSpec.ofChange verifyTellsSpec)) verifyTellsCard

/-- THE TIED CARD OF 'porterlaw37.VerifyBound'. -/
def verifyBoundCard : Claim7 := { stood := { row := verifyBoundRow, standIns := [], harness := (true, "d573843c488a9a7c40c1124569353e5f09f7f033c83a69f6887b10b92c37bffa"), looks := true }, kinds := [], alts := [], laidByText := true, laidKinds := [.data], laidTests := true, laidLooks := .later }
def VerifyBoundCardSaid : Prop := Claim7.holds Tryz.pinned (.plain (OpenSpec.ofChange verifyBoundSpec)) verifyBoundCard

/-- THE TIED CARD OF 'porterlaw48.BoundTags'. -/
def boundTagsCard : Claim7 := { stood := { row := boundTagsRow, standIns := [], harness := (true, "d573843c488a9a7c40c1124569353e5f09f7f033c83a69f6887b10b92c37bffa"), looks := true }, kinds := [], alts := [], laidByText := true, laidKinds := [.handle, .data], laidTests := true, laidLooks := .later }
def BoundTagsCardSaid : Prop := Claim7.holds Tryz.pinned (.plain (OpenSpec.ofChange boundTagsSpec)) boundTagsCard

/-- THE SECOND FORM's CARD OF 'porterlaw36.NotaryTickets'. -/
def notaryTicketsUptoCard : Claim7 := { stood := { row := notaryTicketsUptoRow, standIns := [], harness := (true, "d573843c488a9a7c40c1124569353e5f09f7f033c83a69f6887b10b92c37bffa"), looks := true }, kinds := [], alts := [], laidByText := true, laidKinds := [.data], laidTests := true, laidLooks := .later }
def NotaryTicketsUptoCardSaid : Prop := Claim7.holds Tryz.pinned (.plain (OpenSpec.upto notaryTicketsSpec)) notaryTicketsUptoCard

/-- THE SECOND FORM's CARD OF 'porterlaw37.VerifyTells'. -/
def verifyTellsUptoCard : Claim7 := { stood := { row := verifyTellsUptoRow, standIns := [], harness := (true, "d573843c488a9a7c40c1124569353e5f09f7f033c83a69f6887b10b92c37bffa"), looks := true }, kinds := [], alts := [], laidByText := true, laidKinds := [.data], laidTests := true, laidLooks := .later }
def VerifyTellsUptoCardSaid : Prop := Claim7.holds Tryz.pinned (.plain (OpenSpec.upto verifyTellsSpec)) verifyTellsUptoCard

/-- THE SECOND FORM's CARD OF 'porterlaw37.VerifyBound'. -/
def verifyBoundUptoCard : Claim7 := { stood := { row := verifyBoundUptoRow, standIns := [], harness := (true, "d573843c488a9a7c40c1124569353e5f09f7f033c83a69f6887b10b92c37bffa"), looks := true }, kinds := [], alts := [], laidByText := true, laidKinds := [.data], laidTests := true, laidLooks := .later }
def VerifyBoundUptoCardSaid : Prop := Claim7.holds Tryz.pinned (.plain (OpenSpec.upto verifyBoundSpec)) verifyBoundUptoCard

/-- THE SECOND FORM's CARD OF 'porterlaw48.BoundTags'. -/
def boundTagsUptoCard : Claim7 := { stood := { row := boundTagsUptoRow, standIns := [], harness := (true, "d573843c488a9a7c40c1124569353e5f09f7f033c83a69f6887b10b92c37bffa"), looks := true }, kinds := [], alts := [], laidByText := true, laidKinds := [.handle, .data], laidTests := true, laidLooks := .later }
def BoundTagsUptoCardSaid : Prop := Claim7.holds Tryz.pinned (.plain (OpenSpec.upto boundTagsSpec)) boundTagsUptoCard
end Rows
end Go.Proofs.YtejhiekikblbiaaGreatDoor
