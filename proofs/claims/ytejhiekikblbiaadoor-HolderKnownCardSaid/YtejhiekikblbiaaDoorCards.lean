/-
  DERIVED. GIVEN WITH THE SEED: THE CARDS: each row of YtejhiekikblbiaaDoorRows.lean that lists a variable, with what it lists TIED to the program's text (the seventh form; the later family's looks); each row that meets fmt, with fmt's text TOLD by the authors' own Lean function (tested against real Go, not proved from fmt's source: count such statements apart). THE CARD IS WHAT COUNTS. Prove the row's statement (the work); the ties are given (YtejhiekikblbiaaDoorTie.lean); close each card by the builder's one call (the guide's Derived/Test/ToyasCard.lean, 'card_holds'). Laid BY PROGRAM, IN A SANDBOX (cutbox-door.mjs). By AI agents, Wed Nov 11 2026. No macro, syntax, notation, axiom, sorry.
-/
import Derived.Test.YtejhiekikblbiaaDoorRows
import GoSem.ClaimSeven
namespace Go.Proofs.YtejhiekikblbiaaDoor
namespace Rows

/-- THE TIED CARD OF 'porterlaw35.HolderBinds'. -/
def holderBindsCard : Claim7 := { stood := { row := holderBindsRow, standIns := [], harness := (true, "3d86f997f7caff659cf35da611cffad7247484a5a014fadf598e818fb6bcc1ff"), looks := false }, kinds := [], alts := [], laidByText := true, laidKinds := [.data], laidTests := true, laidLooks := .later }
def HolderBindsCardSaid : Prop := Claim7.holds Tryd.pinned (.plain (OpenSpec.ofChange holderBindsSpec)) holderBindsCard

/-- THE TIED CARD OF 'porterlaw06.BoxOther'. -/
def boxOtherCard : Claim7 := { stood := { row := boxOtherRow, standIns := [], harness := (true, "3d86f997f7caff659cf35da611cffad7247484a5a014fadf598e818fb6bcc1ff"), looks := false }, kinds := [], alts := [], laidByText := true, laidKinds := [.data], laidTests := true, laidLooks := .later }
def BoxOtherCardSaid : Prop := Claim7.holds Tryd.pinned (.plain (OpenSpec.ofChange boxOtherSpec)) boxOtherCard

/-- THE TIED CARD OF 'porterlaw35.HolderAdds'. -/
def holderAddsCard : Claim7 := { stood := { row := holderAddsRow, standIns := [], harness := (true, "3d86f997f7caff659cf35da611cffad7247484a5a014fadf598e818fb6bcc1ff"), looks := false }, kinds := [], alts := [], laidByText := true, laidKinds := [.data], laidTests := true, laidLooks := .later }
def HolderAddsCardSaid : Prop := Claim7.holds Tryd.pinned (.plain (OpenSpec.ofChange holderAddsSpec)) holderAddsCard

/-- THE TIED CARD OF 'porterlaw35.HolderKnown'. -/
def holderKnownCard : Claim7 := { stood := { row := holderKnownRow, standIns := [], harness := (true, "3d86f997f7caff659cf35da611cffad7247484a5a014fadf598e818fb6bcc1ff"), looks := false }, kinds := [], alts := [], laidByText := true, laidKinds := [.data], laidTests := true, laidLooks := .later }
def HolderKnownCardSaid : Prop := Claim7.holds Tryd.pinned (.plain (OpenSpec.ofChange holderKnownSpec)) holderKnownCard

/-- THE TIED CARD OF 'porterlaw36.NotaryBack'. -/
def notaryBackCard : Claim7 := { stood := { row := notaryBackRow, standIns := [], harness := (true, "3d86f997f7caff659cf35da611cffad7247484a5a014fadf598e818fb6bcc1ff"), looks := false }, kinds := [], alts := [], laidByText := true, laidKinds := [.data], laidTests := true, laidLooks := .later }
def NotaryBackCardSaid : Prop := Claim7.holds Tryd.pinned (.plain (OpenSpec.ofChange notaryBackSpec)) notaryBackCard

/-- THE TIED CARD OF 'porterlaw36.NotaryForm'. -/
def notaryFormCard : Claim7 := { stood := { row := notaryFormRow, standIns := [], harness := (true, "3d86f997f7caff659cf35da611cffad7247484a5a014fadf598e818fb6bcc1ff"), looks := false }, kinds := [], alts := [], laidByText := true, laidKinds := [.data], laidTests := true, laidLooks := .later }
def NotaryFormCardSaid : Prop := Claim7.holds Tryd.pinned (.plain (OpenSpec.ofChange notaryFormSpec)) notaryFormCard

/-- THE TIED CARD OF 'porterlaw37.VerifyOne'. -/
def verifyOneCard : Claim7 := { stood := { row := verifyOneRow, standIns := [], harness := (true, "3d86f997f7caff659cf35da611cffad7247484a5a014fadf598e818fb6bcc1ff"), looks := false }, kinds := [], alts := [], laidByText := true, laidKinds := [.data], laidTests := true, laidLooks := .later }
def VerifyOneCardSaid : Prop := Claim7.holds Tryd.pinned (.plain (OpenSpec.ofChange verifyOneSpec)) verifyOneCard

/-- THE TIED CARD OF 'porterlaw37.VerifyHonest'. -/
def verifyHonestCard : Claim7 := { stood := { row := verifyHonestRow, standIns := [], harness := (true, "3d86f997f7caff659cf35da611cffad7247484a5a014fadf598e818fb6bcc1ff"), looks := false }, kinds := [], alts := [], laidByText := true, laidKinds := [.data], laidTests := true, laidLooks := .later }
def VerifyHonestCardSaid : Prop := Claim7.holds Tryd.pinned (.plain (OpenSpec.ofChange verifyHonestSpec)) verifyHonestCard

/-- THE SECOND FORM's CARD OF 'porterlaw35.HolderBinds'. -/
def holderBindsUptoCard : Claim7 := { stood := { row := holderBindsUptoRow, standIns := [], harness := (true, "3d86f997f7caff659cf35da611cffad7247484a5a014fadf598e818fb6bcc1ff"), looks := false }, kinds := [], alts := [], laidByText := true, laidKinds := [.data], laidTests := true, laidLooks := .later }
def HolderBindsUptoCardSaid : Prop := Claim7.holds Tryd.pinned (.plain (OpenSpec.upto holderBindsSpec)) holderBindsUptoCard

/-- THE SECOND FORM's CARD OF 'porterlaw06.BoxOther'. -/
def boxOtherUptoCard : Claim7 := { stood := { row := boxOtherUptoRow, standIns := [], harness := (true, "3d86f997f7caff659cf35da611cffad7247484a5a014fadf598e818fb6bcc1ff"), looks := false }, kinds := [], alts := [], laidByText := true, laidKinds := [.data], laidTests := true, laidLooks := .later }
def BoxOtherUptoCardSaid : Prop := Claim7.holds Tryd.pinned (.plain (OpenSpec.upto boxOtherSpec)) boxOtherUptoCard

/-- THE SECOND FORM's CARD OF 'porterlaw35.HolderAdds'. -/
def holderAddsUptoCard : Claim7 := { stood := { row := holderAddsUptoRow, standIns := [], harness := (true, "3d86f997f7caff659cf35da611cffad7247484a5a014fadf598e818fb6bcc1ff"), looks := false }, kinds := [], alts := [], laidByText := true, laidKinds := [.data], laidTests := true, laidLooks := .later }
def HolderAddsUptoCardSaid : Prop := Claim7.holds Tryd.pinned (.plain (OpenSpec.upto holderAddsSpec)) holderAddsUptoCard

/-- THE SECOND FORM's CARD OF 'porterlaw35.HolderKnown'. -/
def holderKnownUptoCard : Claim7 := { stood := { row := holderKnownUptoRow, standIns := [], harness := (true, "3d86f997f7caff659cf35da611cffad7247484a5a014fadf598e818fb6bcc1ff"), looks := false }, kinds := [], alts := [], laidByText := true, laidKinds := [.data], laidTests := true, laidLooks := .later }
def HolderKnownUptoCardSaid : Prop := Claim7.holds Tryd.pinned (.plain (OpenSpec.upto holderKnownSpec)) holderKnownUptoCard

/-- THE SECOND FORM's CARD OF 'porterlaw36.NotaryBack'. -/
def notaryBackUptoCard : Claim7 := { stood := { row := notaryBackUptoRow, standIns := [], harness := (true, "3d86f997f7caff659cf35da611cffad7247484a5a014fadf598e818fb6bcc1ff"), looks := false }, kinds := [], alts := [], laidByText := true, laidKinds := [.data], laidTests := true, laidLooks := .later }
def NotaryBackUptoCardSaid : Prop := Claim7.holds Tryd.pinned (.plain (OpenSpec.upto notaryBackSpec)) notaryBackUptoCard

/-- THE SECOND FORM's CARD OF 'porterlaw36.NotaryForm'. -/
def notaryFormUptoCard : Claim7 := { stood := { row := notaryFormUptoRow, standIns := [], harness := (true, "3d86f997f7caff659cf35da611cffad7247484a5a014fadf598e818fb6bcc1ff"), looks := false }, kinds := [], alts := [], laidByText := true, laidKinds := [.data], laidTests := true, laidLooks := .later }
def NotaryFormUptoCardSaid : Prop := Claim7.holds Tryd.pinned (.plain (OpenSpec.upto notaryFormSpec)) notaryFormUptoCard

/-- THE SECOND FORM's CARD OF 'porterlaw37.VerifyOne'. -/
def verifyOneUptoCard : Claim7 := { stood := { row := verifyOneUptoRow, standIns := [], harness := (true, "3d86f997f7caff659cf35da611cffad7247484a5a014fadf598e818fb6bcc1ff"), looks := false }, kinds := [], alts := [], laidByText := true, laidKinds := [.data], laidTests := true, laidLooks := .later }
def VerifyOneUptoCardSaid : Prop := Claim7.holds Tryd.pinned (.plain (OpenSpec.upto verifyOneSpec)) verifyOneUptoCard

/-- THE SECOND FORM's CARD OF 'porterlaw37.VerifyHonest'. -/
def verifyHonestUptoCard : Claim7 := { stood := { row := verifyHonestUptoRow, standIns := [], harness := (true, "3d86f997f7caff659cf35da611cffad7247484a5a014fadf598e818fb6bcc1ff"), looks := false }, kinds := [], alts := [], laidByText := true, laidKinds := [.data], laidTests := true, laidLooks := .later }
def VerifyHonestUptoCardSaid : Prop := Claim7.holds Tryd.pinned (.plain (OpenSpec.upto verifyHonestSpec)) verifyHonestUptoCard
end Rows
end Go.Proofs.YtejhiekikblbiaaDoor
