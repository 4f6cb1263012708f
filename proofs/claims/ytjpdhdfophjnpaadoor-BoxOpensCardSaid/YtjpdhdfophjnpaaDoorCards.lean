/-
  DERIVED. GIVEN WITH THE SEED: THE CARDS: each row of YtjpdhdfophjnpaaDoorRows.lean that lists a variable, with what it lists TIED to the program's text (the seventh form; the later family's looks); each row that meets fmt, with fmt's text TOLD by the authors' own Lean function (tested against real Go, not proved from fmt's source: count such statements apart). THE CARD IS WHAT COUNTS. Prove the row's statement (the work); the ties are given (YtjpdhdfophjnpaaDoorTie.lean); close each card by the builder's one call (the guide's Derived/Test/ToyasCard.lean, 'card_holds'). Laid BY PROGRAM, IN A SANDBOX (cutbox-door.mjs). By AI agents, Wed Nov 11 2026. No macro, syntax, notation, axiom, sorry.
-/
import Derived.Test.YtjpdhdfophjnpaaDoorRows
import GoSem.ClaimSeven
namespace Go.Proofs.YtjpdhdfophjnpaaDoor
namespace Rows

/-- THE TIED CARD OF 'porterlaw35.HolderBinds'. -/
def holderBindsCard : Claim7 := { stood := { row := holderBindsRow, standIns := [], harness := (true, "13a3f78fddfb843294b368d07d3d46a39a3c4af521afaf7db67d1a33a261c727"), looks := false }, kinds := [], alts := [], laidByText := true, laidKinds := [.data], laidTests := true, laidLooks := .later }
def HolderBindsCardSaid : Prop := Claim7.holds Tryd.pinned (.plain (OpenSpec.ofChange holderBindsSpec)) holderBindsCard

/-- THE TIED CARD OF 'porterlaw06.BoxSeals'. -/
def boxSealsCard : Claim7 := { stood := { row := boxSealsRow, standIns := [], harness := (true, "13a3f78fddfb843294b368d07d3d46a39a3c4af521afaf7db67d1a33a261c727"), looks := false }, kinds := [], alts := [], laidByText := true, laidKinds := [.data], laidTests := true, laidLooks := .later }
def BoxSealsCardSaid : Prop := Claim7.holds Tryd.pinned (.plain (OpenSpec.ofChange boxSealsSpec)) boxSealsCard

/-- THE TIED CARD OF 'porterlaw06.BoxOpens'. -/
def boxOpensCard : Claim7 := { stood := { row := boxOpensRow, standIns := [], harness := (true, "13a3f78fddfb843294b368d07d3d46a39a3c4af521afaf7db67d1a33a261c727"), looks := false }, kinds := [], alts := [], laidByText := true, laidKinds := [.data], laidTests := true, laidLooks := .later }
def BoxOpensCardSaid : Prop := Claim7.holds Tryd.pinned (.plain (OpenSpec.ofChange boxOpensSpec)) boxOpensCard

/-- THE TIED CARD OF 'porterlaw06.BoxBack'. -/
def boxBackCard : Claim7 := { stood := { row := boxBackRow, standIns := [], harness := (true, "13a3f78fddfb843294b368d07d3d46a39a3c4af521afaf7db67d1a33a261c727"), looks := false }, kinds := [], alts := [], laidByText := true, laidKinds := [.data], laidTests := true, laidLooks := .later }
def BoxBackCardSaid : Prop := Claim7.holds Tryd.pinned (.plain (OpenSpec.ofChange boxBackSpec)) boxBackCard

/-- THE TIED CARD OF 'porterlaw06.BoxOther'. -/
def boxOtherCard : Claim7 := { stood := { row := boxOtherRow, standIns := [], harness := (true, "13a3f78fddfb843294b368d07d3d46a39a3c4af521afaf7db67d1a33a261c727"), looks := false }, kinds := [], alts := [], laidByText := true, laidKinds := [.data], laidTests := true, laidLooks := .later }
def BoxOtherCardSaid : Prop := Claim7.holds Tryd.pinned (.plain (OpenSpec.ofChange boxOtherSpec)) boxOtherCard

/-- THE TIED CARD OF 'porterlaw35.HolderAdds'. -/
def holderAddsCard : Claim7 := { stood := { row := holderAddsRow, standIns := [], harness := (true, "13a3f78fddfb843294b368d07d3d46a39a3c4af521afaf7db67d1a33a261c727"), looks := false }, kinds := [], alts := [], laidByText := true, laidKinds := [.data], laidTests := true, laidLooks := .later }
def HolderAddsCardSaid : Prop := Claim7.holds Tryd.pinned (.plain (OpenSpec.ofChange holderAddsSpec)) holderAddsCard

/-- THE TIED CARD OF 'porterlaw35.HolderKnown'. -/
def holderKnownCard : Claim7 := { stood := { row := holderKnownRow, standIns := [], harness := (true, "13a3f78fddfb843294b368d07d3d46a39a3c4af521afaf7db67d1a33a261c727"), looks := false }, kinds := [], alts := [], laidByText := true, laidKinds := [.data], laidTests := true, laidLooks := .later }
def HolderKnownCardSaid : Prop := Claim7.holds Tryd.pinned (.plain (OpenSpec.ofChange holderKnownSpec)) holderKnownCard

/-- THE TIED CARD OF 'porterlaw36.NotaryBack'. -/
def notaryBackCard : Claim7 := { stood := { row := notaryBackRow, standIns := [], harness := (true, "13a3f78fddfb843294b368d07d3d46a39a3c4af521afaf7db67d1a33a261c727"), looks := false }, kinds := [], alts := [], laidByText := true, laidKinds := [.data], laidTests := true, laidLooks := .later }
def NotaryBackCardSaid : Prop := Claim7.holds Tryd.pinned (.plain (OpenSpec.ofChange notaryBackSpec)) notaryBackCard

/-- THE TIED CARD OF 'porterlaw36.NotaryForm'. -/
def notaryFormCard : Claim7 := { stood := { row := notaryFormRow, standIns := [], harness := (true, "13a3f78fddfb843294b368d07d3d46a39a3c4af521afaf7db67d1a33a261c727"), looks := false }, kinds := [], alts := [], laidByText := true, laidKinds := [.data], laidTests := true, laidLooks := .later }
def NotaryFormCardSaid : Prop := Claim7.holds Tryd.pinned (.plain (OpenSpec.ofChange notaryFormSpec)) notaryFormCard

/-- THE SECOND FORM's CARD OF 'porterlaw35.HolderBinds'. -/
def holderBindsUptoCard : Claim7 := { stood := { row := holderBindsUptoRow, standIns := [], harness := (true, "13a3f78fddfb843294b368d07d3d46a39a3c4af521afaf7db67d1a33a261c727"), looks := false }, kinds := [], alts := [], laidByText := true, laidKinds := [.data], laidTests := true, laidLooks := .later }
def HolderBindsUptoCardSaid : Prop := Claim7.holds Tryd.pinned (.plain (OpenSpec.upto holderBindsSpec)) holderBindsUptoCard

/-- THE SECOND FORM's CARD OF 'porterlaw06.BoxSeals'. -/
def boxSealsUptoCard : Claim7 := { stood := { row := boxSealsUptoRow, standIns := [], harness := (true, "13a3f78fddfb843294b368d07d3d46a39a3c4af521afaf7db67d1a33a261c727"), looks := false }, kinds := [], alts := [], laidByText := true, laidKinds := [.data], laidTests := true, laidLooks := .later }
def BoxSealsUptoCardSaid : Prop := Claim7.holds Tryd.pinned (.plain (OpenSpec.upto boxSealsSpec)) boxSealsUptoCard

/-- THE SECOND FORM's CARD OF 'porterlaw06.BoxOpens'. -/
def boxOpensUptoCard : Claim7 := { stood := { row := boxOpensUptoRow, standIns := [], harness := (true, "13a3f78fddfb843294b368d07d3d46a39a3c4af521afaf7db67d1a33a261c727"), looks := false }, kinds := [], alts := [], laidByText := true, laidKinds := [.data], laidTests := true, laidLooks := .later }
def BoxOpensUptoCardSaid : Prop := Claim7.holds Tryd.pinned (.plain (OpenSpec.upto boxOpensSpec)) boxOpensUptoCard

/-- THE SECOND FORM's CARD OF 'porterlaw06.BoxBack'. -/
def boxBackUptoCard : Claim7 := { stood := { row := boxBackUptoRow, standIns := [], harness := (true, "13a3f78fddfb843294b368d07d3d46a39a3c4af521afaf7db67d1a33a261c727"), looks := false }, kinds := [], alts := [], laidByText := true, laidKinds := [.data], laidTests := true, laidLooks := .later }
def BoxBackUptoCardSaid : Prop := Claim7.holds Tryd.pinned (.plain (OpenSpec.upto boxBackSpec)) boxBackUptoCard

/-- THE SECOND FORM's CARD OF 'porterlaw06.BoxOther'. -/
def boxOtherUptoCard : Claim7 := { stood := { row := boxOtherUptoRow, standIns := [], harness := (true, "13a3f78fddfb843294b368d07d3d46a39a3c4af521afaf7db67d1a33a261c727"), looks := false }, kinds := [], alts := [], laidByText := true, laidKinds := [.data], laidTests := true, laidLooks := .later }
def BoxOtherUptoCardSaid : Prop := Claim7.holds Tryd.pinned (.plain (OpenSpec.upto boxOtherSpec)) boxOtherUptoCard

/-- THE SECOND FORM's CARD OF 'porterlaw35.HolderAdds'. -/
def holderAddsUptoCard : Claim7 := { stood := { row := holderAddsUptoRow, standIns := [], harness := (true, "13a3f78fddfb843294b368d07d3d46a39a3c4af521afaf7db67d1a33a261c727"), looks := false }, kinds := [], alts := [], laidByText := true, laidKinds := [.data], laidTests := true, laidLooks := .later }
def HolderAddsUptoCardSaid : Prop := Claim7.holds Tryd.pinned (.plain (OpenSpec.upto holderAddsSpec)) holderAddsUptoCard

/-- THE SECOND FORM's CARD OF 'porterlaw35.HolderKnown'. -/
def holderKnownUptoCard : Claim7 := { stood := { row := holderKnownUptoRow, standIns := [], harness := (true, "13a3f78fddfb843294b368d07d3d46a39a3c4af521afaf7db67d1a33a261c727"), looks := false }, kinds := [], alts := [], laidByText := true, laidKinds := [.data], laidTests := true, laidLooks := .later }
def HolderKnownUptoCardSaid : Prop := Claim7.holds Tryd.pinned (.plain (OpenSpec.upto holderKnownSpec)) holderKnownUptoCard

/-- THE SECOND FORM's CARD OF 'porterlaw36.NotaryBack'. -/
def notaryBackUptoCard : Claim7 := { stood := { row := notaryBackUptoRow, standIns := [], harness := (true, "13a3f78fddfb843294b368d07d3d46a39a3c4af521afaf7db67d1a33a261c727"), looks := false }, kinds := [], alts := [], laidByText := true, laidKinds := [.data], laidTests := true, laidLooks := .later }
def NotaryBackUptoCardSaid : Prop := Claim7.holds Tryd.pinned (.plain (OpenSpec.upto notaryBackSpec)) notaryBackUptoCard

/-- THE SECOND FORM's CARD OF 'porterlaw36.NotaryForm'. -/
def notaryFormUptoCard : Claim7 := { stood := { row := notaryFormUptoRow, standIns := [], harness := (true, "13a3f78fddfb843294b368d07d3d46a39a3c4af521afaf7db67d1a33a261c727"), looks := false }, kinds := [], alts := [], laidByText := true, laidKinds := [.data], laidTests := true, laidLooks := .later }
def NotaryFormUptoCardSaid : Prop := Claim7.holds Tryd.pinned (.plain (OpenSpec.upto notaryFormSpec)) notaryFormUptoCard
end Rows
end Go.Proofs.YtjpdhdfophjnpaaDoor
