/-
  DERIVED. GIVEN WITH THE SEED: THE CARDS: each row of YteffocenfkcofaaDoorRows.lean that lists a variable, with what it lists TIED to the program's text (the seventh form; the later family's looks); each row that meets fmt, with fmt's text TOLD by the authors' own Lean function (tested against real Go, not proved from fmt's source: count such statements apart). THE CARD IS WHAT COUNTS. Prove the row's statement (the work); the ties are given (YteffocenfkcofaaDoorTie.lean); close each card by the builder's one call (the guide's Derived/Test/ToyasCard.lean, 'card_holds'). Laid BY PROGRAM, IN A SANDBOX (cutbox-door.mjs). By AI agents, Wed Nov 11 2026. No macro, syntax, notation, axiom, sorry.
-/
import Derived.Test.YteffocenfkcofaaDoorRows
import GoSem.ClaimSeven
namespace Go.Proofs.YteffocenfkcofaaDoor
namespace Rows

/-- THE TIED CARD OF 'porterlaw04.HmacApart'. -/
def hmacApartCard : Claim7 := { stood := { row := hmacApartRow, standIns := [], harness := (true, "cdbd1a65f56027c3a4f1992a1d4699270c9c9253419600f430fcb481e286a303"), looks := false }, kinds := [], alts := [], laidByText := true, laidKinds := [.data], laidTests := true, laidLooks := .later }
def HmacApartCardSaid : Prop := Claim7.holds Tryd.pinned (.plain (OpenSpec.ofChange hmacApartSpec)) hmacApartCard

/-- THE TIED CARD OF 'porterlaw34.ChainTags'. -/
def chainTagsCard : Claim7 := { stood := { row := chainTagsRow, standIns := [], harness := (true, "cdbd1a65f56027c3a4f1992a1d4699270c9c9253419600f430fcb481e286a303"), looks := false }, kinds := [], alts := [], laidByText := true, laidKinds := [.data], laidTests := true, laidLooks := .later }
def ChainTagsCardSaid : Prop := Claim7.holds Tryd.pinned (.plain (OpenSpec.ofChange chainTagsSpec)) chainTagsCard

/-- THE TIED CARD OF 'porterlaw34.ChainApart'. -/
def chainApartCard : Claim7 := { stood := { row := chainApartRow, standIns := [], harness := (true, "cdbd1a65f56027c3a4f1992a1d4699270c9c9253419600f430fcb481e286a303"), looks := false }, kinds := [], alts := [], laidByText := true, laidKinds := [.data], laidTests := true, laidLooks := .later }
def ChainApartCardSaid : Prop := Claim7.holds Tryd.pinned (.plain (OpenSpec.ofChange chainApartSpec)) chainApartCard

/-- THE TIED CARD OF 'porterlaw34.ChainOn'. -/
def chainOnCard : Claim7 := { stood := { row := chainOnRow, standIns := [], harness := (true, "cdbd1a65f56027c3a4f1992a1d4699270c9c9253419600f430fcb481e286a303"), looks := false }, kinds := [], alts := [], laidByText := true, laidKinds := [.data], laidTests := true, laidLooks := .later }
def ChainOnCardSaid : Prop := Claim7.holds Tryd.pinned (.plain (OpenSpec.ofChange chainOnSpec)) chainOnCard

/-- THE TIED CARD OF 'porterlaw34.ChainMakes'. -/
def chainMakesCard : Claim7 := { stood := { row := chainMakesRow, standIns := [], harness := (true, "cdbd1a65f56027c3a4f1992a1d4699270c9c9253419600f430fcb481e286a303"), looks := false }, kinds := [], alts := [], laidByText := true, laidKinds := [.data], laidTests := true, laidLooks := .later }
def ChainMakesCardSaid : Prop := Claim7.holds Tryd.pinned (.plain (OpenSpec.ofChange chainMakesSpec)) chainMakesCard

/-- THE TIED CARD OF 'porterlaw05.StreamBytes'. -/
def streamBytesCard : Claim7 := { stood := { row := streamBytesRow, standIns := [], harness := (true, "cdbd1a65f56027c3a4f1992a1d4699270c9c9253419600f430fcb481e286a303"), looks := false }, kinds := [], alts := [], laidByText := true, laidKinds := [.data], laidTests := true, laidLooks := .later }
def StreamBytesCardSaid : Prop := Claim7.holds Tryd.pinned (.plain (OpenSpec.ofChange streamBytesSpec)) streamBytesCard

/-- THE TIED CARD OF 'porterlaw05.StreamBack'. -/
def streamBackCard : Claim7 := { stood := { row := streamBackRow, standIns := [], harness := (true, "cdbd1a65f56027c3a4f1992a1d4699270c9c9253419600f430fcb481e286a303"), looks := false }, kinds := [], alts := [], laidByText := true, laidKinds := [.data], laidTests := true, laidLooks := .later }
def StreamBackCardSaid : Prop := Claim7.holds Tryd.pinned (.plain (OpenSpec.ofChange streamBackSpec)) streamBackCard

/-- THE TIED CARD OF 'porterlaw05.StreamBegins'. -/
def streamBeginsCard : Claim7 := { stood := { row := streamBeginsRow, standIns := [], harness := (true, "cdbd1a65f56027c3a4f1992a1d4699270c9c9253419600f430fcb481e286a303"), looks := false }, kinds := [], alts := [], laidByText := true, laidKinds := [.data], laidTests := true, laidLooks := .later }
def StreamBeginsCardSaid : Prop := Claim7.holds Tryd.pinned (.plain (OpenSpec.ofChange streamBeginsSpec)) streamBeginsCard

/-- THE TIED CARD OF 'porterlaw04.HmacFrames'. -/
def hmacFramesCard : Claim7 := { stood := { row := hmacFramesRow, standIns := [], harness := (true, "cdbd1a65f56027c3a4f1992a1d4699270c9c9253419600f430fcb481e286a303"), looks := false }, kinds := [], alts := [], laidByText := true, laidKinds := [.data], laidTests := true, laidLooks := .later }
def HmacFramesCardSaid : Prop := Claim7.holds Tryd.pinned (.plain (OpenSpec.ofChange hmacFramesSpec)) hmacFramesCard

/-- THE TIED CARD OF 'porterlaw04.HmacSums'. -/
def hmacSumsCard : Claim7 := { stood := { row := hmacSumsRow, standIns := [], harness := (true, "cdbd1a65f56027c3a4f1992a1d4699270c9c9253419600f430fcb481e286a303"), looks := false }, kinds := [], alts := [], laidByText := true, laidKinds := [.data], laidTests := true, laidLooks := .later }
def HmacSumsCardSaid : Prop := Claim7.holds Tryd.pinned (.plain (OpenSpec.ofChange hmacSumsSpec)) hmacSumsCard

/-- THE SECOND FORM's CARD OF 'porterlaw04.HmacApart'. -/
def hmacApartUptoCard : Claim7 := { stood := { row := hmacApartUptoRow, standIns := [], harness := (true, "cdbd1a65f56027c3a4f1992a1d4699270c9c9253419600f430fcb481e286a303"), looks := false }, kinds := [], alts := [], laidByText := true, laidKinds := [.data], laidTests := true, laidLooks := .later }
def HmacApartUptoCardSaid : Prop := Claim7.holds Tryd.pinned (.plain (OpenSpec.upto hmacApartSpec)) hmacApartUptoCard

/-- THE SECOND FORM's CARD OF 'porterlaw34.ChainTags'. -/
def chainTagsUptoCard : Claim7 := { stood := { row := chainTagsUptoRow, standIns := [], harness := (true, "cdbd1a65f56027c3a4f1992a1d4699270c9c9253419600f430fcb481e286a303"), looks := false }, kinds := [], alts := [], laidByText := true, laidKinds := [.data], laidTests := true, laidLooks := .later }
def ChainTagsUptoCardSaid : Prop := Claim7.holds Tryd.pinned (.plain (OpenSpec.upto chainTagsSpec)) chainTagsUptoCard

/-- THE SECOND FORM's CARD OF 'porterlaw34.ChainApart'. -/
def chainApartUptoCard : Claim7 := { stood := { row := chainApartUptoRow, standIns := [], harness := (true, "cdbd1a65f56027c3a4f1992a1d4699270c9c9253419600f430fcb481e286a303"), looks := false }, kinds := [], alts := [], laidByText := true, laidKinds := [.data], laidTests := true, laidLooks := .later }
def ChainApartUptoCardSaid : Prop := Claim7.holds Tryd.pinned (.plain (OpenSpec.upto chainApartSpec)) chainApartUptoCard

/-- THE SECOND FORM's CARD OF 'porterlaw34.ChainOn'. -/
def chainOnUptoCard : Claim7 := { stood := { row := chainOnUptoRow, standIns := [], harness := (true, "cdbd1a65f56027c3a4f1992a1d4699270c9c9253419600f430fcb481e286a303"), looks := false }, kinds := [], alts := [], laidByText := true, laidKinds := [.data], laidTests := true, laidLooks := .later }
def ChainOnUptoCardSaid : Prop := Claim7.holds Tryd.pinned (.plain (OpenSpec.upto chainOnSpec)) chainOnUptoCard

/-- THE SECOND FORM's CARD OF 'porterlaw34.ChainMakes'. -/
def chainMakesUptoCard : Claim7 := { stood := { row := chainMakesUptoRow, standIns := [], harness := (true, "cdbd1a65f56027c3a4f1992a1d4699270c9c9253419600f430fcb481e286a303"), looks := false }, kinds := [], alts := [], laidByText := true, laidKinds := [.data], laidTests := true, laidLooks := .later }
def ChainMakesUptoCardSaid : Prop := Claim7.holds Tryd.pinned (.plain (OpenSpec.upto chainMakesSpec)) chainMakesUptoCard

/-- THE SECOND FORM's CARD OF 'porterlaw05.StreamBytes'. -/
def streamBytesUptoCard : Claim7 := { stood := { row := streamBytesUptoRow, standIns := [], harness := (true, "cdbd1a65f56027c3a4f1992a1d4699270c9c9253419600f430fcb481e286a303"), looks := false }, kinds := [], alts := [], laidByText := true, laidKinds := [.data], laidTests := true, laidLooks := .later }
def StreamBytesUptoCardSaid : Prop := Claim7.holds Tryd.pinned (.plain (OpenSpec.upto streamBytesSpec)) streamBytesUptoCard

/-- THE SECOND FORM's CARD OF 'porterlaw05.StreamBack'. -/
def streamBackUptoCard : Claim7 := { stood := { row := streamBackUptoRow, standIns := [], harness := (true, "cdbd1a65f56027c3a4f1992a1d4699270c9c9253419600f430fcb481e286a303"), looks := false }, kinds := [], alts := [], laidByText := true, laidKinds := [.data], laidTests := true, laidLooks := .later }
def StreamBackUptoCardSaid : Prop := Claim7.holds Tryd.pinned (.plain (OpenSpec.upto streamBackSpec)) streamBackUptoCard

/-- THE SECOND FORM's CARD OF 'porterlaw05.StreamBegins'. -/
def streamBeginsUptoCard : Claim7 := { stood := { row := streamBeginsUptoRow, standIns := [], harness := (true, "cdbd1a65f56027c3a4f1992a1d4699270c9c9253419600f430fcb481e286a303"), looks := false }, kinds := [], alts := [], laidByText := true, laidKinds := [.data], laidTests := true, laidLooks := .later }
def StreamBeginsUptoCardSaid : Prop := Claim7.holds Tryd.pinned (.plain (OpenSpec.upto streamBeginsSpec)) streamBeginsUptoCard

/-- THE SECOND FORM's CARD OF 'porterlaw04.HmacFrames'. -/
def hmacFramesUptoCard : Claim7 := { stood := { row := hmacFramesUptoRow, standIns := [], harness := (true, "cdbd1a65f56027c3a4f1992a1d4699270c9c9253419600f430fcb481e286a303"), looks := false }, kinds := [], alts := [], laidByText := true, laidKinds := [.data], laidTests := true, laidLooks := .later }
def HmacFramesUptoCardSaid : Prop := Claim7.holds Tryd.pinned (.plain (OpenSpec.upto hmacFramesSpec)) hmacFramesUptoCard

/-- THE SECOND FORM's CARD OF 'porterlaw04.HmacSums'. -/
def hmacSumsUptoCard : Claim7 := { stood := { row := hmacSumsUptoRow, standIns := [], harness := (true, "cdbd1a65f56027c3a4f1992a1d4699270c9c9253419600f430fcb481e286a303"), looks := false }, kinds := [], alts := [], laidByText := true, laidKinds := [.data], laidTests := true, laidLooks := .later }
def HmacSumsUptoCardSaid : Prop := Claim7.holds Tryd.pinned (.plain (OpenSpec.upto hmacSumsSpec)) hmacSumsUptoCard
end Rows
end Go.Proofs.YteffocenfkcofaaDoor
