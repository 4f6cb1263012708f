/-
  DERIVED. GIVEN WITH THE SEED: THE CARDS: each row of YtmnpbpfeoackiaaDoorRows.lean that lists a variable, with what it lists TIED to the program's text (the seventh form; the later family's looks); each row that meets fmt, with fmt's text TOLD by the authors' own Lean function (tested against real Go, not proved from fmt's source: count such statements apart). THE CARD IS WHAT COUNTS. Prove the row's statement (the work); the ties are given (YtmnpbpfeoackiaaDoorTie.lean); close each card by the builder's one call (the guide's Derived/Test/ToyasCard.lean, 'card_holds'). Laid BY PROGRAM, IN A SANDBOX (cutbox-door.mjs). By AI agents, Wed Nov 11 2026. No macro, syntax, notation, axiom, sorry.
-/
import Derived.Test.YtmnpbpfeoackiaaDoorRows
import GoSem.ClaimSeven
namespace Go.Proofs.YtmnpbpfeoackiaaDoor
namespace Rows

/-- THE TIED CARD OF 'porterlaw30.TokenPuts'. -/
def tokenPutsCard : Claim7 := { stood := { row := tokenPutsRow, standIns := [], harness := (true, "4a0fcdf425ee0c0dd5c147a0fd7db9f61c73dcca3f937821df05adacb7c802a4"), looks := true }, kinds := [], alts := [], laidByText := true, laidKinds := [.handle], laidTests := true, laidLooks := .later }
def TokenPutsCardSaid : Prop := Claim7.holds Tryd.pinned (.plain (OpenSpec.ofChange tokenPutsSpec)) tokenPutsCard

/-- THE TIED CARD OF 'porterlaw30.TokenGets'. -/
def tokenGetsCard : Claim7 := { stood := { row := tokenGetsRow, standIns := [], harness := (true, "4a0fcdf425ee0c0dd5c147a0fd7db9f61c73dcca3f937821df05adacb7c802a4"), looks := true }, kinds := [], alts := [], laidByText := true, laidKinds := [.handle], laidTests := true, laidLooks := .later }
def TokenGetsCardSaid : Prop := Claim7.holds Tryd.pinned (.plain (OpenSpec.ofChange tokenGetsSpec)) tokenGetsCard

/-- THE TIED CARD OF 'porterlaw30.TokenBack'. -/
def tokenBackCard : Claim7 := { stood := { row := tokenBackRow, standIns := [], harness := (true, "4a0fcdf425ee0c0dd5c147a0fd7db9f61c73dcca3f937821df05adacb7c802a4"), looks := true }, kinds := [], alts := [], laidByText := true, laidKinds := [.handle], laidTests := true, laidLooks := .later }
def TokenBackCardSaid : Prop := Claim7.holds Tryd.pinned (.plain (OpenSpec.ofChange tokenBackSpec)) tokenBackCard

/-- THE TIED CARD OF 'porterlaw31.BundlePuts'. -/
def bundlePutsCard : Claim7 := { stood := { row := bundlePutsRow, standIns := [], harness := (true, "4a0fcdf425ee0c0dd5c147a0fd7db9f61c73dcca3f937821df05adacb7c802a4"), looks := true }, kinds := [], alts := [], laidByText := true, laidKinds := [.handle], laidTests := true, laidLooks := .later }
def BundlePutsCardSaid : Prop := Claim7.holds Tryd.pinned (.plain (OpenSpec.ofChange bundlePutsSpec)) bundlePutsCard

/-- THE TIED CARD OF 'porterlaw31.BundleGets'. -/
def bundleGetsCard : Claim7 := { stood := { row := bundleGetsRow, standIns := [], harness := (true, "4a0fcdf425ee0c0dd5c147a0fd7db9f61c73dcca3f937821df05adacb7c802a4"), looks := true }, kinds := [], alts := [], laidByText := true, laidKinds := [.handle], laidTests := true, laidLooks := .later }
def BundleGetsCardSaid : Prop := Claim7.holds Tryd.pinned (.plain (OpenSpec.ofChange bundleGetsSpec)) bundleGetsCard

/-- THE TIED CARD OF 'porterlaw31.BundleBack'. -/
def bundleBackCard : Claim7 := { stood := { row := bundleBackRow, standIns := [], harness := (true, "4a0fcdf425ee0c0dd5c147a0fd7db9f61c73dcca3f937821df05adacb7c802a4"), looks := true }, kinds := [], alts := [], laidByText := true, laidKinds := [.handle], laidTests := true, laidLooks := .later }
def BundleBackCardSaid : Prop := Claim7.holds Tryd.pinned (.plain (OpenSpec.ofChange bundleBackSpec)) bundleBackCard

/-- THE TIED CARD OF 'porterlaw43.EntryWrites'. -/
def entryWritesCard : Claim7 := { stood := { row := entryWritesRow, standIns := [], harness := (true, "4a0fcdf425ee0c0dd5c147a0fd7db9f61c73dcca3f937821df05adacb7c802a4"), looks := true }, kinds := [], alts := [], laidByText := true, laidKinds := [.data], laidTests := true, laidLooks := .later }
def EntryWritesCardSaid : Prop := Claim7.holds Tryd.pinned (.plain (OpenSpec.ofChange entryWritesSpec)) entryWritesCard

/-- THE TIED CARD OF 'porterlaw43.EntryReads'. -/
def entryReadsCard : Claim7 := { stood := { row := entryReadsRow, standIns := [], harness := (true, "4a0fcdf425ee0c0dd5c147a0fd7db9f61c73dcca3f937821df05adacb7c802a4"), looks := true }, kinds := [], alts := [], laidByText := true, laidKinds := [.data], laidTests := true, laidLooks := .later }
def EntryReadsCardSaid : Prop := Claim7.holds Tryd.pinned (.plain (OpenSpec.ofChange entryReadsSpec)) entryReadsCard

/-- THE TIED CARD OF 'porterlaw43.EntryTorn'. -/
def entryTornCard : Claim7 := { stood := { row := entryTornRow, standIns := [], harness := (true, "4a0fcdf425ee0c0dd5c147a0fd7db9f61c73dcca3f937821df05adacb7c802a4"), looks := true }, kinds := [], alts := [], laidByText := true, laidKinds := [.data], laidTests := true, laidLooks := .later }
def EntryTornCardSaid : Prop := Claim7.holds Tryd.pinned (.plain (OpenSpec.ofChange entryTornSpec)) entryTornCard

/-- THE SECOND FORM's CARD OF 'porterlaw30.TokenPuts'. -/
def tokenPutsUptoCard : Claim7 := { stood := { row := tokenPutsUptoRow, standIns := [], harness := (true, "4a0fcdf425ee0c0dd5c147a0fd7db9f61c73dcca3f937821df05adacb7c802a4"), looks := true }, kinds := [], alts := [], laidByText := true, laidKinds := [.handle], laidTests := true, laidLooks := .later }
def TokenPutsUptoCardSaid : Prop := Claim7.holds Tryd.pinned (.plain (OpenSpec.upto tokenPutsSpec)) tokenPutsUptoCard

/-- THE SECOND FORM's CARD OF 'porterlaw30.TokenGets'. -/
def tokenGetsUptoCard : Claim7 := { stood := { row := tokenGetsUptoRow, standIns := [], harness := (true, "4a0fcdf425ee0c0dd5c147a0fd7db9f61c73dcca3f937821df05adacb7c802a4"), looks := true }, kinds := [], alts := [], laidByText := true, laidKinds := [.handle], laidTests := true, laidLooks := .later }
def TokenGetsUptoCardSaid : Prop := Claim7.holds Tryd.pinned (.plain (OpenSpec.upto tokenGetsSpec)) tokenGetsUptoCard

/-- THE SECOND FORM's CARD OF 'porterlaw30.TokenBack'. -/
def tokenBackUptoCard : Claim7 := { stood := { row := tokenBackUptoRow, standIns := [], harness := (true, "4a0fcdf425ee0c0dd5c147a0fd7db9f61c73dcca3f937821df05adacb7c802a4"), looks := true }, kinds := [], alts := [], laidByText := true, laidKinds := [.handle], laidTests := true, laidLooks := .later }
def TokenBackUptoCardSaid : Prop := Claim7.holds Tryd.pinned (.plain (OpenSpec.upto tokenBackSpec)) tokenBackUptoCard

/-- THE SECOND FORM's CARD OF 'porterlaw31.BundlePuts'. -/
def bundlePutsUptoCard : Claim7 := { stood := { row := bundlePutsUptoRow, standIns := [], harness := (true, "4a0fcdf425ee0c0dd5c147a0fd7db9f61c73dcca3f937821df05adacb7c802a4"), looks := true }, kinds := [], alts := [], laidByText := true, laidKinds := [.handle], laidTests := true, laidLooks := .later }
def BundlePutsUptoCardSaid : Prop := Claim7.holds Tryd.pinned (.plain (OpenSpec.upto bundlePutsSpec)) bundlePutsUptoCard

/-- THE SECOND FORM's CARD OF 'porterlaw31.BundleGets'. -/
def bundleGetsUptoCard : Claim7 := { stood := { row := bundleGetsUptoRow, standIns := [], harness := (true, "4a0fcdf425ee0c0dd5c147a0fd7db9f61c73dcca3f937821df05adacb7c802a4"), looks := true }, kinds := [], alts := [], laidByText := true, laidKinds := [.handle], laidTests := true, laidLooks := .later }
def BundleGetsUptoCardSaid : Prop := Claim7.holds Tryd.pinned (.plain (OpenSpec.upto bundleGetsSpec)) bundleGetsUptoCard

/-- THE SECOND FORM's CARD OF 'porterlaw31.BundleBack'. -/
def bundleBackUptoCard : Claim7 := { stood := { row := bundleBackUptoRow, standIns := [], harness := (true, "4a0fcdf425ee0c0dd5c147a0fd7db9f61c73dcca3f937821df05adacb7c802a4"), looks := true }, kinds := [], alts := [], laidByText := true, laidKinds := [.handle], laidTests := true, laidLooks := .later }
def BundleBackUptoCardSaid : Prop := Claim7.holds Tryd.pinned (.plain (OpenSpec.upto bundleBackSpec)) bundleBackUptoCard

/-- THE SECOND FORM's CARD OF 'porterlaw43.EntryWrites'. -/
def entryWritesUptoCard : Claim7 := { stood := { row := entryWritesUptoRow, standIns := [], harness := (true, "4a0fcdf425ee0c0dd5c147a0fd7db9f61c73dcca3f937821df05adacb7c802a4"), looks := true }, kinds := [], alts := [], laidByText := true, laidKinds := [.data], laidTests := true, laidLooks := .later }
def EntryWritesUptoCardSaid : Prop := Claim7.holds Tryd.pinned (.plain (OpenSpec.upto entryWritesSpec)) entryWritesUptoCard

/-- THE SECOND FORM's CARD OF 'porterlaw43.EntryReads'. -/
def entryReadsUptoCard : Claim7 := { stood := { row := entryReadsUptoRow, standIns := [], harness := (true, "4a0fcdf425ee0c0dd5c147a0fd7db9f61c73dcca3f937821df05adacb7c802a4"), looks := true }, kinds := [], alts := [], laidByText := true, laidKinds := [.data], laidTests := true, laidLooks := .later }
def EntryReadsUptoCardSaid : Prop := Claim7.holds Tryd.pinned (.plain (OpenSpec.upto entryReadsSpec)) entryReadsUptoCard

/-- THE SECOND FORM's CARD OF 'porterlaw43.EntryTorn'. -/
def entryTornUptoCard : Claim7 := { stood := { row := entryTornUptoRow, standIns := [], harness := (true, "4a0fcdf425ee0c0dd5c147a0fd7db9f61c73dcca3f937821df05adacb7c802a4"), looks := true }, kinds := [], alts := [], laidByText := true, laidKinds := [.data], laidTests := true, laidLooks := .later }
def EntryTornUptoCardSaid : Prop := Claim7.holds Tryd.pinned (.plain (OpenSpec.upto entryTornSpec)) entryTornUptoCard
end Rows
end Go.Proofs.YtmnpbpfeoackiaaDoor
