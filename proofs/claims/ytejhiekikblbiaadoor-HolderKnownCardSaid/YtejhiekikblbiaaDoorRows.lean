/-
  NARROWER THAN 'FOR EVERY INPUT', by the rows' own cells (each row's printed sentence says how): HolderBinds: laid · BoxOther: laid · HolderAdds: laid · HolderKnown: laid · NotaryBack: laid · NotaryForm: laid · VerifyOne: laid · VerifyHonest: laid.
  DERIVED. THE GIVEN ROWS OF THIS SEAT. 8 by the template 'for every input the law returns true; each argument reads behind the call as it read before'; 0 by the template 'total and deterministic' (their statements: YtejhiekikblbiaaDoorTotals.lean).
  GIVEN WITH THE SEED: the statements are not yours to turn. If you find one false, say at which input.
  Laid BY PROGRAM, IN A SANDBOX (cutbox-rows.mjs): the forced cells as the released guide's own fill.sh prints them over the translation 2b4f29761c5db3e6… (all of the seat's roots in one cut). By AI agents, Wed Nov 11 2026. No macro, syntax, notation, axiom, sorry.
-/
import Derived.Test.YtejhiekikblbiaaDoorChecked
import GoSem.Claim
import GoSem.ClaimJoined
import GoSem.ClaimMapViews
import Derived.JoinedTies
import Derived.KernelRfl
namespace Go.Proofs.YtejhiekikblbiaaDoor
/- THE CELL 'sum', in the pinned program and in every row, IS THE sha256 OF THE DUMP (.gsa) THAT YtejhiekikblbiaaDoorProg.lean LOADS. Nothing in Lean hashes anything: it is a label: what it is worth is what the hold of that sum in a sandbox is worth. -/
noncomputable def Tryd.pinned : Pinned := { name := "ytejhiekikblbiaadoor", sum := "2b4f29761c5db3e6a50eea943aaffb116a2da645e9f640c9dcf0dc7c7d1797f6", checked := Tryd.checked }
namespace Rows
def none {H : Type} : Left H := { results := [], args := [] }

/- WHAT THE LISTED PACKAGE-LEVEL VARIABLES READ AS WHEN THE CALL BEGINS. Each datum BY PROGRAM (the guide's laid-datum.mjs) off the statement by which the dump's own 'gosem.cut.vars' lays the variable. In a bare row this is a premise. The card (YtejhiekikblbiaaDoorCards.lean) ties it to the program's text. -/
def laid_porter_sha_constants {H : Type} : DataW H := .agg [.lit (.int .u32 1116352408), .lit (.int .u32 1899447441), .lit (.int .u32 3049323471), .lit (.int .u32 3921009573), .lit (.int .u32 961987163), .lit (.int .u32 1508970993), .lit (.int .u32 2453635748), .lit (.int .u32 2870763221), .lit (.int .u32 3624381080), .lit (.int .u32 310598401), .lit (.int .u32 607225278), .lit (.int .u32 1426881987), .lit (.int .u32 1925078388), .lit (.int .u32 2162078206), .lit (.int .u32 2614888103), .lit (.int .u32 3248222580), .lit (.int .u32 3835390401), .lit (.int .u32 4022224774), .lit (.int .u32 264347078), .lit (.int .u32 604807628), .lit (.int .u32 770255983), .lit (.int .u32 1249150122), .lit (.int .u32 1555081692), .lit (.int .u32 1996064986), .lit (.int .u32 2554220882), .lit (.int .u32 2821834349), .lit (.int .u32 2952996808), .lit (.int .u32 3210313671), .lit (.int .u32 3336571891), .lit (.int .u32 3584528711), .lit (.int .u32 113926993), .lit (.int .u32 338241895), .lit (.int .u32 666307205), .lit (.int .u32 773529912), .lit (.int .u32 1294757372), .lit (.int .u32 1396182291), .lit (.int .u32 1695183700), .lit (.int .u32 1986661051), .lit (.int .u32 2177026350), .lit (.int .u32 2456956037), .lit (.int .u32 2730485921), .lit (.int .u32 2820302411), .lit (.int .u32 3259730800), .lit (.int .u32 3345764771), .lit (.int .u32 3516065817), .lit (.int .u32 3600352804), .lit (.int .u32 4094571909), .lit (.int .u32 275423344), .lit (.int .u32 430227734), .lit (.int .u32 506948616), .lit (.int .u32 659060556), .lit (.int .u32 883997877), .lit (.int .u32 958139571), .lit (.int .u32 1322822218), .lit (.int .u32 1537002063), .lit (.int .u32 1747873779), .lit (.int .u32 1955562222), .lit (.int .u32 2024104815), .lit (.int .u32 2227730452), .lit (.int .u32 2361852424), .lit (.int .u32 2428436474), .lit (.int .u32 2756734187), .lit (.int .u32 3204031479), .lit (.int .u32 3329325298)]

/-- 'porterlaw35.HolderBinds': WHATEVER THE INPUT: true; the input reads as it did. -/
def holderBindsSpec : ChangeSpec := { name := "holderBinds", fn := fun _ => fun
  | [d1, d2] => { results := [.lit (.bool true)], args := [d1, d2] }
  | _ => none }
def holderBindsRow : OpenClaim := { program := "ytejhiekikblbiaadoor", sum := "2b4f29761c5db3e6a50eea943aaffb116a2da645e9f640c9dcf0dc7c7d1797f6", func := "porter/porterlaw35.HolderBinds", spec := "holderBinds", inPlace := ["internal/abi.NoEscape", "internal/bytealg.MakeNoZero"], named := ["porter/sha.constants"], apart := false, laid := [("porter/sha.constants", laid_porter_sha_constants)] }
def HolderBindsSaid : Prop := holderBindsRow.holds Tryd.pinned (OpenSpec.ofChange holderBindsSpec)

/-- ITS FALSE NEIGHBOUR: 'it returns false'. Refute it at one input. -/
def holderBindsWrong : ChangeSpec := { name := "holderBinds", fn := fun _ => fun
  | [d1, d2] => { results := [.lit (.bool false)], args := [d1, d2] }
  | _ => none }
def HolderBindsWrongFalsely : Prop := holderBindsRow.holds Tryd.pinned (OpenSpec.ofChange holderBindsWrong)

/-- 'porterlaw06.BoxOther': WHATEVER THE INPUT: true; the input reads as it did. -/
def boxOtherSpec : ChangeSpec := { name := "boxOther", fn := fun _ => fun
  | [d1, d2, d3] => { results := [.lit (.bool true)], args := [d1, d2, d3] }
  | _ => none }
def boxOtherRow : OpenClaim := { program := "ytejhiekikblbiaadoor", sum := "2b4f29761c5db3e6a50eea943aaffb116a2da645e9f640c9dcf0dc7c7d1797f6", func := "porter/porterlaw06.BoxOther", spec := "boxOther", inPlace := ["internal/abi.NoEscape", "internal/bytealg.MakeNoZero"], unfollowed := true, recurses := true, named := ["porter/sha.constants"], apart := false, laid := [("porter/sha.constants", laid_porter_sha_constants)] }
def BoxOtherSaid : Prop := boxOtherRow.holds Tryd.pinned (OpenSpec.ofChange boxOtherSpec)

/-- ITS FALSE NEIGHBOUR: 'it returns false'. Refute it at one input. -/
def boxOtherWrong : ChangeSpec := { name := "boxOther", fn := fun _ => fun
  | [d1, d2, d3] => { results := [.lit (.bool false)], args := [d1, d2, d3] }
  | _ => none }
def BoxOtherWrongFalsely : Prop := boxOtherRow.holds Tryd.pinned (OpenSpec.ofChange boxOtherWrong)

/-- 'porterlaw35.HolderAdds': WHATEVER THE INPUT: true; the input reads as it did. -/
def holderAddsSpec : ChangeSpec := { name := "holderAdds", fn := fun _ => fun
  | [d1, d2, d3] => { results := [.lit (.bool true)], args := [d1, d2, d3] }
  | _ => none }
def holderAddsRow : OpenClaim := { program := "ytejhiekikblbiaadoor", sum := "2b4f29761c5db3e6a50eea943aaffb116a2da645e9f640c9dcf0dc7c7d1797f6", func := "porter/porterlaw35.HolderAdds", spec := "holderAdds", inPlace := ["internal/abi.NoEscape", "internal/bytealg.MakeNoZero"], unfollowed := true, recurses := true, named := ["porter/sha.constants"], apart := false, laid := [("porter/sha.constants", laid_porter_sha_constants)] }
def HolderAddsSaid : Prop := holderAddsRow.holds Tryd.pinned (OpenSpec.ofChange holderAddsSpec)

/-- ITS FALSE NEIGHBOUR: 'it returns false'. Refute it at one input. -/
def holderAddsWrong : ChangeSpec := { name := "holderAdds", fn := fun _ => fun
  | [d1, d2, d3] => { results := [.lit (.bool false)], args := [d1, d2, d3] }
  | _ => none }
def HolderAddsWrongFalsely : Prop := holderAddsRow.holds Tryd.pinned (OpenSpec.ofChange holderAddsWrong)

/-- 'porterlaw35.HolderKnown': WHATEVER THE INPUT: true; the input reads as it did. -/
def holderKnownSpec : ChangeSpec := { name := "holderKnown", fn := fun _ => fun
  | [d1, d2, d3] => { results := [.lit (.bool true)], args := [d1, d2, d3] }
  | _ => none }
def holderKnownRow : OpenClaim := { program := "ytejhiekikblbiaadoor", sum := "2b4f29761c5db3e6a50eea943aaffb116a2da645e9f640c9dcf0dc7c7d1797f6", func := "porter/porterlaw35.HolderKnown", spec := "holderKnown", inPlace := ["internal/abi.NoEscape", "internal/bytealg.MakeNoZero"], unfollowed := true, recurses := true, named := ["porter/sha.constants"], apart := false, laid := [("porter/sha.constants", laid_porter_sha_constants)] }
def HolderKnownSaid : Prop := holderKnownRow.holds Tryd.pinned (OpenSpec.ofChange holderKnownSpec)

/-- ITS FALSE NEIGHBOUR: 'it returns false'. Refute it at one input. -/
def holderKnownWrong : ChangeSpec := { name := "holderKnown", fn := fun _ => fun
  | [d1, d2, d3] => { results := [.lit (.bool false)], args := [d1, d2, d3] }
  | _ => none }
def HolderKnownWrongFalsely : Prop := holderKnownRow.holds Tryd.pinned (OpenSpec.ofChange holderKnownWrong)

/-- 'porterlaw36.NotaryBack': WHATEVER THE INPUT: true; the input reads as it did. -/
def notaryBackSpec : ChangeSpec := { name := "notaryBack", fn := fun _ => fun
  | [d1, d2] => { results := [.lit (.bool true)], args := [d1, d2] }
  | _ => none }
def notaryBackRow : OpenClaim := { program := "ytejhiekikblbiaadoor", sum := "2b4f29761c5db3e6a50eea943aaffb116a2da645e9f640c9dcf0dc7c7d1797f6", func := "porter/porterlaw36.NotaryBack", spec := "notaryBack", inPlace := ["internal/abi.NoEscape", "internal/bytealg.MakeNoZero"], unfollowed := true, recurses := true, named := ["porter/sha.constants"], apart := false, laid := [("porter/sha.constants", laid_porter_sha_constants)] }
def NotaryBackSaid : Prop := notaryBackRow.holds Tryd.pinned (OpenSpec.ofChange notaryBackSpec)

/-- ITS FALSE NEIGHBOUR: 'it returns false'. Refute it at one input. -/
def notaryBackWrong : ChangeSpec := { name := "notaryBack", fn := fun _ => fun
  | [d1, d2] => { results := [.lit (.bool false)], args := [d1, d2] }
  | _ => none }
def NotaryBackWrongFalsely : Prop := notaryBackRow.holds Tryd.pinned (OpenSpec.ofChange notaryBackWrong)

/-- 'porterlaw36.NotaryForm': WHATEVER THE INPUT: true; the input reads as it did. -/
def notaryFormSpec : ChangeSpec := { name := "notaryForm", fn := fun _ => fun
  | [d1, d2] => { results := [.lit (.bool true)], args := [d1, d2] }
  | _ => none }
def notaryFormRow : OpenClaim := { program := "ytejhiekikblbiaadoor", sum := "2b4f29761c5db3e6a50eea943aaffb116a2da645e9f640c9dcf0dc7c7d1797f6", func := "porter/porterlaw36.NotaryForm", spec := "notaryForm", inPlace := ["internal/abi.NoEscape", "internal/bytealg.MakeNoZero"], unfollowed := true, recurses := true, named := ["porter/sha.constants"], apart := false, laid := [("porter/sha.constants", laid_porter_sha_constants)] }
def NotaryFormSaid : Prop := notaryFormRow.holds Tryd.pinned (OpenSpec.ofChange notaryFormSpec)

/-- ITS FALSE NEIGHBOUR: 'it returns false'. Refute it at one input. -/
def notaryFormWrong : ChangeSpec := { name := "notaryForm", fn := fun _ => fun
  | [d1, d2] => { results := [.lit (.bool false)], args := [d1, d2] }
  | _ => none }
def NotaryFormWrongFalsely : Prop := notaryFormRow.holds Tryd.pinned (OpenSpec.ofChange notaryFormWrong)

/-- 'porterlaw37.VerifyOne': WHATEVER THE INPUT: true; the input reads as it did. -/
def verifyOneSpec : ChangeSpec := { name := "verifyOne", fn := fun _ => fun
  | [d1, d2, d3] => { results := [.lit (.bool true)], args := [d1, d2, d3] }
  | _ => none }
def verifyOneRow : OpenClaim := { program := "ytejhiekikblbiaadoor", sum := "2b4f29761c5db3e6a50eea943aaffb116a2da645e9f640c9dcf0dc7c7d1797f6", func := "porter/porterlaw37.VerifyOne", spec := "verifyOne", inPlace := ["internal/abi.NoEscape", "internal/bytealg.MakeNoZero"], unfollowed := true, recurses := true, named := ["porter/sha.constants"], apart := false, laid := [("porter/sha.constants", laid_porter_sha_constants)] }
def VerifyOneSaid : Prop := verifyOneRow.holds Tryd.pinned (OpenSpec.ofChange verifyOneSpec)

/-- ITS FALSE NEIGHBOUR: 'it returns false'. Refute it at one input. -/
def verifyOneWrong : ChangeSpec := { name := "verifyOne", fn := fun _ => fun
  | [d1, d2, d3] => { results := [.lit (.bool false)], args := [d1, d2, d3] }
  | _ => none }
def VerifyOneWrongFalsely : Prop := verifyOneRow.holds Tryd.pinned (OpenSpec.ofChange verifyOneWrong)

/-- 'porterlaw37.VerifyHonest': WHATEVER THE INPUT: true; the input reads as it did. -/
def verifyHonestSpec : ChangeSpec := { name := "verifyHonest", fn := fun _ => fun
  | [d1, d2] => { results := [.lit (.bool true)], args := [d1, d2] }
  | _ => none }
def verifyHonestRow : OpenClaim := { program := "ytejhiekikblbiaadoor", sum := "2b4f29761c5db3e6a50eea943aaffb116a2da645e9f640c9dcf0dc7c7d1797f6", func := "porter/porterlaw37.VerifyHonest", spec := "verifyHonest", inPlace := ["internal/abi.NoEscape", "internal/bytealg.MakeNoZero"], unfollowed := true, recurses := true, named := ["porter/sha.constants"], apart := false, laid := [("porter/sha.constants", laid_porter_sha_constants)] }
def VerifyHonestSaid : Prop := verifyHonestRow.holds Tryd.pinned (OpenSpec.ofChange verifyHonestSpec)

/-- ITS FALSE NEIGHBOUR: 'it returns false'. Refute it at one input. -/
def verifyHonestWrong : ChangeSpec := { name := "verifyHonest", fn := fun _ => fun
  | [d1, d2] => { results := [.lit (.bool false)], args := [d1, d2] }
  | _ => none }
def VerifyHonestWrongFalsely : Prop := verifyHonestRow.holds Tryd.pinned (OpenSpec.ofChange verifyHonestWrong)

/- THE SECOND FORM. 'bulk': how many values and letters a reading holds, each counted each time it is reached (what is shared counts as often as it is met; a slice's spare places count too). A statement '..UptoSaid' is the law's where the arguments, and the package variables that the reading takes, are together of bulk at most 1048576: NARROWER than '..Said'. Prove '..Said' where nothing that the law and all that it calls make is longer than what came in: it says more and counts as full. Else prove '..UptoSaid'. A law counts once. -/
mutual
def uptoBulk {H : Type} : DataW H → Nat
  | .lit (.string bytes) => bytes.length + 1
  | .lit _ => 1
  | .nil => 1
  | .ptr d => uptoBulk d + 1
  | .slice elems spare => uptoBulkAll elems + uptoBulkAll spare + 1
  | .agg parts => uptoBulkAll parts + 1
  | .iface _ d => uptoBulk d + 1
  | .map entries => uptoBulkEntries entries + 1
  | .held _ => 1
def uptoBulkAll {H : Type} : List (DataW H) → Nat
  | [] => 0
  | d :: r => uptoBulk d + uptoBulkAll r
def uptoBulkEntries {H : Type} : List (Lit × DataW H) → Nat
  | [] => 0
  | x :: r => uptoBulkEntry x + uptoBulkEntries r
def uptoBulkEntry {H : Type} : Lit × DataW H → Nat
  | (.string bytes, d) => bytes.length + uptoBulk d + 1
  | (_, d) => uptoBulk d + 1
 end
def uptoSmall : (H : Type) → List (DataW H) → Bool := fun _ ds => decide (uptoBulkAll ds ≤ 1048576)
def OpenSpec.upto (s : _root_.Go.ChangeSpec) : _root_.Go.OpenSpec := { _root_.Go.OpenSpec.ofChange s with cond := some uptoSmall }

/-- 'porterlaw35.HolderBinds', WHERE WHAT IT READS IS OF BULK AT MOST 1048576: true; the input reads as it did. -/
def holderBindsUptoRow : OpenClaim := { program := "ytejhiekikblbiaadoor", sum := "2b4f29761c5db3e6a50eea943aaffb116a2da645e9f640c9dcf0dc7c7d1797f6", func := "porter/porterlaw35.HolderBinds", spec := "holderBinds", inPlace := ["internal/abi.NoEscape", "internal/bytealg.MakeNoZero"], named := ["porter/sha.constants"], apart := false, laid := [("porter/sha.constants", laid_porter_sha_constants)], narrowed := true }
def HolderBindsUptoSaid : Prop := holderBindsUptoRow.holds Tryd.pinned (OpenSpec.upto holderBindsSpec)

/-- 'porterlaw06.BoxOther', WHERE WHAT IT READS IS OF BULK AT MOST 1048576: true; the input reads as it did. -/
def boxOtherUptoRow : OpenClaim := { program := "ytejhiekikblbiaadoor", sum := "2b4f29761c5db3e6a50eea943aaffb116a2da645e9f640c9dcf0dc7c7d1797f6", func := "porter/porterlaw06.BoxOther", spec := "boxOther", inPlace := ["internal/abi.NoEscape", "internal/bytealg.MakeNoZero"], unfollowed := true, recurses := true, named := ["porter/sha.constants"], apart := false, laid := [("porter/sha.constants", laid_porter_sha_constants)], narrowed := true }
def BoxOtherUptoSaid : Prop := boxOtherUptoRow.holds Tryd.pinned (OpenSpec.upto boxOtherSpec)

/-- 'porterlaw35.HolderAdds', WHERE WHAT IT READS IS OF BULK AT MOST 1048576: true; the input reads as it did. -/
def holderAddsUptoRow : OpenClaim := { program := "ytejhiekikblbiaadoor", sum := "2b4f29761c5db3e6a50eea943aaffb116a2da645e9f640c9dcf0dc7c7d1797f6", func := "porter/porterlaw35.HolderAdds", spec := "holderAdds", inPlace := ["internal/abi.NoEscape", "internal/bytealg.MakeNoZero"], unfollowed := true, recurses := true, named := ["porter/sha.constants"], apart := false, laid := [("porter/sha.constants", laid_porter_sha_constants)], narrowed := true }
def HolderAddsUptoSaid : Prop := holderAddsUptoRow.holds Tryd.pinned (OpenSpec.upto holderAddsSpec)

/-- 'porterlaw35.HolderKnown', WHERE WHAT IT READS IS OF BULK AT MOST 1048576: true; the input reads as it did. -/
def holderKnownUptoRow : OpenClaim := { program := "ytejhiekikblbiaadoor", sum := "2b4f29761c5db3e6a50eea943aaffb116a2da645e9f640c9dcf0dc7c7d1797f6", func := "porter/porterlaw35.HolderKnown", spec := "holderKnown", inPlace := ["internal/abi.NoEscape", "internal/bytealg.MakeNoZero"], unfollowed := true, recurses := true, named := ["porter/sha.constants"], apart := false, laid := [("porter/sha.constants", laid_porter_sha_constants)], narrowed := true }
def HolderKnownUptoSaid : Prop := holderKnownUptoRow.holds Tryd.pinned (OpenSpec.upto holderKnownSpec)

/-- 'porterlaw36.NotaryBack', WHERE WHAT IT READS IS OF BULK AT MOST 1048576: true; the input reads as it did. -/
def notaryBackUptoRow : OpenClaim := { program := "ytejhiekikblbiaadoor", sum := "2b4f29761c5db3e6a50eea943aaffb116a2da645e9f640c9dcf0dc7c7d1797f6", func := "porter/porterlaw36.NotaryBack", spec := "notaryBack", inPlace := ["internal/abi.NoEscape", "internal/bytealg.MakeNoZero"], unfollowed := true, recurses := true, named := ["porter/sha.constants"], apart := false, laid := [("porter/sha.constants", laid_porter_sha_constants)], narrowed := true }
def NotaryBackUptoSaid : Prop := notaryBackUptoRow.holds Tryd.pinned (OpenSpec.upto notaryBackSpec)

/-- 'porterlaw36.NotaryForm', WHERE WHAT IT READS IS OF BULK AT MOST 1048576: true; the input reads as it did. -/
def notaryFormUptoRow : OpenClaim := { program := "ytejhiekikblbiaadoor", sum := "2b4f29761c5db3e6a50eea943aaffb116a2da645e9f640c9dcf0dc7c7d1797f6", func := "porter/porterlaw36.NotaryForm", spec := "notaryForm", inPlace := ["internal/abi.NoEscape", "internal/bytealg.MakeNoZero"], unfollowed := true, recurses := true, named := ["porter/sha.constants"], apart := false, laid := [("porter/sha.constants", laid_porter_sha_constants)], narrowed := true }
def NotaryFormUptoSaid : Prop := notaryFormUptoRow.holds Tryd.pinned (OpenSpec.upto notaryFormSpec)

/-- 'porterlaw37.VerifyOne', WHERE WHAT IT READS IS OF BULK AT MOST 1048576: true; the input reads as it did. -/
def verifyOneUptoRow : OpenClaim := { program := "ytejhiekikblbiaadoor", sum := "2b4f29761c5db3e6a50eea943aaffb116a2da645e9f640c9dcf0dc7c7d1797f6", func := "porter/porterlaw37.VerifyOne", spec := "verifyOne", inPlace := ["internal/abi.NoEscape", "internal/bytealg.MakeNoZero"], unfollowed := true, recurses := true, named := ["porter/sha.constants"], apart := false, laid := [("porter/sha.constants", laid_porter_sha_constants)], narrowed := true }
def VerifyOneUptoSaid : Prop := verifyOneUptoRow.holds Tryd.pinned (OpenSpec.upto verifyOneSpec)

/-- 'porterlaw37.VerifyHonest', WHERE WHAT IT READS IS OF BULK AT MOST 1048576: true; the input reads as it did. -/
def verifyHonestUptoRow : OpenClaim := { program := "ytejhiekikblbiaadoor", sum := "2b4f29761c5db3e6a50eea943aaffb116a2da645e9f640c9dcf0dc7c7d1797f6", func := "porter/porterlaw37.VerifyHonest", spec := "verifyHonest", inPlace := ["internal/abi.NoEscape", "internal/bytealg.MakeNoZero"], unfollowed := true, recurses := true, named := ["porter/sha.constants"], apart := false, laid := [("porter/sha.constants", laid_porter_sha_constants)], narrowed := true }
def VerifyHonestUptoSaid : Prop := verifyHonestUptoRow.holds Tryd.pinned (OpenSpec.upto verifyHonestSpec)

end Rows
end Go.Proofs.YtejhiekikblbiaaDoor
