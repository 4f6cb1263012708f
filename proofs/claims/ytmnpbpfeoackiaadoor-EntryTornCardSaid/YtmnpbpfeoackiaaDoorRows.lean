/-
  NARROWER THAN 'FOR EVERY INPUT', by the rows' own cells (each row's printed sentence says how): TokenPuts: laid · TokenGets: laid · TokenBack: laid · BundlePuts: laid · BundleGets: laid · BundleBack: laid · EntryWrites: laid · EntryReads: laid · EntryTorn: laid.
  DERIVED. THE GIVEN ROWS OF THIS SEAT. 9 by the template 'for every input the law returns true; each argument reads behind the call as it read before'; 0 by the template 'total and deterministic' (their statements: YtmnpbpfeoackiaaDoorTotals.lean).
  GIVEN WITH THE SEED: the statements are not yours to turn. If you find one false, say at which input.
  Laid BY PROGRAM, IN A SANDBOX (cutbox-rows.mjs): the forced cells as the released guide's own fill.sh prints them over the translation f69b791870a80810… (all of the seat's roots in one cut). By AI agents, Wed Nov 11 2026. No macro, syntax, notation, axiom, sorry.
-/
import Derived.Test.YtmnpbpfeoackiaaDoorChecked
import GoSem.Claim
import GoSem.ClaimJoined
import GoSem.ClaimMapViews
import Derived.JoinedTies
import Derived.KernelRfl
namespace Go.Proofs.YtmnpbpfeoackiaaDoor
/- THE CELL 'sum', in the pinned program and in every row, IS THE sha256 OF THE DUMP (.gsa) THAT YtmnpbpfeoackiaaDoorProg.lean LOADS. Nothing in Lean hashes anything: it is a label: what it is worth is what the hold of that sum in a sandbox is worth. -/
noncomputable def Tryd.pinned : Pinned := { name := "ytmnpbpfeoackiaadoor", sum := "f69b791870a80810caabf59bc8da5c38d6b66b63fc56c42ca3f94dfced0922ae", checked := Tryd.checked }
namespace Rows
def none {H : Type} : Left H := { results := [], args := [] }

/- WHAT THE LISTED PACKAGE-LEVEL VARIABLES READ AS WHEN THE CALL BEGINS. Each datum BY PROGRAM (the guide's laid-datum.mjs) off the statement by which the dump's own 'gosem.cut.vars' lays the variable. In a bare row this is a premise. The card (YtmnpbpfeoackiaaDoorCards.lean) ties it to the program's text. -/
def laid_errors_errorType {H : Type} : DataW H := .iface "internal/reflectlite.rtype" (.agg [.ptr (.lit (.string [101, 114, 114, 111, 114]))])
def laid_porter_sha_constants {H : Type} : DataW H := .agg [.lit (.int .u32 1116352408), .lit (.int .u32 1899447441), .lit (.int .u32 3049323471), .lit (.int .u32 3921009573), .lit (.int .u32 961987163), .lit (.int .u32 1508970993), .lit (.int .u32 2453635748), .lit (.int .u32 2870763221), .lit (.int .u32 3624381080), .lit (.int .u32 310598401), .lit (.int .u32 607225278), .lit (.int .u32 1426881987), .lit (.int .u32 1925078388), .lit (.int .u32 2162078206), .lit (.int .u32 2614888103), .lit (.int .u32 3248222580), .lit (.int .u32 3835390401), .lit (.int .u32 4022224774), .lit (.int .u32 264347078), .lit (.int .u32 604807628), .lit (.int .u32 770255983), .lit (.int .u32 1249150122), .lit (.int .u32 1555081692), .lit (.int .u32 1996064986), .lit (.int .u32 2554220882), .lit (.int .u32 2821834349), .lit (.int .u32 2952996808), .lit (.int .u32 3210313671), .lit (.int .u32 3336571891), .lit (.int .u32 3584528711), .lit (.int .u32 113926993), .lit (.int .u32 338241895), .lit (.int .u32 666307205), .lit (.int .u32 773529912), .lit (.int .u32 1294757372), .lit (.int .u32 1396182291), .lit (.int .u32 1695183700), .lit (.int .u32 1986661051), .lit (.int .u32 2177026350), .lit (.int .u32 2456956037), .lit (.int .u32 2730485921), .lit (.int .u32 2820302411), .lit (.int .u32 3259730800), .lit (.int .u32 3345764771), .lit (.int .u32 3516065817), .lit (.int .u32 3600352804), .lit (.int .u32 4094571909), .lit (.int .u32 275423344), .lit (.int .u32 430227734), .lit (.int .u32 506948616), .lit (.int .u32 659060556), .lit (.int .u32 883997877), .lit (.int .u32 958139571), .lit (.int .u32 1322822218), .lit (.int .u32 1537002063), .lit (.int .u32 1747873779), .lit (.int .u32 1955562222), .lit (.int .u32 2024104815), .lit (.int .u32 2227730452), .lit (.int .u32 2361852424), .lit (.int .u32 2428436474), .lit (.int .u32 2756734187), .lit (.int .u32 3204031479), .lit (.int .u32 3329325298)]

/-- 'porterlaw30.TokenPuts': WHATEVER THE INPUT: true; the input reads as it did. -/
def tokenPutsSpec : ChangeSpec := { name := "tokenPuts", fn := fun _ => fun
  | [d] => { results := [.lit (.bool true)], args := [d] }
  | _ => none }
def tokenPutsRow : OpenClaim := { program := "ytmnpbpfeoackiaadoor", sum := "f69b791870a80810caabf59bc8da5c38d6b66b63fc56c42ca3f94dfced0922ae", func := "porter/porterlaw30.TokenPuts", spec := "tokenPuts", inPlace := ["internal/reflectlite.ValueOf", "(internal/reflectlite.Value).Type", "(internal/reflectlite.Value).IsNil", "internal/reflectlite.TypeOf", "(internal/reflectlite.Value).Elem", "(internal/reflectlite.Value).Set", "internal/abi.NoEscape"], unfollowed := true, recurses := true, named := ["errors.errorType"], apart := false, laid := [("errors.errorType", laid_errors_errorType)] }
def TokenPutsSaid : Prop := tokenPutsRow.holds Tryd.pinned (OpenSpec.ofChange tokenPutsSpec)

/-- ITS FALSE NEIGHBOUR: 'it returns false'. Refute it at one input. -/
def tokenPutsWrong : ChangeSpec := { name := "tokenPuts", fn := fun _ => fun
  | [d] => { results := [.lit (.bool false)], args := [d] }
  | _ => none }
def TokenPutsWrongFalsely : Prop := tokenPutsRow.holds Tryd.pinned (OpenSpec.ofChange tokenPutsWrong)

/-- 'porterlaw30.TokenGets': WHATEVER THE INPUT: true; the input reads as it did. -/
def tokenGetsSpec : ChangeSpec := { name := "tokenGets", fn := fun _ => fun
  | [d] => { results := [.lit (.bool true)], args := [d] }
  | _ => none }
def tokenGetsRow : OpenClaim := { program := "ytmnpbpfeoackiaadoor", sum := "f69b791870a80810caabf59bc8da5c38d6b66b63fc56c42ca3f94dfced0922ae", func := "porter/porterlaw30.TokenGets", spec := "tokenGets", inPlace := ["internal/reflectlite.ValueOf", "(internal/reflectlite.Value).Type", "(internal/reflectlite.Value).IsNil", "internal/reflectlite.TypeOf", "(internal/reflectlite.Value).Elem", "(internal/reflectlite.Value).Set", "internal/abi.NoEscape"], unfollowed := true, recurses := true, named := ["errors.errorType"], apart := false, laid := [("errors.errorType", laid_errors_errorType)] }
def TokenGetsSaid : Prop := tokenGetsRow.holds Tryd.pinned (OpenSpec.ofChange tokenGetsSpec)

/-- ITS FALSE NEIGHBOUR: 'it returns false'. Refute it at one input. -/
def tokenGetsWrong : ChangeSpec := { name := "tokenGets", fn := fun _ => fun
  | [d] => { results := [.lit (.bool false)], args := [d] }
  | _ => none }
def TokenGetsWrongFalsely : Prop := tokenGetsRow.holds Tryd.pinned (OpenSpec.ofChange tokenGetsWrong)

/-- 'porterlaw30.TokenBack': WHATEVER THE INPUT: true; the input reads as it did. -/
def tokenBackSpec : ChangeSpec := { name := "tokenBack", fn := fun _ => fun
  | [d1, d2] => { results := [.lit (.bool true)], args := [d1, d2] }
  | _ => none }
def tokenBackRow : OpenClaim := { program := "ytmnpbpfeoackiaadoor", sum := "f69b791870a80810caabf59bc8da5c38d6b66b63fc56c42ca3f94dfced0922ae", func := "porter/porterlaw30.TokenBack", spec := "tokenBack", inPlace := ["internal/reflectlite.ValueOf", "(internal/reflectlite.Value).Type", "(internal/reflectlite.Value).IsNil", "internal/reflectlite.TypeOf", "(internal/reflectlite.Value).Elem", "(internal/reflectlite.Value).Set", "internal/abi.NoEscape"], unfollowed := true, recurses := true, named := ["errors.errorType"], apart := false, laid := [("errors.errorType", laid_errors_errorType)] }
def TokenBackSaid : Prop := tokenBackRow.holds Tryd.pinned (OpenSpec.ofChange tokenBackSpec)

/-- ITS FALSE NEIGHBOUR: 'it returns false'. Refute it at one input. -/
def tokenBackWrong : ChangeSpec := { name := "tokenBack", fn := fun _ => fun
  | [d1, d2] => { results := [.lit (.bool false)], args := [d1, d2] }
  | _ => none }
def TokenBackWrongFalsely : Prop := tokenBackRow.holds Tryd.pinned (OpenSpec.ofChange tokenBackWrong)

/-- 'porterlaw31.BundlePuts': WHATEVER THE INPUT: true; the input reads as it did. -/
def bundlePutsSpec : ChangeSpec := { name := "bundlePuts", fn := fun _ => fun
  | [d] => { results := [.lit (.bool true)], args := [d] }
  | _ => none }
def bundlePutsRow : OpenClaim := { program := "ytmnpbpfeoackiaadoor", sum := "f69b791870a80810caabf59bc8da5c38d6b66b63fc56c42ca3f94dfced0922ae", func := "porter/porterlaw31.BundlePuts", spec := "bundlePuts", inPlace := ["internal/reflectlite.ValueOf", "(internal/reflectlite.Value).Type", "(internal/reflectlite.Value).IsNil", "internal/reflectlite.TypeOf", "(internal/reflectlite.Value).Elem", "(internal/reflectlite.Value).Set", "internal/abi.NoEscape"], unfollowed := true, recurses := true, named := ["errors.errorType"], apart := false, laid := [("errors.errorType", laid_errors_errorType)] }
def BundlePutsSaid : Prop := bundlePutsRow.holds Tryd.pinned (OpenSpec.ofChange bundlePutsSpec)

/-- ITS FALSE NEIGHBOUR: 'it returns false'. Refute it at one input. -/
def bundlePutsWrong : ChangeSpec := { name := "bundlePuts", fn := fun _ => fun
  | [d] => { results := [.lit (.bool false)], args := [d] }
  | _ => none }
def BundlePutsWrongFalsely : Prop := bundlePutsRow.holds Tryd.pinned (OpenSpec.ofChange bundlePutsWrong)

/-- 'porterlaw31.BundleGets': WHATEVER THE INPUT: true; the input reads as it did. -/
def bundleGetsSpec : ChangeSpec := { name := "bundleGets", fn := fun _ => fun
  | [d] => { results := [.lit (.bool true)], args := [d] }
  | _ => none }
def bundleGetsRow : OpenClaim := { program := "ytmnpbpfeoackiaadoor", sum := "f69b791870a80810caabf59bc8da5c38d6b66b63fc56c42ca3f94dfced0922ae", func := "porter/porterlaw31.BundleGets", spec := "bundleGets", inPlace := ["internal/reflectlite.ValueOf", "(internal/reflectlite.Value).Type", "(internal/reflectlite.Value).IsNil", "internal/reflectlite.TypeOf", "(internal/reflectlite.Value).Elem", "(internal/reflectlite.Value).Set", "internal/abi.NoEscape"], unfollowed := true, recurses := true, named := ["errors.errorType"], apart := false, laid := [("errors.errorType", laid_errors_errorType)] }
def BundleGetsSaid : Prop := bundleGetsRow.holds Tryd.pinned (OpenSpec.ofChange bundleGetsSpec)

/-- ITS FALSE NEIGHBOUR: 'it returns false'. Refute it at one input. -/
def bundleGetsWrong : ChangeSpec := { name := "bundleGets", fn := fun _ => fun
  | [d] => { results := [.lit (.bool false)], args := [d] }
  | _ => none }
def BundleGetsWrongFalsely : Prop := bundleGetsRow.holds Tryd.pinned (OpenSpec.ofChange bundleGetsWrong)

/-- 'porterlaw31.BundleBack': WHATEVER THE INPUT: true; the input reads as it did. -/
def bundleBackSpec : ChangeSpec := { name := "bundleBack", fn := fun _ => fun
  | [d1, d2] => { results := [.lit (.bool true)], args := [d1, d2] }
  | _ => none }
def bundleBackRow : OpenClaim := { program := "ytmnpbpfeoackiaadoor", sum := "f69b791870a80810caabf59bc8da5c38d6b66b63fc56c42ca3f94dfced0922ae", func := "porter/porterlaw31.BundleBack", spec := "bundleBack", inPlace := ["internal/reflectlite.ValueOf", "(internal/reflectlite.Value).Type", "(internal/reflectlite.Value).IsNil", "internal/reflectlite.TypeOf", "(internal/reflectlite.Value).Elem", "(internal/reflectlite.Value).Set", "internal/abi.NoEscape"], unfollowed := true, recurses := true, named := ["errors.errorType"], apart := false, laid := [("errors.errorType", laid_errors_errorType)] }
def BundleBackSaid : Prop := bundleBackRow.holds Tryd.pinned (OpenSpec.ofChange bundleBackSpec)

/-- ITS FALSE NEIGHBOUR: 'it returns false'. Refute it at one input. -/
def bundleBackWrong : ChangeSpec := { name := "bundleBack", fn := fun _ => fun
  | [d1, d2] => { results := [.lit (.bool false)], args := [d1, d2] }
  | _ => none }
def BundleBackWrongFalsely : Prop := bundleBackRow.holds Tryd.pinned (OpenSpec.ofChange bundleBackWrong)

/-- 'porterlaw43.EntryWrites': WHATEVER THE INPUT: true; the input reads as it did. -/
def entryWritesSpec : ChangeSpec := { name := "entryWrites", fn := fun _ => fun
  | [d1, d2, d3] => { results := [.lit (.bool true)], args := [d1, d2, d3] }
  | _ => none }
def entryWritesRow : OpenClaim := { program := "ytmnpbpfeoackiaadoor", sum := "f69b791870a80810caabf59bc8da5c38d6b66b63fc56c42ca3f94dfced0922ae", func := "porter/porterlaw43.EntryWrites", spec := "entryWrites", inPlace := ["internal/abi.NoEscape", "internal/bytealg.MakeNoZero"], unfollowed := true, recurses := true, named := ["porter/sha.constants"], apart := false, laid := [("porter/sha.constants", laid_porter_sha_constants)] }
def EntryWritesSaid : Prop := entryWritesRow.holds Tryd.pinned (OpenSpec.ofChange entryWritesSpec)

/-- ITS FALSE NEIGHBOUR: 'it returns false'. Refute it at one input. -/
def entryWritesWrong : ChangeSpec := { name := "entryWrites", fn := fun _ => fun
  | [d1, d2, d3] => { results := [.lit (.bool false)], args := [d1, d2, d3] }
  | _ => none }
def EntryWritesWrongFalsely : Prop := entryWritesRow.holds Tryd.pinned (OpenSpec.ofChange entryWritesWrong)

/-- 'porterlaw43.EntryReads': WHATEVER THE INPUT: true; the input reads as it did. -/
def entryReadsSpec : ChangeSpec := { name := "entryReads", fn := fun _ => fun
  | [d1, d2] => { results := [.lit (.bool true)], args := [d1, d2] }
  | _ => none }
def entryReadsRow : OpenClaim := { program := "ytmnpbpfeoackiaadoor", sum := "f69b791870a80810caabf59bc8da5c38d6b66b63fc56c42ca3f94dfced0922ae", func := "porter/porterlaw43.EntryReads", spec := "entryReads", inPlace := ["internal/abi.NoEscape", "internal/bytealg.MakeNoZero"], unfollowed := true, recurses := true, named := ["porter/sha.constants"], apart := false, laid := [("porter/sha.constants", laid_porter_sha_constants)] }
def EntryReadsSaid : Prop := entryReadsRow.holds Tryd.pinned (OpenSpec.ofChange entryReadsSpec)

/-- ITS FALSE NEIGHBOUR: 'it returns false'. Refute it at one input. -/
def entryReadsWrong : ChangeSpec := { name := "entryReads", fn := fun _ => fun
  | [d1, d2] => { results := [.lit (.bool false)], args := [d1, d2] }
  | _ => none }
def EntryReadsWrongFalsely : Prop := entryReadsRow.holds Tryd.pinned (OpenSpec.ofChange entryReadsWrong)

/-- 'porterlaw43.EntryTorn': WHATEVER THE INPUT: true; the input reads as it did. -/
def entryTornSpec : ChangeSpec := { name := "entryTorn", fn := fun _ => fun
  | [d1, d2, d3] => { results := [.lit (.bool true)], args := [d1, d2, d3] }
  | _ => none }
def entryTornRow : OpenClaim := { program := "ytmnpbpfeoackiaadoor", sum := "f69b791870a80810caabf59bc8da5c38d6b66b63fc56c42ca3f94dfced0922ae", func := "porter/porterlaw43.EntryTorn", spec := "entryTorn", inPlace := ["internal/abi.NoEscape", "internal/bytealg.MakeNoZero"], unfollowed := true, recurses := true, named := ["porter/sha.constants"], apart := false, laid := [("porter/sha.constants", laid_porter_sha_constants)] }
def EntryTornSaid : Prop := entryTornRow.holds Tryd.pinned (OpenSpec.ofChange entryTornSpec)

/-- ITS FALSE NEIGHBOUR: 'it returns false'. Refute it at one input. -/
def entryTornWrong : ChangeSpec := { name := "entryTorn", fn := fun _ => fun
  | [d1, d2, d3] => { results := [.lit (.bool false)], args := [d1, d2, d3] }
  | _ => none }
def EntryTornWrongFalsely : Prop := entryTornRow.holds Tryd.pinned (OpenSpec.ofChange entryTornWrong)

/- THE SECOND FORM. 'bulk': how many values and letters a reading holds, each counted each time it is reached (what is shared counts as often as it is met; a slice's spare places count too). A statement '..UptoSaid' is the law's where the arguments, and the package variables that the reading takes, are together of bulk at most 1048576: NARROWER than '..Said'. Prove '..Said' where nothing that the law and all that it calls make is longer than what came in: it says more and counts as full. Else prove '..UptoSaid'. A law counts once. -/
mutual
def uptoBulk {H : Type} : DataW H → Nat
  | .lit (.string bytes) => bytes.length + 1
  | .lit _ => 1
  | .nil => 1
  | .ptr d => uptoBulk d + 1
  | .slice elems spare => uptoBulkAll elems + uptoBulkAll spare + 1
  | .agg parts => uptoBulkAll parts + 1
  | .iface _ d => uptoBulk d + 1
  | .map entries => uptoBulkEntries entries + 1
  | .held _ => 1
def uptoBulkAll {H : Type} : List (DataW H) → Nat
  | [] => 0
  | d :: r => uptoBulk d + uptoBulkAll r
def uptoBulkEntries {H : Type} : List (Lit × DataW H) → Nat
  | [] => 0
  | x :: r => uptoBulkEntry x + uptoBulkEntries r
def uptoBulkEntry {H : Type} : Lit × DataW H → Nat
  | (.string bytes, d) => bytes.length + uptoBulk d + 1
  | (_, d) => uptoBulk d + 1
 end
def uptoSmall : (H : Type) → List (DataW H) → Bool := fun _ ds => decide (uptoBulkAll ds ≤ 1048576)
def OpenSpec.upto (s : _root_.Go.ChangeSpec) : _root_.Go.OpenSpec := { _root_.Go.OpenSpec.ofChange s with cond := some uptoSmall }

/-- 'porterlaw30.TokenPuts', WHERE WHAT IT READS IS OF BULK AT MOST 1048576: true; the input reads as it did. -/
def tokenPutsUptoRow : OpenClaim := { program := "ytmnpbpfeoackiaadoor", sum := "f69b791870a80810caabf59bc8da5c38d6b66b63fc56c42ca3f94dfced0922ae", func := "porter/porterlaw30.TokenPuts", spec := "tokenPuts", inPlace := ["internal/reflectlite.ValueOf", "(internal/reflectlite.Value).Type", "(internal/reflectlite.Value).IsNil", "internal/reflectlite.TypeOf", "(internal/reflectlite.Value).Elem", "(internal/reflectlite.Value).Set", "internal/abi.NoEscape"], unfollowed := true, recurses := true, named := ["errors.errorType"], apart := false, laid := [("errors.errorType", laid_errors_errorType)], narrowed := true }
def TokenPutsUptoSaid : Prop := tokenPutsUptoRow.holds Tryd.pinned (OpenSpec.upto tokenPutsSpec)

/-- 'porterlaw30.TokenGets', WHERE WHAT IT READS IS OF BULK AT MOST 1048576: true; the input reads as it did. -/
def tokenGetsUptoRow : OpenClaim := { program := "ytmnpbpfeoackiaadoor", sum := "f69b791870a80810caabf59bc8da5c38d6b66b63fc56c42ca3f94dfced0922ae", func := "porter/porterlaw30.TokenGets", spec := "tokenGets", inPlace := ["internal/reflectlite.ValueOf", "(internal/reflectlite.Value).Type", "(internal/reflectlite.Value).IsNil", "internal/reflectlite.TypeOf", "(internal/reflectlite.Value).Elem", "(internal/reflectlite.Value).Set", "internal/abi.NoEscape"], unfollowed := true, recurses := true, named := ["errors.errorType"], apart := false, laid := [("errors.errorType", laid_errors_errorType)], narrowed := true }
def TokenGetsUptoSaid : Prop := tokenGetsUptoRow.holds Tryd.pinned (OpenSpec.upto tokenGetsSpec)

/-- 'porterlaw30.TokenBack', WHERE WHAT IT READS IS OF BULK AT MOST 1048576: true; the input reads as it did. -/
def tokenBackUptoRow : OpenClaim := { program := "ytmnpbpfeoackiaadoor", sum := "f69b791870a80810caabf59bc8da5c38d6b66b63fc56c42ca3f94dfced0922ae", func := "porter/porterlaw30.TokenBack", spec := "tokenBack", inPlace := ["internal/reflectlite.ValueOf", "(internal/reflectlite.Value).Type", "(internal/reflectlite.Value).IsNil", "internal/reflectlite.TypeOf", "(internal/reflectlite.Value).Elem", "(internal/reflectlite.Value).Set", "internal/abi.NoEscape"], unfollowed := true, recurses := true, named := ["errors.errorType"], apart := false, laid := [("errors.errorType", laid_errors_errorType)], narrowed := true }
def TokenBackUptoSaid : Prop := tokenBackUptoRow.holds Tryd.pinned (OpenSpec.upto tokenBackSpec)

/-- 'porterlaw31.BundlePuts', WHERE WHAT IT READS IS OF BULK AT MOST 1048576: true; the input reads as it did. -/
def bundlePutsUptoRow : OpenClaim := { program := "ytmnpbpfeoackiaadoor", sum := "f69b791870a80810caabf59bc8da5c38d6b66b63fc56c42ca3f94dfced0922ae", func := "porter/porterlaw31.BundlePuts", spec := "bundlePuts", inPlace := ["internal/reflectlite.ValueOf", "(internal/reflectlite.Value).Type", "(internal/reflectlite.Value).IsNil", "internal/reflectlite.TypeOf", "(internal/reflectlite.Value).Elem", "(internal/reflectlite.Value).Set", "internal/abi.NoEscape"], unfollowed := true, recurses := true, named := ["errors.errorType"], apart := false, laid := [("errors.errorType", laid_errors_errorType)], narrowed := true }
def BundlePutsUptoSaid : Prop := bundlePutsUptoRow.holds Tryd.pinned (OpenSpec.upto bundlePutsSpec)

/-- 'porterlaw31.BundleGets', WHERE WHAT IT READS IS OF BULK AT MOST 1048576: true; the input reads as it did. -/
def bundleGetsUptoRow : OpenClaim := { program := "ytmnpbpfeoackiaadoor", sum := "f69b791870a80810caabf59bc8da5c38d6b66b63fc56c42ca3f94dfced0922ae", func := "porter/porterlaw31.BundleGets", spec := "bundleGets", inPlace := ["internal/reflectlite.ValueOf", "(internal/reflectlite.Value).Type", "(internal/reflectlite.Value).IsNil", "internal/reflectlite.TypeOf", "(internal/reflectlite.Value).Elem", "(internal/reflectlite.Value).Set", "internal/abi.NoEscape"], unfollowed := true, recurses := true, named := ["errors.errorType"], apart := false, laid := [("errors.errorType", laid_errors_errorType)], narrowed := true }
def BundleGetsUptoSaid : Prop := bundleGetsUptoRow.holds Tryd.pinned (OpenSpec.upto bundleGetsSpec)

/-- 'porterlaw31.BundleBack', WHERE WHAT IT READS IS OF BULK AT MOST 1048576: true; the input reads as it did. -/
def bundleBackUptoRow : OpenClaim := { program := "ytmnpbpfeoackiaadoor", sum := "f69b791870a80810caabf59bc8da5c38d6b66b63fc56c42ca3f94dfced0922ae", func := "porter/porterlaw31.BundleBack", spec := "bundleBack", inPlace := ["internal/reflectlite.ValueOf", "(internal/reflectlite.Value).Type", "(internal/reflectlite.Value).IsNil", "internal/reflectlite.TypeOf", "(internal/reflectlite.Value).Elem", "(internal/reflectlite.Value).Set", "internal/abi.NoEscape"], unfollowed := true, recurses := true, named := ["errors.errorType"], apart := false, laid := [("errors.errorType", laid_errors_errorType)], narrowed := true }
def BundleBackUptoSaid : Prop := bundleBackUptoRow.holds Tryd.pinned (OpenSpec.upto bundleBackSpec)

/-- 'porterlaw43.EntryWrites', WHERE WHAT IT READS IS OF BULK AT MOST 1048576: true; the input reads as it did. -/
def entryWritesUptoRow : OpenClaim := { program := "ytmnpbpfeoackiaadoor", sum := "f69b791870a80810caabf59bc8da5c38d6b66b63fc56c42ca3f94dfced0922ae", func := "porter/porterlaw43.EntryWrites", spec := "entryWrites", inPlace := ["internal/abi.NoEscape", "internal/bytealg.MakeNoZero"], unfollowed := true, recurses := true, named := ["porter/sha.constants"], apart := false, laid := [("porter/sha.constants", laid_porter_sha_constants)], narrowed := true }
def EntryWritesUptoSaid : Prop := entryWritesUptoRow.holds Tryd.pinned (OpenSpec.upto entryWritesSpec)

/-- 'porterlaw43.EntryReads', WHERE WHAT IT READS IS OF BULK AT MOST 1048576: true; the input reads as it did. -/
def entryReadsUptoRow : OpenClaim := { program := "ytmnpbpfeoackiaadoor", sum := "f69b791870a80810caabf59bc8da5c38d6b66b63fc56c42ca3f94dfced0922ae", func := "porter/porterlaw43.EntryReads", spec := "entryReads", inPlace := ["internal/abi.NoEscape", "internal/bytealg.MakeNoZero"], unfollowed := true, recurses := true, named := ["porter/sha.constants"], apart := false, laid := [("porter/sha.constants", laid_porter_sha_constants)], narrowed := true }
def EntryReadsUptoSaid : Prop := entryReadsUptoRow.holds Tryd.pinned (OpenSpec.upto entryReadsSpec)

/-- 'porterlaw43.EntryTorn', WHERE WHAT IT READS IS OF BULK AT MOST 1048576: true; the input reads as it did. -/
def entryTornUptoRow : OpenClaim := { program := "ytmnpbpfeoackiaadoor", sum := "f69b791870a80810caabf59bc8da5c38d6b66b63fc56c42ca3f94dfced0922ae", func := "porter/porterlaw43.EntryTorn", spec := "entryTorn", inPlace := ["internal/abi.NoEscape", "internal/bytealg.MakeNoZero"], unfollowed := true, recurses := true, named := ["porter/sha.constants"], apart := false, laid := [("porter/sha.constants", laid_porter_sha_constants)], narrowed := true }
def EntryTornUptoSaid : Prop := entryTornUptoRow.holds Tryd.pinned (OpenSpec.upto entryTornSpec)

end Rows
end Go.Proofs.YtmnpbpfeoackiaaDoor
