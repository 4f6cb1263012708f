/-
  NARROWER THAN 'FOR EVERY INPUT', by the rows' own cells (each row's printed sentence says how): HmacApart: laid · ChainTags: laid · ChainApart: laid · ChainOn: laid · ChainMakes: laid · StreamBytes: laid · StreamBack: laid · StreamBegins: laid · HmacFrames: laid · HmacSums: laid.
  DERIVED. THE GIVEN ROWS OF THIS SEAT. 10 by the template 'for every input the law returns true; each argument reads behind the call as it read before'; 0 by the template 'total and deterministic' (their statements: YteffocenfkcofaaDoorTotals.lean).
  GIVEN WITH THE SEED: the statements are not yours to turn. If you find one false, say at which input.
  Laid BY PROGRAM, IN A SANDBOX (cutbox-rows.mjs): the forced cells as the released guide's own fill.sh prints them over the translation 45765adf7bede2b9… (all of the seat's roots in one cut). By AI agents, Wed Nov 11 2026. No macro, syntax, notation, axiom, sorry.
-/
import Derived.Test.YteffocenfkcofaaDoorChecked
import GoSem.Claim
import GoSem.ClaimJoined
import GoSem.ClaimMapViews
import Derived.JoinedTies
import Derived.KernelRfl
namespace Go.Proofs.YteffocenfkcofaaDoor
/- THE CELL 'sum', in the pinned program and in every row, IS THE sha256 OF THE DUMP (.gsa) THAT YteffocenfkcofaaDoorProg.lean LOADS. Nothing in Lean hashes anything: it is a label: what it is worth is what the hold of that sum in a sandbox is worth. -/
noncomputable def Tryd.pinned : Pinned := { name := "yteffocenfkcofaadoor", sum := "45765adf7bede2b98ead718f42faa3d497dbc418fabb1be60118833a3cabd8cd", checked := Tryd.checked }
namespace Rows
def none {H : Type} : Left H := { results := [], args := [] }

/- WHAT THE LISTED PACKAGE-LEVEL VARIABLES READ AS WHEN THE CALL BEGINS. Each datum BY PROGRAM (the guide's laid-datum.mjs) off the statement by which the dump's own 'gosem.cut.vars' lays the variable. In a bare row this is a premise. The card (YteffocenfkcofaaDoorCards.lean) ties it to the program's text. -/
def laid_porter_sha_constants {H : Type} : DataW H := .agg [.lit (.int .u32 1116352408), .lit (.int .u32 1899447441), .lit (.int .u32 3049323471), .lit (.int .u32 3921009573), .lit (.int .u32 961987163), .lit (.int .u32 1508970993), .lit (.int .u32 2453635748), .lit (.int .u32 2870763221), .lit (.int .u32 3624381080), .lit (.int .u32 310598401), .lit (.int .u32 607225278), .lit (.int .u32 1426881987), .lit (.int .u32 1925078388), .lit (.int .u32 2162078206), .lit (.int .u32 2614888103), .lit (.int .u32 3248222580), .lit (.int .u32 3835390401), .lit (.int .u32 4022224774), .lit (.int .u32 264347078), .lit (.int .u32 604807628), .lit (.int .u32 770255983), .lit (.int .u32 1249150122), .lit (.int .u32 1555081692), .lit (.int .u32 1996064986), .lit (.int .u32 2554220882), .lit (.int .u32 2821834349), .lit (.int .u32 2952996808), .lit (.int .u32 3210313671), .lit (.int .u32 3336571891), .lit (.int .u32 3584528711), .lit (.int .u32 113926993), .lit (.int .u32 338241895), .lit (.int .u32 666307205), .lit (.int .u32 773529912), .lit (.int .u32 1294757372), .lit (.int .u32 1396182291), .lit (.int .u32 1695183700), .lit (.int .u32 1986661051), .lit (.int .u32 2177026350), .lit (.int .u32 2456956037), .lit (.int .u32 2730485921), .lit (.int .u32 2820302411), .lit (.int .u32 3259730800), .lit (.int .u32 3345764771), .lit (.int .u32 3516065817), .lit (.int .u32 3600352804), .lit (.int .u32 4094571909), .lit (.int .u32 275423344), .lit (.int .u32 430227734), .lit (.int .u32 506948616), .lit (.int .u32 659060556), .lit (.int .u32 883997877), .lit (.int .u32 958139571), .lit (.int .u32 1322822218), .lit (.int .u32 1537002063), .lit (.int .u32 1747873779), .lit (.int .u32 1955562222), .lit (.int .u32 2024104815), .lit (.int .u32 2227730452), .lit (.int .u32 2361852424), .lit (.int .u32 2428436474), .lit (.int .u32 2756734187), .lit (.int .u32 3204031479), .lit (.int .u32 3329325298)]

/-- 'porterlaw04.HmacApart': WHATEVER THE INPUT: true; the input reads as it did. -/
def hmacApartSpec : ChangeSpec := { name := "hmacApart", fn := fun _ => fun
  | [d1, d2] => { results := [.lit (.bool true)], args := [d1, d2] }
  | _ => none }
def hmacApartRow : OpenClaim := { program := "yteffocenfkcofaadoor", sum := "45765adf7bede2b98ead718f42faa3d497dbc418fabb1be60118833a3cabd8cd", func := "porter/porterlaw04.HmacApart", spec := "hmacApart", inPlace := ["internal/abi.NoEscape", "internal/bytealg.MakeNoZero"], unfollowed := true, recurses := true, named := ["porter/sha.constants"], apart := false, laid := [("porter/sha.constants", laid_porter_sha_constants)] }
def HmacApartSaid : Prop := hmacApartRow.holds Tryd.pinned (OpenSpec.ofChange hmacApartSpec)

/-- ITS FALSE NEIGHBOUR: 'it returns false'. Refute it at one input. -/
def hmacApartWrong : ChangeSpec := { name := "hmacApart", fn := fun _ => fun
  | [d1, d2] => { results := [.lit (.bool false)], args := [d1, d2] }
  | _ => none }
def HmacApartWrongFalsely : Prop := hmacApartRow.holds Tryd.pinned (OpenSpec.ofChange hmacApartWrong)

/-- 'porterlaw34.ChainTags': WHATEVER THE INPUT: true; the input reads as it did. -/
def chainTagsSpec : ChangeSpec := { name := "chainTags", fn := fun _ => fun
  | [d1, d2] => { results := [.lit (.bool true)], args := [d1, d2] }
  | _ => none }
def chainTagsRow : OpenClaim := { program := "yteffocenfkcofaadoor", sum := "45765adf7bede2b98ead718f42faa3d497dbc418fabb1be60118833a3cabd8cd", func := "porter/porterlaw34.ChainTags", spec := "chainTags", inPlace := ["internal/abi.NoEscape", "internal/bytealg.MakeNoZero"], unfollowed := true, recurses := true, named := ["porter/sha.constants"], apart := false, laid := [("porter/sha.constants", laid_porter_sha_constants)] }
def ChainTagsSaid : Prop := chainTagsRow.holds Tryd.pinned (OpenSpec.ofChange chainTagsSpec)

/-- ITS FALSE NEIGHBOUR: 'it returns false'. Refute it at one input. -/
def chainTagsWrong : ChangeSpec := { name := "chainTags", fn := fun _ => fun
  | [d1, d2] => { results := [.lit (.bool false)], args := [d1, d2] }
  | _ => none }
def ChainTagsWrongFalsely : Prop := chainTagsRow.holds Tryd.pinned (OpenSpec.ofChange chainTagsWrong)

/-- 'porterlaw34.ChainApart': WHATEVER THE INPUT: true; the input reads as it did. -/
def chainApartSpec : ChangeSpec := { name := "chainApart", fn := fun _ => fun
  | [d1, d2, d3] => { results := [.lit (.bool true)], args := [d1, d2, d3] }
  | _ => none }
def chainApartRow : OpenClaim := { program := "yteffocenfkcofaadoor", sum := "45765adf7bede2b98ead718f42faa3d497dbc418fabb1be60118833a3cabd8cd", func := "porter/porterlaw34.ChainApart", spec := "chainApart", inPlace := ["internal/abi.NoEscape", "internal/bytealg.MakeNoZero"], unfollowed := true, recurses := true, named := ["porter/sha.constants"], apart := false, laid := [("porter/sha.constants", laid_porter_sha_constants)] }
def ChainApartSaid : Prop := chainApartRow.holds Tryd.pinned (OpenSpec.ofChange chainApartSpec)

/-- ITS FALSE NEIGHBOUR: 'it returns false'. Refute it at one input. -/
def chainApartWrong : ChangeSpec := { name := "chainApart", fn := fun _ => fun
  | [d1, d2, d3] => { results := [.lit (.bool false)], args := [d1, d2, d3] }
  | _ => none }
def ChainApartWrongFalsely : Prop := chainApartRow.holds Tryd.pinned (OpenSpec.ofChange chainApartWrong)

/-- 'porterlaw34.ChainOn': WHATEVER THE INPUT: true; the input reads as it did. -/
def chainOnSpec : ChangeSpec := { name := "chainOn", fn := fun _ => fun
  | [d1, d2, d3] => { results := [.lit (.bool true)], args := [d1, d2, d3] }
  | _ => none }
def chainOnRow : OpenClaim := { program := "yteffocenfkcofaadoor", sum := "45765adf7bede2b98ead718f42faa3d497dbc418fabb1be60118833a3cabd8cd", func := "porter/porterlaw34.ChainOn", spec := "chainOn", inPlace := ["internal/abi.NoEscape", "internal/bytealg.MakeNoZero"], unfollowed := true, recurses := true, named := ["porter/sha.constants"], apart := false, laid := [("porter/sha.constants", laid_porter_sha_constants)] }
def ChainOnSaid : Prop := chainOnRow.holds Tryd.pinned (OpenSpec.ofChange chainOnSpec)

/-- ITS FALSE NEIGHBOUR: 'it returns false'. Refute it at one input. -/
def chainOnWrong : ChangeSpec := { name := "chainOn", fn := fun _ => fun
  | [d1, d2, d3] => { results := [.lit (.bool false)], args := [d1, d2, d3] }
  | _ => none }
def ChainOnWrongFalsely : Prop := chainOnRow.holds Tryd.pinned (OpenSpec.ofChange chainOnWrong)

/-- 'porterlaw34.ChainMakes': WHATEVER THE INPUT: true; the input reads as it did. -/
def chainMakesSpec : ChangeSpec := { name := "chainMakes", fn := fun _ => fun
  | [d1, d2, d3] => { results := [.lit (.bool true)], args := [d1, d2, d3] }
  | _ => none }
def chainMakesRow : OpenClaim := { program := "yteffocenfkcofaadoor", sum := "45765adf7bede2b98ead718f42faa3d497dbc418fabb1be60118833a3cabd8cd", func := "porter/porterlaw34.ChainMakes", spec := "chainMakes", inPlace := ["internal/abi.NoEscape", "internal/bytealg.MakeNoZero"], unfollowed := true, recurses := true, named := ["porter/sha.constants"], apart := false, laid := [("porter/sha.constants", laid_porter_sha_constants)] }
def ChainMakesSaid : Prop := chainMakesRow.holds Tryd.pinned (OpenSpec.ofChange chainMakesSpec)

/-- ITS FALSE NEIGHBOUR: 'it returns false'. Refute it at one input. -/
def chainMakesWrong : ChangeSpec := { name := "chainMakes", fn := fun _ => fun
  | [d1, d2, d3] => { results := [.lit (.bool false)], args := [d1, d2, d3] }
  | _ => none }
def ChainMakesWrongFalsely : Prop := chainMakesRow.holds Tryd.pinned (OpenSpec.ofChange chainMakesWrong)

/-- 'porterlaw05.StreamBytes': WHATEVER THE INPUT: true; the input reads as it did. -/
def streamBytesSpec : ChangeSpec := { name := "streamBytes", fn := fun _ => fun
  | [d1, d2, d3] => { results := [.lit (.bool true)], args := [d1, d2, d3] }
  | _ => none }
def streamBytesRow : OpenClaim := { program := "yteffocenfkcofaadoor", sum := "45765adf7bede2b98ead718f42faa3d497dbc418fabb1be60118833a3cabd8cd", func := "porter/porterlaw05.StreamBytes", spec := "streamBytes", inPlace := ["internal/abi.NoEscape", "internal/bytealg.MakeNoZero"], unfollowed := true, recurses := true, named := ["porter/sha.constants"], apart := false, laid := [("porter/sha.constants", laid_porter_sha_constants)] }
def StreamBytesSaid : Prop := streamBytesRow.holds Tryd.pinned (OpenSpec.ofChange streamBytesSpec)

/-- ITS FALSE NEIGHBOUR: 'it returns false'. Refute it at one input. -/
def streamBytesWrong : ChangeSpec := { name := "streamBytes", fn := fun _ => fun
  | [d1, d2, d3] => { results := [.lit (.bool false)], args := [d1, d2, d3] }
  | _ => none }
def StreamBytesWrongFalsely : Prop := streamBytesRow.holds Tryd.pinned (OpenSpec.ofChange streamBytesWrong)

/-- 'porterlaw05.StreamBack': WHATEVER THE INPUT: true; the input reads as it did. -/
def streamBackSpec : ChangeSpec := { name := "streamBack", fn := fun _ => fun
  | [d1, d2, d3] => { results := [.lit (.bool true)], args := [d1, d2, d3] }
  | _ => none }
def streamBackRow : OpenClaim := { program := "yteffocenfkcofaadoor", sum := "45765adf7bede2b98ead718f42faa3d497dbc418fabb1be60118833a3cabd8cd", func := "porter/porterlaw05.StreamBack", spec := "streamBack", inPlace := ["internal/abi.NoEscape", "internal/bytealg.MakeNoZero"], unfollowed := true, recurses := true, named := ["porter/sha.constants"], apart := false, laid := [("porter/sha.constants", laid_porter_sha_constants)] }
def StreamBackSaid : Prop := streamBackRow.holds Tryd.pinned (OpenSpec.ofChange streamBackSpec)

/-- ITS FALSE NEIGHBOUR: 'it returns false'. Refute it at one input. -/
def streamBackWrong : ChangeSpec := { name := "streamBack", fn := fun _ => fun
  | [d1, d2, d3] => { results := [.lit (.bool false)], args := [d1, d2, d3] }
  | _ => none }
def StreamBackWrongFalsely : Prop := streamBackRow.holds Tryd.pinned (OpenSpec.ofChange streamBackWrong)

/-- 'porterlaw05.StreamBegins': WHATEVER THE INPUT: true; the input reads as it did. -/
def streamBeginsSpec : ChangeSpec := { name := "streamBegins", fn := fun _ => fun
  | [d1, d2, d3] => { results := [.lit (.bool true)], args := [d1, d2, d3] }
  | _ => none }
def streamBeginsRow : OpenClaim := { program := "yteffocenfkcofaadoor", sum := "45765adf7bede2b98ead718f42faa3d497dbc418fabb1be60118833a3cabd8cd", func := "porter/porterlaw05.StreamBegins", spec := "streamBegins", inPlace := ["internal/abi.NoEscape", "internal/bytealg.MakeNoZero"], unfollowed := true, recurses := true, named := ["porter/sha.constants"], apart := false, laid := [("porter/sha.constants", laid_porter_sha_constants)] }
def StreamBeginsSaid : Prop := streamBeginsRow.holds Tryd.pinned (OpenSpec.ofChange streamBeginsSpec)

/-- ITS FALSE NEIGHBOUR: 'it returns false'. Refute it at one input. -/
def streamBeginsWrong : ChangeSpec := { name := "streamBegins", fn := fun _ => fun
  | [d1, d2, d3] => { results := [.lit (.bool false)], args := [d1, d2, d3] }
  | _ => none }
def StreamBeginsWrongFalsely : Prop := streamBeginsRow.holds Tryd.pinned (OpenSpec.ofChange streamBeginsWrong)

/-- 'porterlaw04.HmacFrames': WHATEVER THE INPUT: true; the input reads as it did. -/
def hmacFramesSpec : ChangeSpec := { name := "hmacFrames", fn := fun _ => fun
  | [d1, d2] => { results := [.lit (.bool true)], args := [d1, d2] }
  | _ => none }
def hmacFramesRow : OpenClaim := { program := "yteffocenfkcofaadoor", sum := "45765adf7bede2b98ead718f42faa3d497dbc418fabb1be60118833a3cabd8cd", func := "porter/porterlaw04.HmacFrames", spec := "hmacFrames", inPlace := ["internal/abi.NoEscape", "internal/bytealg.MakeNoZero"], unfollowed := true, recurses := true, named := ["porter/sha.constants"], apart := false, laid := [("porter/sha.constants", laid_porter_sha_constants)] }
def HmacFramesSaid : Prop := hmacFramesRow.holds Tryd.pinned (OpenSpec.ofChange hmacFramesSpec)

/-- ITS FALSE NEIGHBOUR: 'it returns false'. Refute it at one input. -/
def hmacFramesWrong : ChangeSpec := { name := "hmacFrames", fn := fun _ => fun
  | [d1, d2] => { results := [.lit (.bool false)], args := [d1, d2] }
  | _ => none }
def HmacFramesWrongFalsely : Prop := hmacFramesRow.holds Tryd.pinned (OpenSpec.ofChange hmacFramesWrong)

/-- 'porterlaw04.HmacSums': WHATEVER THE INPUT: true; the input reads as it did. -/
def hmacSumsSpec : ChangeSpec := { name := "hmacSums", fn := fun _ => fun
  | [d1, d2, d3] => { results := [.lit (.bool true)], args := [d1, d2, d3] }
  | _ => none }
def hmacSumsRow : OpenClaim := { program := "yteffocenfkcofaadoor", sum := "45765adf7bede2b98ead718f42faa3d497dbc418fabb1be60118833a3cabd8cd", func := "porter/porterlaw04.HmacSums", spec := "hmacSums", inPlace := ["internal/abi.NoEscape", "internal/bytealg.MakeNoZero"], unfollowed := true, recurses := true, named := ["porter/sha.constants"], apart := false, laid := [("porter/sha.constants", laid_porter_sha_constants)] }
def HmacSumsSaid : Prop := hmacSumsRow.holds Tryd.pinned (OpenSpec.ofChange hmacSumsSpec)

/-- ITS FALSE NEIGHBOUR: 'it returns false'. Refute it at one input. -/
def hmacSumsWrong : ChangeSpec := { name := "hmacSums", fn := fun _ => fun
  | [d1, d2, d3] => { results := [.lit (.bool false)], args := [d1, d2, d3] }
  | _ => none }
def HmacSumsWrongFalsely : Prop := hmacSumsRow.holds Tryd.pinned (OpenSpec.ofChange hmacSumsWrong)

/- THE SECOND FORM. 'bulk': how many values and letters a reading holds, each counted each time it is reached (what is shared counts as often as it is met; a slice's spare places count too). A statement '..UptoSaid' is the law's where the arguments, and the package variables that the reading takes, are together of bulk at most 1048576: NARROWER than '..Said'. Prove '..Said' where nothing that the law and all that it calls make is longer than what came in: it says more and counts as full. Else prove '..UptoSaid'. A law counts once. -/
mutual
def uptoBulk {H : Type} : DataW H → Nat
  | .lit (.string bytes) => bytes.length + 1
  | .lit _ => 1
  | .nil => 1
  | .ptr d => uptoBulk d + 1
  | .slice elems spare => uptoBulkAll elems + uptoBulkAll spare + 1
  | .agg parts => uptoBulkAll parts + 1
  | .iface _ d => uptoBulk d + 1
  | .map entries => uptoBulkEntries entries + 1
  | .held _ => 1
def uptoBulkAll {H : Type} : List (DataW H) → Nat
  | [] => 0
  | d :: r => uptoBulk d + uptoBulkAll r
def uptoBulkEntries {H : Type} : List (Lit × DataW H) → Nat
  | [] => 0
  | x :: r => uptoBulkEntry x + uptoBulkEntries r
def uptoBulkEntry {H : Type} : Lit × DataW H → Nat
  | (.string bytes, d) => bytes.length + uptoBulk d + 1
  | (_, d) => uptoBulk d + 1
 end
def uptoSmall : (H : Type) → List (DataW H) → Bool := fun _ ds => decide (uptoBulkAll ds ≤ 1048576)
def OpenSpec.upto (s : _root_.Go.ChangeSpec) : _root_.Go.OpenSpec := { _root_.Go.OpenSpec.ofChange s with cond := some uptoSmall }

/-- 'porterlaw04.HmacApart', WHERE WHAT IT READS IS OF BULK AT MOST 1048576: true; the input reads as it did. -/
def hmacApartUptoRow : OpenClaim := { program := "yteffocenfkcofaadoor", sum := "45765adf7bede2b98ead718f42faa3d497dbc418fabb1be60118833a3cabd8cd", func := "porter/porterlaw04.HmacApart", spec := "hmacApart", inPlace := ["internal/abi.NoEscape", "internal/bytealg.MakeNoZero"], unfollowed := true, recurses := true, named := ["porter/sha.constants"], apart := false, laid := [("porter/sha.constants", laid_porter_sha_constants)], narrowed := true }
def HmacApartUptoSaid : Prop := hmacApartUptoRow.holds Tryd.pinned (OpenSpec.upto hmacApartSpec)

/-- 'porterlaw34.ChainTags', WHERE WHAT IT READS IS OF BULK AT MOST 1048576: true; the input reads as it did. -/
def chainTagsUptoRow : OpenClaim := { program := "yteffocenfkcofaadoor", sum := "45765adf7bede2b98ead718f42faa3d497dbc418fabb1be60118833a3cabd8cd", func := "porter/porterlaw34.ChainTags", spec := "chainTags", inPlace := ["internal/abi.NoEscape", "internal/bytealg.MakeNoZero"], unfollowed := true, recurses := true, named := ["porter/sha.constants"], apart := false, laid := [("porter/sha.constants", laid_porter_sha_constants)], narrowed := true }
def ChainTagsUptoSaid : Prop := chainTagsUptoRow.holds Tryd.pinned (OpenSpec.upto chainTagsSpec)

/-- 'porterlaw34.ChainApart', WHERE WHAT IT READS IS OF BULK AT MOST 1048576: true; the input reads as it did. -/
def chainApartUptoRow : OpenClaim := { program := "yteffocenfkcofaadoor", sum := "45765adf7bede2b98ead718f42faa3d497dbc418fabb1be60118833a3cabd8cd", func := "porter/porterlaw34.ChainApart", spec := "chainApart", inPlace := ["internal/abi.NoEscape", "internal/bytealg.MakeNoZero"], unfollowed := true, recurses := true, named := ["porter/sha.constants"], apart := false, laid := [("porter/sha.constants", laid_porter_sha_constants)], narrowed := true }
def ChainApartUptoSaid : Prop := chainApartUptoRow.holds Tryd.pinned (OpenSpec.upto chainApartSpec)

/-- 'porterlaw34.ChainOn', WHERE WHAT IT READS IS OF BULK AT MOST 1048576: true; the input reads as it did. -/
def chainOnUptoRow : OpenClaim := { program := "yteffocenfkcofaadoor", sum := "45765adf7bede2b98ead718f42faa3d497dbc418fabb1be60118833a3cabd8cd", func := "porter/porterlaw34.ChainOn", spec := "chainOn", inPlace := ["internal/abi.NoEscape", "internal/bytealg.MakeNoZero"], unfollowed := true, recurses := true, named := ["porter/sha.constants"], apart := false, laid := [("porter/sha.constants", laid_porter_sha_constants)], narrowed := true }
def ChainOnUptoSaid : Prop := chainOnUptoRow.holds Tryd.pinned (OpenSpec.upto chainOnSpec)

/-- 'porterlaw34.ChainMakes', WHERE WHAT IT READS IS OF BULK AT MOST 1048576: true; the input reads as it did. -/
def chainMakesUptoRow : OpenClaim := { program := "yteffocenfkcofaadoor", sum := "45765adf7bede2b98ead718f42faa3d497dbc418fabb1be60118833a3cabd8cd", func := "porter/porterlaw34.ChainMakes", spec := "chainMakes", inPlace := ["internal/abi.NoEscape", "internal/bytealg.MakeNoZero"], unfollowed := true, recurses := true, named := ["porter/sha.constants"], apart := false, laid := [("porter/sha.constants", laid_porter_sha_constants)], narrowed := true }
def ChainMakesUptoSaid : Prop := chainMakesUptoRow.holds Tryd.pinned (OpenSpec.upto chainMakesSpec)

/-- 'porterlaw05.StreamBytes', WHERE WHAT IT READS IS OF BULK AT MOST 1048576: true; the input reads as it did. -/
def streamBytesUptoRow : OpenClaim := { program := "yteffocenfkcofaadoor", sum := "45765adf7bede2b98ead718f42faa3d497dbc418fabb1be60118833a3cabd8cd", func := "porter/porterlaw05.StreamBytes", spec := "streamBytes", inPlace := ["internal/abi.NoEscape", "internal/bytealg.MakeNoZero"], unfollowed := true, recurses := true, named := ["porter/sha.constants"], apart := false, laid := [("porter/sha.constants", laid_porter_sha_constants)], narrowed := true }
def StreamBytesUptoSaid : Prop := streamBytesUptoRow.holds Tryd.pinned (OpenSpec.upto streamBytesSpec)

/-- 'porterlaw05.StreamBack', WHERE WHAT IT READS IS OF BULK AT MOST 1048576: true; the input reads as it did. -/
def streamBackUptoRow : OpenClaim := { program := "yteffocenfkcofaadoor", sum := "45765adf7bede2b98ead718f42faa3d497dbc418fabb1be60118833a3cabd8cd", func := "porter/porterlaw05.StreamBack", spec := "streamBack", inPlace := ["internal/abi.NoEscape", "internal/bytealg.MakeNoZero"], unfollowed := true, recurses := true, named := ["porter/sha.constants"], apart := false, laid := [("porter/sha.constants", laid_porter_sha_constants)], narrowed := true }
def StreamBackUptoSaid : Prop := streamBackUptoRow.holds Tryd.pinned (OpenSpec.upto streamBackSpec)

/-- 'porterlaw05.StreamBegins', WHERE WHAT IT READS IS OF BULK AT MOST 1048576: true; the input reads as it did. -/
def streamBeginsUptoRow : OpenClaim := { program := "yteffocenfkcofaadoor", sum := "45765adf7bede2b98ead718f42faa3d497dbc418fabb1be60118833a3cabd8cd", func := "porter/porterlaw05.StreamBegins", spec := "streamBegins", inPlace := ["internal/abi.NoEscape", "internal/bytealg.MakeNoZero"], unfollowed := true, recurses := true, named := ["porter/sha.constants"], apart := false, laid := [("porter/sha.constants", laid_porter_sha_constants)], narrowed := true }
def StreamBeginsUptoSaid : Prop := streamBeginsUptoRow.holds Tryd.pinned (OpenSpec.upto streamBeginsSpec)

/-- 'porterlaw04.HmacFrames', WHERE WHAT IT READS IS OF BULK AT MOST 1048576: true; the input reads as it did. -/
def hmacFramesUptoRow : OpenClaim := { program := "yteffocenfkcofaadoor", sum := "45765adf7bede2b98ead718f42faa3d497dbc418fabb1be60118833a3cabd8cd", func := "porter/porterlaw04.HmacFrames", spec := "hmacFrames", inPlace := ["internal/abi.NoEscape", "internal/bytealg.MakeNoZero"], unfollowed := true, recurses := true, named := ["porter/sha.constants"], apart := false, laid := [("porter/sha.constants", laid_porter_sha_constants)], narrowed := true }
def HmacFramesUptoSaid : Prop := hmacFramesUptoRow.holds Tryd.pinned (OpenSpec.upto hmacFramesSpec)

/-- 'porterlaw04.HmacSums', WHERE WHAT IT READS IS OF BULK AT MOST 1048576: true; the input reads as it did. -/
def hmacSumsUptoRow : OpenClaim := { program := "yteffocenfkcofaadoor", sum := "45765adf7bede2b98ead718f42faa3d497dbc418fabb1be60118833a3cabd8cd", func := "porter/porterlaw04.HmacSums", spec := "hmacSums", inPlace := ["internal/abi.NoEscape", "internal/bytealg.MakeNoZero"], unfollowed := true, recurses := true, named := ["porter/sha.constants"], apart := false, laid := [("porter/sha.constants", laid_porter_sha_constants)], narrowed := true }
def HmacSumsUptoSaid : Prop := hmacSumsUptoRow.holds Tryd.pinned (OpenSpec.upto hmacSumsSpec)

end Rows
end Go.Proofs.YteffocenfkcofaaDoor
