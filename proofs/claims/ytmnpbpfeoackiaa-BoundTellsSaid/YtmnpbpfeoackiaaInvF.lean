/-
  A region whose operations turn what it made, by one fact an operation, each over what its operands are and over no frame.
-/
import Derived.Test.YtmnpbpfeoackiaaInvE
import Derived.Test.YtmnpbpfeoackiaaInvS
namespace Go
open Go.Proofs.Ytmnpbpfeoackiaa

section
variable {P : Program} {ops : Array Oper} {a0 : Act}
theorem wp_region_stageE {Q : Exit → Act → World → Prop} {id : Nat} {w : World} (cs : List Nat) (J : List Bool → World → Prop) (V : List Bool → Nat → Value → World → Prop) (hcs : ∀ (p q i : Nat), cs[p]? = some i → cs[q]? = some i → q = p) (hin : ∀ c ∈ cs, c < ops.size) (hm : P.follows .mixedOrders = true)
    (hd : dstsOk (ops.toList.map (·.dst)) = true) (ha : aftersOkB ops.toList 0 = true) (hf : fillOk ops.toList a0.tmps.size = true)
    (h00 : J (cs.map fun _ => false) w.drew) (hJ : ∀ (bs : List Bool) w1 w2, J bs w1 → Ext w1 w2 → J bs w2)
    (hst : ∀ (bs : List Bool) (k : Nat) v w1 w2, J bs w1 → Ext w1 w2 → V bs k v w1 → V bs k v w2) (hl : fillOk ops.toList a0.tmps.size = true → LocalsQ P ops J V cs a0 ops.toList 0)
    (hE : ∀ u w', J (cs.map fun _ => true) w' → (∀ k, k < ops.size → V (cs.map fun _ => true) k (u k) w') → Q .normal (fillOps ops.toList u 0 a0) w') : (Code.region id ops true).wp P Q a0 w :=
  wp_region_stage cs J V hcs hin hm hd ha h00 hJ hst (hl hf) hE
end
end Go
