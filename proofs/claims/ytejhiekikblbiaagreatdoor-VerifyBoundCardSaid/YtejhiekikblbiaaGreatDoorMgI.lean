/-
  A token that is not great has short parts; two tokens held against each other. No condition. · Two tokens held against each other. No condition. · A region that draws its order, where some operations (cs) turn what the region itself has made (an append in place, a store): what is said of each value may hang on which of cs have run. One local fact an operation; no order is walked. · A region that draws its order, where some of the first n operations (cs) turn what the region itself has made (an append in place), and whose other operations come last, one behind the other: the first ones by one local fact an operation, the last ones as a plain list. No order is walked. · append(v, x...) onto a row of the call's own, where x is only read: nil or not. No condition. · A row's slice arguments as lists: what is read of them, by element. No program in sight. No condition. · Links and tokens that come in as arguments. No condition.
-/
import Derived.Test.YtejhiekikblbiaaGreatDoorMgF
import Derived.Laws.StructEq
import Derived.Test.YtejhiekikblbiaaGreatDoorMgC
import Derived.Test.YtejhiekikblbiaaGreatDoorMgB
import Derived.Test.YtejhiekikblbiaaGreatDoorMgD
import Derived.Test.YtejhiekikblbiaaGreatDoorMgA
import Derived.Deep.Strs
import Derived.ProofKit
import Derived.WideKeyArgs
import Derived.OpenShut
import Derived.ChangeArms
import Derived.Lib.SmallJoins
namespace Go.Proofs.YtejhiekikblbiaaGreatDoor
open Go.RowKit

def linkSum (l : List LinkL) : Nat := (l.map fun x => x.1.length + x.2.length).sum
theorem linkSum_take (l : List LinkL) (k : Nat) (h : k < l.length) : linkSum (l.take (k + 1)) = linkSum (l.take k) + l[k].1.length + l[k].2.length := by
  unfold linkSum
  rw [List.take_succ_eq_append_getElem h, List.map_append, List.sum_append]
  simp
  omega
/-- What is known of a token that is not great. -/
def Small (id tag : List UInt8) (l : List LinkL) : Prop := id.length ≤ 4200 ∧ tag.length ≤ 100 ∧ l.length ≤ 70 ∧ (∀ x ∈ l, x.1.length ≤ 4200 ∧ x.2.length ≤ 4200) ∧ linkSum l ≤ 20000
def GreatPost (id tag : List UInt8) (l : List LinkL) (w : World) (e : Ending) (w' : World) : Prop := ∃ b, e = .returned (.bool b) ∧ (b = false → Small id tag l) ∧ Ext w w'
def GreatIff (id tag : List UInt8) (l : List LinkL) (w : World) (e : Ending) (w' : World) : Prop := ∃ b, e = .returned (.bool b) ∧ (b = false ↔ Small id tag l) ∧ Ext w w'
theorem great_yes {id tag : List UInt8} {l : List LinkL} {w w' : World} (h : Ext w w') (hn : ¬ Small id tag l) : GreatIff id tag l w (.returned (.bool true)) w' := ⟨true, rfl, ⟨fun h => (by cases h), fun h => absurd h hn⟩, h⟩
theorem great_true {id tag : List UInt8} {l : List LinkL} {w w' : World} (h : Ext w w') : GreatPost id tag l w (.returned (.bool true)) w' := ⟨true, rfl, fun h => (by cases h), h⟩

set_option maxRecDepth 100000 in
set_option maxHeartbeats 2000000 in
theorem great_iff (id tag : List UInt8) (vl : Value) (l : List LinkL) (w : World) (hl : RdLinks w w.heap.size vl l) : Calls Tryz.prog 46 #[tokV id vl tag] w (GreatIff id tag l w) := by
  obtain ⟨A, c, rfl, hlm, hcells⟩ := hl.cells
  have HC := Kp.mk hcells
  have A0 := Arr.new w 33 [.string (ofL id), .slice A l.length c, .string (ofL tag)]
  have E0 : Ext w (w.alloc (.cells [.string (ofL id), .slice A l.length c, .string (ofL tag)].toArray 33)) := (Ext.rfl' w).al _
  have z1 : (ofL id).size = id.length := size_ofL _
  have z2 : (ofL tag).size = tag.length := size_ofL _
  unfold tokV
  clear hcells hl
  by_cases g1 : 4200 < id.length
  · go_enter Tryz.func46, Tryz.ntmps46
    go_wp2
    go_ret
    exact great_yes E0 (fun h => by have := h.1; omega)
  · by_cases g2 : 100 < tag.length
    · go_enter Tryz.func46, Tryz.ntmps46
      go_wp2
      go_ret
      exact great_yes E0 (fun h => by have := h.2.1; omega)
    · by_cases g3 : 70 < l.length
      · go_enter Tryz.func46, Tryz.ntmps46
        go_wp2
        go_ret
        exact great_yes E0 (fun h => by have := h.2.2.1; omega)
      · go_enter Tryz.func46, Tryz.ntmps46
        go_wp2_with fail
        go_loopw [4, 3] (fun i s wr => ∃ (k S : Nat), k ≤ l.length ∧ i = .int .i64 k ∧ s = .int .i64 S ∧ S = linkSum (l.take k) ∧ S ≤ 10000 * k ∧ (∀ x ∈ l.take k, x.1.length ≤ 4200 ∧ x.2.length ≤ 4200) ∧ Ext w wr ∧ Arr wr w.heap.size 33 [.string (ofL id), .slice A l.length c, .string (ofL tag)]) (fun i _ _ => l.length - (intOf i).toNat)
        case atStart => exact ⟨0, 0, by omega, rfl, rfl, rfl, by omega, by simp, E0, A0⟩
        case round =>
          clear E0 A0
          obtain ⟨k, S, hk, rfl, rfl, hS0, hSb, hall0, hE, hA⟩ := hrel
          have hS := Kp.mk hS0; have hall := Kp.mk hall0
          clear hS0 hall0
          have c1 := hA.cell 1
          simp only [List.getElem?_cons_zero, List.getElem?_cons_succ] at c1
          by_cases hlt : k < l.length
          · obtain ⟨b, off, rfl, hb, hc⟩ := HC.out (by omega)
            obtain ⟨⟨xa, xb⟩, hxe⟩ : ∃ x, l[k] = x := ⟨_, rfl⟩
            have q1 := ((bcell hE).1 b (off + k * 2) hb).trans (hc k hlt).1
            have q2 := ((bcell hE).1 b (off + k * 2 + 1) hb).trans (hc k hlt).2
            rw [hxe] at q1 q2
            have z3 : (ofL xa).size = xa.length := size_ofL _
            have z4 : (ofL xb).size = xb.length := size_ofL _
            have hS2 := Kp.mk (show S + xa.length + xb.length = linkSum (l.take (k + 1)) by rw [linkSum_take l k hlt, hxe, ← hS.out])
            have hall2 := Kp.mk (show xa.length ≤ 4200 → xb.length ≤ 4200 → ∀ x ∈ l.take (k + 1), x.1.length ≤ 4200 ∧ x.2.length ≤ 4200 from fun h1 h2 x hx => by
              rw [take_snoc l k hlt, hxe] at hx
              rcases List.mem_append.1 hx with hx | hx
              · exact hall.out x hx
              · rw [List.mem_singleton.1 hx]; exact ⟨h1, h2⟩)
            have hin4 := Kp.mk (show 4200 < xa.length → ¬ Small id tag l from fun hx h => by
              have := (h.2.2.2.1 _ (List.getElem_mem hlt)).1
              rw [hxe] at this
              dsimp only at this
              omega)
            have hin5 := Kp.mk (show 4200 < xb.length → ¬ Small id tag l from fun hx h => by
              have := (h.2.2.2.1 _ (List.getElem_mem hlt)).2
              rw [hxe] at this
              dsimp only at this
              omega)
            clear hc hxe
            by_cases g4 : 4200 < xa.length
            · go_wp2
              go_ret
              exact great_yes hE (fun h => hin4.out (by omega) h)
            · by_cases g5 : 4200 < xb.length
              · go_wp2
                go_ret
                exact great_yes hE (fun h => hin5.out (by omega) h)
              · go_wp2
                go_quiet (fail)
                go_wp2
                go_roundw
                case rel => exact ⟨k + 1, S + xa.length + xb.length, by omega, by go_num, by go_num, hS2.out, by omega, hall2.out (by omega) (by omega), hE.drN _, hA.drew _⟩
                case measure => simp [intOf]; omega
          · have ht := Kp.mk (show l.take k = l from List.take_of_length_le (by omega))
            go_wp2
            go_ret
            refine ⟨_, rfl, ⟨fun h => ⟨by omega, by omega, by omega, by have := hall.out; rw [ht.out] at this; exact this, ?_⟩, fun h => ?_⟩, hE⟩
            · have h1 := hS.out
              rw [ht.out] at h1
              simp at h
              omega
            · have h1 := hS.out
              rw [ht.out] at h1
              have h2 := h.2.2.2.2
              simp
              omega
theorem great_any (id tag : List UInt8) (vl : Value) (l : List LinkL) (w : World) (hl : RdLinks w w.heap.size vl l) : Calls Tryz.prog 46 #[tokV id vl tag] w (GreatPost id tag l w) :=
  (great_iff id tag vl l w hl).mono fun _ _ ⟨b, h1, h2, h3⟩ => ⟨b, h1, h2.1, h3⟩
/-- What is answered hangs on the token alone. -/
theorem great_det (id tag : List UInt8) (l : List LinkL) : ∃ b : Bool, (b = false ↔ Small id tag l) ∧ ∀ (vl : Value) (w : World), RdLinks w w.heap.size vl l → Calls Tryz.prog 46 #[tokV id vl tag] w fun e w' => e = .returned (.bool b) ∧ Ext w w' := by
  by_cases h : Small id tag l
  · exact ⟨false, by simp [h], fun vl w hl => (great_iff id tag vl l w hl).mono fun _ _ ⟨b, h1, h2, h3⟩ => ⟨by rw [h1, h2.2 h], h3⟩⟩
  · refine ⟨true, by simp [h], fun vl w hl => (great_iff id tag vl l w hl).mono fun _ _ ⟨b, h1, h2, h3⟩ => ⟨?_, h3⟩⟩
    cases b with
    | true => exact h1
    | false => exact absurd (h2.1 rfl) h
end Go.Proofs.YtejhiekikblbiaaGreatDoor

namespace Go.Proofs.YtejhiekikblbiaaGreatDoor
open Go.RowKit

def linkEq (a b : LinkL) : Bool := a.1 == b.1 && a.2 == b.2
theorem linkEq_iff (a b : LinkL) : linkEq a b = true ↔ a = b := by
  obtain ⟨a1, a2⟩ := a
  obtain ⟨b1, b2⟩ := b
  simp [linkEq]
set_option maxRecDepth 100000 in
theorem link_fields : Tryz.prog.fieldsOf 72 = (match Tryz.prog.underlying 72 with | some (.struct fs) => fs | _ => #[]) := rfl
set_option maxRecDepth 100000 in
theorem link_eqIn (a b : LinkL) (W : World) : (Op.equalIn 10000 72 (linkV a) (linkV b)).run Tryz.prog W = .ok (linkEq a b) W := by
  obtain ⟨a1, a2⟩ := a
  obtain ⟨b1, b2⟩ := b
  unfold linkV
  have hu : Tryz.prog.underlying 72 = some (.struct (Tryz.prog.fieldsOf 72)) := by rw [link_fields, Tryz.underlying72]
  rw [run_equalIn_agg W 9999 _ _ _ hu (by kernel_rfl), link_fields, Tryz.underlying72]
  have hs : Tryz.prog.underlying 9 = some .string := Tryz.underlying9
  have h1 := fun (W : World) (x y : ByteArray) => run_equalIn_string (P := Tryz.prog) W 9998 _ x y hs
  cases q1 : (a1 == b1)
  · simp [Op.eqFields, go_sem, q1, linkEq]
  · cases q2 : (a2 == b2)
    · simp [Op.eqFields, go_sem, q1, q2, linkEq]
    · simp [Op.eqFields, go_sem, q1, q2, linkEq]
theorem link_eql (a b : LinkL) (W : World) : (binOp .eql 72 (linkV a) (linkV b)).run Tryz.prog W = .ok (.bool (linkEq a b)) W := by
  have h := link_eqIn a b W
  unfold linkV at *
  rw [run_eql_struct, h]; rfl
theorem link_neq (a b : LinkL) (W : World) : (binOp .neq 72 (linkV a) (linkV b)).run Tryz.prog W = .ok (.bool (!linkEq a b)) W := by
  have h := link_eqIn a b W
  unfold linkV at *
  rw [run_neq_struct, h]; rfl

def sameTok (i1 t1 : List UInt8) (l1 : List LinkL) (i2 t2 : List UInt8) (l2 : List LinkL) : Bool := decide (i1 = i2 ∧ t1 = t2 ∧ l1 = l2)
set_option maxRecDepth 100000 in
set_option maxHeartbeats 2000000 in
theorem sameToken_any (i1 t1 : List UInt8) (v1 : Value) (l1 : List LinkL) (i2 t2 : List UInt8) (v2 : Value) (l2 : List LinkL) (w : World) (h1 : RdLinks w w.heap.size v1 l1) (h2 : RdLinks w w.heap.size v2 l2) :
    Calls Tryz.prog 15 #[tokV i1 v1 t1, tokV i2 v2 t2] w fun e w' => e = .returned (.bool (sameTok i1 t1 l1 i2 t2 l2)) ∧ Ext w w' := by
  obtain ⟨A1, c1, rfl, hm1, hc1⟩ := h1.cells
  obtain ⟨A2, c2, rfl, hm2, hc2⟩ := h2.cells
  have H1 := Kp.mk hc1; have H2 := Kp.mk hc2
  have B1 := (Arr.new w 33 [.string (ofL i1), .slice A1 l1.length c1, .string (ofL t1)]).alloc (.cells #[.string (ofL i2), .slice A2 l2.length c2, .string (ofL t2)] 33)
  have B2 := Arr.new (w.alloc (.cells #[.string (ofL i1), .slice A1 l1.length c1, .string (ofL t1)] 33)) 33 [.string (ofL i2), .slice A2 l2.length c2, .string (ofL t2)]
  rw [World.size_alloc] at B2
  have E0 : Ext w ((w.alloc (.cells #[.string (ofL i1), .slice A1 l1.length c1, .string (ofL t1)] 33)).alloc (.cells #[.string (ofL i2), .slice A2 l2.length c2, .string (ofL t2)] 33)) := ((Ext.rfl' w).al _).al _
  unfold tokV
  clear hc1 hc2 h1 h2
  by_cases g1 : i1 = i2
  · by_cases g2 : t1 = t2
    · by_cases g3 : l1.length = l2.length
      · have d1 : (i1 == i2) = true := by simp [g1]
        have d2 : (t1 == t2) = true := by simp [g2]
        have d3 : ((l1.length : Int) != l2.length) = false := by simp [g3]
        have hsame := Kp.mk (show sameTok i1 t1 l1 i2 t2 l2 = decide (l1 = l2) by unfold sameTok; simp [g1, g2])
        have hlen := Kp.mk g3
        clear g1 g2 g3
        go_enter Tryz.func15, Tryz.ntmps15
        go_wp2_with fail
        go_loopw [5] (fun i wr => ∃ k : Nat, k ≤ l2.length ∧ i = .int .i64 k ∧ l1.take k = l2.take k ∧ Ext w wr ∧ Arr wr w.heap.size 33 [.string (ofL i1), .slice A1 l1.length c1, .string (ofL t1)] ∧ Arr wr (w.heap.size + 1) 33 [.string (ofL i2), .slice A2 l2.length c2, .string (ofL t2)]) (fun i _ => l2.length - (intOf i).toNat)
        case atStart => exact ⟨0, by omega, rfl, rfl, E0, B1, B2⟩
        case round =>
          clear E0 B1 B2
          obtain ⟨k, hk, rfl, ht0, hE, hA1, hA2⟩ := hrel
          have ht := Kp.mk ht0; clear ht0
          have e1 := hA1.cell 1
          have e2 := hA2.cell 1
          simp only [List.getElem?_cons_zero, List.getElem?_cons_succ] at e1 e2
          by_cases hlt : k < l2.length
          · have hlt1 : k < l1.length := by rw [hlen.out]; exact hlt
            obtain ⟨b1, o1, rfl, hb1, hc1⟩ := H1.out (by omega)
            obtain ⟨b2, o2, rfl, hb2, hc2⟩ := H2.out (by omega)
            obtain ⟨⟨xa, xb⟩, hxe⟩ : ∃ x, l1[k] = x := ⟨_, rfl⟩
            obtain ⟨⟨ya, yb⟩, hye⟩ : ∃ x, l2[k] = x := ⟨_, rfl⟩
            have q1 := ((bcell hE).1 b1 (o1 + k * 2) hb1).trans (hc1 k hlt1).1
            have q2 := ((bcell hE).1 b1 (o1 + k * 2 + 1) hb1).trans (hc1 k hlt1).2
            have q3 := ((bcell hE).1 b2 (o2 + k * 2) hb2).trans (hc2 k hlt).1
            have q4 := ((bcell hE).1 b2 (o2 + k * 2 + 1) hb2).trans (hc2 k hlt).2
            rw [hxe] at q1 q2
            rw [hye] at q3 q4
            have hn : ∀ W : World, (binOp .neq 72 (.agg #[.string (ofL xa), .string (ofL xb)]) (.agg #[.string (ofL ya), .string (ofL yb)])).run Tryz.prog W = .ok (.bool (!linkEq (xa, xb) (ya, yb))) W := fun W => link_neq (xa, xb) (ya, yb) W
            have hto := Kp.mk (show linkEq (xa, xb) (ya, yb) = true → l1.take (k + 1) = l2.take (k + 1) from fun h => by
              rw [take_snoc l1 k hlt1, take_snoc l2 k hlt, ht.out, hxe, hye, (linkEq_iff _ _).1 h])
            have hno := Kp.mk (show linkEq (xa, xb) (ya, yb) = false → l1 ≠ l2 from fun h he => by
              subst he
              rw [hxe] at hye
              rw [hye] at h
              have := (linkEq_iff (ya, yb) (ya, yb)).2 rfl
              rw [this] at h; cases h)
            obtain ⟨q, hq⟩ : ∃ q, linkEq (xa, xb) (ya, yb) = q := ⟨_, rfl⟩
            rw [hq] at hn hto hno
            clear hc1 hc2 hxe hye hq
            cases q with
            | true =>
              go_wp2
              go_quiet (fail)
              go_wp2
              go_roundw
              case rel => exact ⟨k + 1, by omega, by go_num, hto.out (by simp), hE.drN _, hA1.drew _, hA2.drew _⟩
              case measure => simp [intOf]; omega
            | false =>
              have hd := Kp.mk (show sameTok i1 t1 l1 i2 t2 l2 = false by rw [hsame.out]; exact decide_eq_false (hno.out rfl))
              go_wp2
              go_quiet (fail)
              go_wp2
              go_ret
              exact ⟨ret_bool hd.out.symm, hE.drN _⟩
          · have hlt1 : ¬ k < l1.length := by rw [hlen.out]; exact hlt
            have hd := Kp.mk (show sameTok i1 t1 l1 i2 t2 l2 = true by
              rw [hsame.out]
              have h := ht.out
              rw [List.take_of_length_le (by omega), List.take_of_length_le (by omega)] at h
              exact decide_eq_true h)
            go_wp2
            go_ret
            exact ⟨ret_bool hd.out.symm, hE⟩
      · have d1 : (i1 == i2) = true := by simp [g1]
        have d2 : (t1 == t2) = true := by simp [g2]
        have d3 : ((l1.length : Int) != l2.length) = true := by simp; omega
        have hd := Kp.mk (show sameTok i1 t1 l1 i2 t2 l2 = false from decide_eq_false (fun h => g3 (by rw [h.2.2])))
        clear g1 g2 g3
        go_enter Tryz.func15, Tryz.ntmps15
        go_wp2
        go_ret
        exact ⟨ret_bool hd.out.symm, E0⟩
    · have d1 : (i1 == i2) = true := by simp [g1]
      have d2 : (t1 == t2) = false := by simp [g2]
      have hd := Kp.mk (show sameTok i1 t1 l1 i2 t2 l2 = false from decide_eq_false (fun h => g2 h.2.1))
      clear g1 g2
      go_enter Tryz.func15, Tryz.ntmps15
      go_wp2
      go_ret
      exact ⟨ret_bool hd.out.symm, E0⟩
  · have d1 : (i1 == i2) = false := by simp [g1]
    have hd := Kp.mk (show sameTok i1 t1 l1 i2 t2 l2 = false from decide_eq_false (fun h => g1 h.1))
    clear g1
    go_enter Tryz.func15, Tryz.ntmps15
    go_wp2
    go_ret
    exact ⟨ret_bool hd.out.symm, E0⟩
end Go.Proofs.YtejhiekikblbiaaGreatDoor

namespace Go
open Go.Proofs.YtejhiekikblbiaaGreatDoor Go.RowKit
section
variable {P : Program} {ops : Array Oper} {J : List Bool → World → Prop} {V : List Bool → Nat → Value → World → Prop} {a0 : Act} {cs : List Nat}

/-- Each operation waits, as far as any order binds it, for earlier ones alone. -/
def aftersOkB : List Oper → Nat → Bool
  | [], _ => true
  | o :: r, k => o.after.all (fun e => !Region.binds .any e || decide (e.on < k)) && aftersOkB r (k + 1)
theorem aftersB_at : ∀ (r : List Oper) (k i : Nat) (o : Oper), aftersOkB r k = true → r[i]? = some o → ∀ e ∈ o.after, Region.binds .any e = true → e.on < k + i
  | [], _, _, _, _, h, _, _, _ => by cases h
  | o' :: r, k, 0, o, ha, h, e, he, hb => by
    obtain rfl : o' = o := by simpa using h
    simp only [aftersOkB, Bool.and_eq_true] at ha
    have := Array.all_eq_true_iff_forall_mem.1 ha.1 e he
    simpa [hb] using this
  | o' :: r, k, i + 1, o, ha, h, e, he, hb => by
    simp only [aftersOkB, Bool.and_eq_true] at ha
    have := aftersB_at r (k + 1) i o ha.2 (by simpa using h) e he hb
    omega

/-- What is to be shown of an ordinary operation. -/
def LocalQ (P : Program) (ops : Array Oper) (J : List Bool → World → Prop) (V : List Bool → Nat → Value → World → Prop) (cs : List Nat) (a0 : Act) (i : Nat) (o : Oper) : Prop :=
  (i ∉ cs → ∀ (bs : List Bool) (u : Nat → Value) (w : World), bs.length = cs.length → J bs w → (∀ (p c : Nat) (oc : Oper), bs[p]? = some true → cs[p]? = some c → ops[c]? = some oc → (oc.after.any fun e => Region.binds .any e && e.on == i) = false) → (∀ k, (o.after.any fun e => Region.binds .any e && e.on == k) = true → V bs k (u k) w) → OpLeaves P ops (V bs i) o (fillOps ops.toList u 0 a0) w) ∧
  (∀ (p : Nat), cs[p]? = some i → ∀ (bs : List Bool) (u : Nat → Value) (w : World), bs.length = cs.length → bs[p]? = some false → J bs w → (∀ k, (o.after.any fun e => Region.binds .any e && e.on == k) = true → V bs k (u k) w) →
    (∀ (q j : Nat), bs[q]? = some true → cs[q]? = some j → V bs j (u j) w) →
    Region.wanted o (yielded ops (fillOps ops.toList u 0 a0).tmps) = true ∧ ∀ (K : Act → World → Prop) (Q : Exit → Act → World → Prop),
      (∀ v w', J (bs.set p true) w' → V (bs.set p true) i v w' → (∀ k, V bs k (u k) w → V (bs.set p true) k (u k) w') → K ((fillOps ops.toList u 0 a0).put o.dst v) w') → o.wp P (fillOps ops.toList u 0 a0) w K Q)
def LocalsQ (P : Program) (ops : Array Oper) (J : List Bool → World → Prop) (V : List Bool → Nat → Value → World → Prop) (cs : List Nat) (a0 : Act) : List Oper → Nat → Prop
  | [], _ => True
  | o :: r, i => LocalQ P ops J V cs a0 i o ∧ LocalsQ P ops J V cs a0 r (i + 1)
theorem localsQ_nil {i} : LocalsQ P ops J V cs a0 [] i := trivial
theorem localsQ_cons {o : Oper} {r : List Oper} {i : Nat} (h : LocalQ P ops J V cs a0 i o) (hr : LocalsQ P ops J V cs a0 r (i + 1)) : LocalsQ P ops J V cs a0 (o :: r) i := ⟨h, hr⟩
/-- An ordinary operation. -/
theorem localsQ_ord {o : Oper} {r : List Oper} {i : Nat} (hi : i ∉ cs)
    (h : ∀ (bs : List Bool) (u : Nat → Value) (w : World), bs.length = cs.length → J bs w → (∀ (p c : Nat) (oc : Oper), bs[p]? = some true → cs[p]? = some c → ops[c]? = some oc → (oc.after.any fun e => Region.binds .any e && e.on == i) = false) → (∀ k, (o.after.any fun e => Region.binds .any e && e.on == k) = true → V bs k (u k) w) → OpLeaves P ops (V bs i) o (fillOps ops.toList u 0 a0) w)
    (hr : LocalsQ P ops J V cs a0 r (i + 1)) : LocalsQ P ops J V cs a0 (o :: r) i :=
  ⟨⟨fun _ => h, fun _ hp => absurd (List.mem_of_getElem? hp) hi⟩, hr⟩
/-- One of cs: the p-th. -/
theorem localsQ_turn {o : Oper} {r : List Oper} {i : Nat} (p : Nat) (hp : cs[p]? = some i) (hu : ∀ (q : Nat), cs[q]? = some i → q = p)
    (h : ∀ (bs : List Bool) (u : Nat → Value) (w : World), bs.length = cs.length → bs[p]? = some false → J bs w → (∀ k, (o.after.any fun e => Region.binds .any e && e.on == k) = true → V bs k (u k) w) →
      (∀ (q j : Nat), bs[q]? = some true → cs[q]? = some j → V bs j (u j) w) →
      Region.wanted o (yielded ops (fillOps ops.toList u 0 a0).tmps) = true ∧ ∀ (K : Act → World → Prop) (Q : Exit → Act → World → Prop),
        (∀ v w', J (bs.set p true) w' → V (bs.set p true) i v w' → (∀ k, V bs k (u k) w → V (bs.set p true) k (u k) w') → K ((fillOps ops.toList u 0 a0).put o.dst v) w') → o.wp P (fillOps ops.toList u 0 a0) w K Q)
    (hr : LocalsQ P ops J V cs a0 r (i + 1)) : LocalsQ P ops J V cs a0 (o :: r) i :=
  ⟨⟨fun hn => absurd (List.mem_of_getElem? hp) hn, fun q hq => by obtain rfl := hu q hq; exact h⟩, hr⟩
theorem localsQ_at : ∀ (r : List Oper) (k i : Nat) (o : Oper), LocalsQ P ops J V cs a0 r k → r[i]? = some o → LocalQ P ops J V cs a0 (k + i) o
  | [], _, _, _, _, h => by cases h
  | o' :: r, k, 0, o, hl, h => by obtain rfl : o' = o := by simpa using h
                                  exact hl.1
  | o' :: r, k, i + 1, o, hl, h => by
    rw [show k + (i + 1) = k + 1 + i by omega]
    exact localsQ_at r (k + 1) i o hl.2 (by simpa using h)

theorem cs_inj {cs : List Nat} (h : cs.Nodup) (p q i : Nat) (hp : cs[p]? = some i) (hq : cs[q]? = some i) : q = p :=
  (List.getElem?_inj (List.getElem?_eq_some_iff.1 hq).1 h).1 (hq.trans hp.symm)
theorem bs_one {bs : List Bool} (h : bs.length = 1) (h0 : bs[0]? = some false) : bs = [false] := by
  match bs, h with
  | [b], _ => simpa using h0
/-- A store as one of cs. -/
theorem turn_skip {o : Oper} {a : Act} {w w' : World} {K : Act → World → Prop} {Q : Exit → Act → World → Prop} (hr : (execOp a.eval o).run P w = .ok .skip w') (h : K (a.put o.dst undef) w') : o.wp P a w K Q := by
  unfold Oper.wp
  rw [hr]
  exact h
theorem getD_rep (n c : Nat) : (Array.replicate n false).getD c false = false := by
  rw [Array.getD_eq_getD_getElem?, Array.getElem?_replicate]; split <;> rfl
/-- Which of cs are listed. -/
def stage (cs : List Nat) (listed : Array Bool) : List Bool := cs.map fun c => listed.getD c false
theorem stage_other {listed : Array Bool} {i : Nat} (hi : i ∉ cs) : stage cs (listed.setIfInBounds i true) = stage cs listed := by
  refine List.map_congr_left fun c hc => ?_
  have hne : i ≠ c := fun h => hi (h ▸ hc)
  rw [Array.getD_eq_getD_getElem?, Array.getElem?_setIfInBounds_ne hne, ← Array.getD_eq_getD_getElem?]
theorem stage_turn {listed : Array Bool} {i p : Nat} (hs : i < listed.size) (hp : cs[p]? = some i) (hu : ∀ (q : Nat), cs[q]? = some i → q = p) : stage cs (listed.setIfInBounds i true) = (stage cs listed).set p true := by
  apply List.ext_getElem?
  intro q
  by_cases hq : q = p
  · subst hq
    rw [List.getElem?_set_self (by rw [stage, List.length_map]; exact (List.getElem?_eq_some_iff.1 hp).1)]
    unfold stage
    rw [List.getElem?_map, hp]
    simp [Array.getD_eq_getD_getElem?, Array.getElem?_setIfInBounds, hs]
  · rw [List.getElem?_set_ne (fun h => hq h.symm)]
    unfold stage
    rw [List.getElem?_map, List.getElem?_map]
    cases hc : cs[q]? with
    | none => rfl
    | some c =>
      have hne : i ≠ c := fun h => hq (hu q (h ▸ hc))
      simp only [Option.map_some]
      rw [Array.getD_eq_getD_getElem?, Array.getElem?_setIfInBounds_ne hne, ← Array.getD_eq_getD_getElem?]

theorem wpAny_stage {Q : Exit → Act → World → Prop} (hcs : ∀ (p q i : Nat), cs[p]? = some i → cs[q]? = some i → q = p) (hd : dstsOk (ops.toList.map (·.dst)) = true) (ha : aftersOkB ops.toList 0 = true)
    (hJ : ∀ (bs : List Bool) w w', J bs w → Ext w w' → J bs w') (hst : ∀ (bs : List Bool) (k : Nat) v w w', J bs w → Ext w w' → V bs k v w → V bs k v w') (hl : LocalsQ P ops J V cs a0 ops.toList 0)
    (hE : ∀ u w, J (cs.map fun _ => true) w → (∀ k, k < ops.size → V (cs.map fun _ => true) k (u k) w) → Q .normal (fillOps ops.toList u 0 a0) w) (hin : ∀ c ∈ cs, c < ops.size) :
    ∀ (fuel : Nat) (listed : Array Bool) (u : Nat → Value) (w : World), listed.size = ops.size → listed.toList.count true + fuel = ops.size → J (stage cs listed) w →
      (∀ (k : Nat) (ok : Oper), ops[k]? = some ok → listed.getD k false = true → ∀ e ∈ ok.after, Region.binds .any e = true → listed.getD e.on false = true) →
      (∀ k, listed.getD k false = true → V (stage cs listed) k (u k) w) → wpAny P .any ops Q fuel listed (fillOps ops.toList u 0 a0) w := by
  have hdone : ∀ (listed : Array Bool), (∀ k, k < ops.size → listed.getD k false = true) → stage cs listed = cs.map fun _ => true :=
    fun listed h => List.map_congr_left fun c hc => h c (hin c hc)
  intro fuel
  induction fuel with
  | zero =>
    intro listed u w hsz hc hw hord hV
    have hall : ∀ k, k < ops.size → listed.getD k false = true := by
      intro k hk
      have h1 : ∀ b ∈ listed.toList, true = b := List.count_eq_length.1 (by simpa [hsz] using hc)
      have hk' : k < listed.size := by omega
      rw [Array.getD_eq_getD_getElem?, Array.getElem?_eq_getElem hk']
      exact (h1 _ (by simp)).symm
    refine ⟨?_, hE u w (by rw [← hdone listed hall]; exact hw) fun k hk => by rw [← hdone listed hall]; exact hV k (hall k hk)⟩
    rw [List.eq_nil_iff_forall_not_mem]
    intro j hj
    obtain ⟨h0, o, ho, _⟩ := mem_ready.1 hj
    have hj' : j < ops.size := (Array.getElem?_eq_some_iff.1 ho).1
    have := hall j hj'
    have hk' : j < listed.size := by omega
    rw [Array.getD_eq_getD_getElem?, Array.getElem?_eq_getElem hk'] at this h0
    simp at this h0
    rw [this] at h0; cases h0
  | succ fuel ih =>
    intro listed u w hsz hc hw hord hV
    refine ⟨fun hr => ?_, fun i hi => ?_⟩
    · have hall : ∀ k, k < ops.size → listed.getD k false = true := by
        intro k
        induction k using Nat.strongRecOn with
        | ind k ihk =>
          intro hk
          cases hb : listed.getD k false with
          | true => rfl
          | false =>
            exfalso
            have hk' : k < listed.size := by omega
            have hmem : k ∈ Region.ready .any ops listed := by
              rw [mem_ready]
              refine ⟨?_, ops[k], Array.getElem?_eq_getElem hk, fun e he hbd => ?_⟩
              · rw [Array.getD_eq_getD_getElem?, Array.getElem?_eq_getElem hk'] at hb ⊢
                simpa using hb
              · have := aftersB_at ops.toList 0 k ops[k] ha (by simp [hk]) e he hbd
                exact ihk e.on (by omega) (by omega)
            rw [hr] at hmem
            cases hmem
      exact hE u w (by rw [← hdone listed hall]; exact hw) fun k hk => by rw [← hdone listed hall]; exact hV k (hall k hk)
    · obtain ⟨h0, o, ho, hall⟩ := mem_ready.1 hi
      have hi' : i < ops.size := (Array.getElem?_eq_some_iff.1 ho).1
      have hk' : i < listed.size := by omega
      have ho' : ops.toList[i]? = some o := by rw [Array.getElem?_toList]; exact ho
      have hL := localsQ_at ops.toList 0 i o hl ho'
      have afterB_lt : ∀ e ∈ o.after, Region.binds .any e = true → e.on < i := fun e he hbd => by
        have := aftersB_at ops.toList 0 i o ha ho' e he hbd
        omega
      rw [Nat.zero_add] at hL
      have haft : ∀ k, (o.after.any fun e => Region.binds .any e && e.on == k) = true → V (stage cs listed) k (u k) w := fun k hk => by
        rw [Array.any_eq_true] at hk
        obtain ⟨q, hq, he⟩ := hk
        rw [Bool.and_eq_true] at he
        have := hall _ (Array.getElem_mem hq) he.1
        rw [beq_iff_eq.1 he.2] at this
        exact hV k this
      have hf : listed.toList[i]? = some false := by
        rw [Array.getD_eq_getD_getElem?, Array.getElem?_eq_getElem hk'] at h0
        rw [Array.getElem?_toList, Array.getElem?_eq_getElem hk']
        simpa using h0
      have hcnt := count_set listed.toList i hf
      have hother : ∀ k, k ≠ i → (listed.setIfInBounds i true).getD k false = true → listed.getD k false = true := fun k hki hk => by
        rw [Array.getD_eq_getD_getElem?, Array.getElem?_setIfInBounds_ne (Ne.symm hki)] at hk
        rw [Array.getD_eq_getD_getElem?]
        exact hk
      have hlen : (stage cs listed).length = cs.length := List.length_map ..
      have hun : listed.getD i false = false := by
        rw [Array.getD_eq_getD_getElem?, Array.getElem?_eq_getElem hk'] at h0 ⊢
        simpa using h0
      have hord' : ∀ (k : Nat) (ok : Oper), ops[k]? = some ok → (listed.setIfInBounds i true).getD k false = true → ∀ e ∈ ok.after, Region.binds .any e = true → (listed.setIfInBounds i true).getD e.on false = true := fun k ok hok hk e he hbd => by
        have hup : ∀ m, listed.getD m false = true → (listed.setIfInBounds i true).getD m false = true := fun m hm => by
          by_cases hmi : i = m
          · subst hmi; rw [hun] at hm; cases hm
          · rw [Array.getD_eq_getD_getElem?, Array.getElem?_setIfInBounds_ne hmi, ← Array.getD_eq_getD_getElem?]; exact hm
        refine hup _ ?_
        by_cases hki : k = i
        · subst hki
          rw [ho] at hok
          cases hok
          have h5 := hall e he hbd
          have h6 := afterB_lt e he hbd
          rw [Array.getD_eq_getD_getElem?, Array.getElem?_eq_getElem (show e.on < listed.size by omega)] at h5 ⊢
          simpa using h5
        · exact hord k ok hok (hother k hki hk) e he hbd
      have hno : ∀ (p c : Nat) (oc : Oper), (stage cs listed)[p]? = some true → cs[p]? = some c → ops[c]? = some oc → (oc.after.any fun e => Region.binds .any e && e.on == i) = false := fun p c oc hp hcp hoc => by
        unfold stage at hp
        rw [List.getElem?_map, hcp] at hp
        have hlc : listed.getD c false = true := by simpa using hp
        cases hany : (oc.after.any fun e => Region.binds .any e && e.on == i) with
        | false => rfl
        | true =>
          rw [Array.any_eq_true] at hany
          obtain ⟨q, hq, he⟩ := hany
          rw [Bool.and_eq_true] at he
          have h7 := hord c oc hoc hlc _ (Array.getElem_mem hq) he.1
          rw [beq_iff_eq.1 he.2, hun] at h7
          cases h7
      by_cases hmem : i ∈ cs
      · obtain ⟨p, hp⟩ := List.mem_iff_getElem?.1 hmem
        have hpu : ∀ (q : Nat), cs[q]? = some i → q = p := fun q hq => hcs p q i hp hq
        have hbp : (stage cs listed)[p]? = some false := by
          unfold stage
          rw [List.getElem?_map, hp]
          have h00 : listed.getD i false = false := by
            rw [Array.getD_eq_getD_getElem?, Array.getElem?_eq_getElem hk'] at h0 ⊢
            simpa using h0
          simpa using h00
        obtain ⟨hwant, hstep⟩ := hL.2 p hp (stage cs listed) u w hlen hbp hw haft (fun q j hq hj => by
          refine hV j ?_
          unfold stage at hq
          rw [List.getElem?_map, hj] at hq
          simpa using hq)
        unfold Go.wpOp
        simp only [ho]
        rw [if_pos hwant]
        refine .inl (hstep _ _ fun v w' hJ' hv hkeep => ?_)
        rw [fill_upd u v ops.toList 0 i a0 o hd ho', Nat.zero_add]
        refine ih (listed.setIfInBounds i true) (upd u i v) w' (by simpa using hsz) (by rw [Array.toList_setIfInBounds, hcnt]; omega) (by rw [stage_turn hk' hp hpu]; exact hJ') hord' fun k hk => ?_
        rw [stage_turn hk' hp hpu]
        by_cases hki : k = i
        · subst hki; rw [upd_same]; exact hv
        · rw [upd_ne hki]
          exact hkeep k (hV k (hother k hki hk))
      · have hs := hL.1 hmem (stage cs listed) u w hlen hw hno haft
        refine hs.wpOp ho fun v w' hE' hv => ?_
        rw [fill_upd u v ops.toList 0 i a0 o hd ho', Nat.zero_add]
        refine ih (listed.setIfInBounds i true) (upd u i v) w' (by simpa using hsz) (by rw [Array.toList_setIfInBounds, hcnt]; omega) (by rw [stage_other hmem]; exact hJ _ w w' hw hE') hord' fun k hk => ?_
        rw [stage_other hmem]
        by_cases hki : k = i
        · subst hki; rw [upd_same]; exact hv
        · rw [upd_ne hki]
          exact hst _ k _ w w' hw hE' (hV k (hother k hki hk))

/-- The whole region. -/
theorem wp_region_stage {Q : Exit → Act → World → Prop} {id : Nat} {w : World} (cs : List Nat) (J : List Bool → World → Prop) (V : List Bool → Nat → Value → World → Prop) (hcs : ∀ (p q i : Nat), cs[p]? = some i → cs[q]? = some i → q = p) (hin : ∀ c ∈ cs, c < ops.size) (hm : P.follows .mixedOrders = true)
    (hd : dstsOk (ops.toList.map (·.dst)) = true) (ha : aftersOkB ops.toList 0 = true)
    (h00 : J (cs.map fun _ => false) w.drew) (hJ : ∀ (bs : List Bool) w1 w2, J bs w1 → Ext w1 w2 → J bs w2)
    (hst : ∀ (bs : List Bool) (k : Nat) v w1 w2, J bs w1 → Ext w1 w2 → V bs k v w1 → V bs k v w2) (hl : LocalsQ P ops J V cs a0 ops.toList 0)
    (hE : ∀ u w', J (cs.map fun _ => true) w' → (∀ k, k < ops.size → V (cs.map fun _ => true) k (u k) w') → Q .normal (fillOps ops.toList u 0 a0) w') : (Code.region id ops true).wp P Q a0 w := by
  have h0 : fillOps ops.toList (fun k => ((ops.toList[k]?).bind fun o => o.dst.bind fun d => a0.tmps[d]?).getD undef) 0 a0 = a0 := by
    refine fill_id _ ops.toList 0 a0 fun j o ho => ?_
    simp only [Nat.zero_add, ho, Option.bind_some]
    cases hq : o.dst with
    | none => rfl
    | some d =>
      simp only [Act.put, Option.bind_some]
      by_cases hlt : d < a0.tmps.size
      · rw [Array.getElem?_eq_getElem hlt]
        simp [Array.setIfInBounds, hlt]
      · simp [Array.setIfInBounds, hlt]
  refine wp_region_any hm ?_
  rw [← h0]
  refine wpAny_stage hcs hd ha hJ hst hl hE hin ops.size _ _ _ (by simp) (by simp [List.count_replicate]) ?_ ?_ fun k hk => ?_
  · rw [show stage cs (Array.replicate ops.size false) = cs.map fun _ => false from List.map_congr_left fun c _ => getD_rep ops.size c]; exact h00
  · intro k ok _ hk
    rw [getD_rep] at hk
    cases hk
  exfalso
  rw [Array.getD_eq_getD_getElem?, Array.getElem?_replicate] at hk
  split at hk <;> simp at hk
/-- Three cells laid anew. -/
theorem heap_set3 (w : World) (g : Nat) (a b c : Value) (j : Nat) (h : j ≠ g) : (((w.setCell ⟨g, 0, none⟩ a).setCell ⟨g, 1, none⟩ b).setCell ⟨g, 2, none⟩ c).heap[j]? = w.heap[j]? :=
  (Below.heap_setCell _ ⟨g, 2, none⟩ c j h).trans ((Below.heap_setCell _ ⟨g, 1, none⟩ b j h).trans (Below.heap_setCell _ ⟨g, 0, none⟩ a j h))
end
end Go

namespace Go
open Go.Proofs.YtejhiekikblbiaaGreatDoor Go.RowKit
section
variable {P : Program} {ops : Array Oper} {J : List Bool → World → Prop} {V : List Bool → Nat → Value → World → Prop} {a0 : Act} {cs : List Nat} {r0 : List Oper}

/-- What is to be shown of an ordinary operation, over the frame that the operations of r0 fill. -/
def LocalT (P : Program) (ops : Array Oper) (J : List Bool → World → Prop) (V : List Bool → Nat → Value → World → Prop) (cs : List Nat) (r0 : List Oper) (a0 : Act) (i : Nat) (o : Oper) : Prop :=
  (i ∉ cs → ∀ (bs : List Bool) (u : Nat → Value) (w : World), bs.length = cs.length → J bs w → (∀ (p c : Nat) (oc : Oper), bs[p]? = some true → cs[p]? = some c → ops[c]? = some oc → (oc.after.any fun e => Region.binds .any e && e.on == i) = false) → (∀ k, (o.after.any fun e => Region.binds .any e && e.on == k) = true → V bs k (u k) w) → OpLeaves P ops (V bs i) o (fillOps r0 u 0 a0) w) ∧
  (∀ (p : Nat), cs[p]? = some i → ∀ (bs : List Bool) (u : Nat → Value) (w : World), bs.length = cs.length → bs[p]? = some false → J bs w → (∀ k, (o.after.any fun e => Region.binds .any e && e.on == k) = true → V bs k (u k) w) →
    (∀ (q j : Nat), bs[q]? = some true → cs[q]? = some j → V bs j (u j) w) →
    Region.wanted o (yielded ops (fillOps r0 u 0 a0).tmps) = true ∧ ∀ (K : Act → World → Prop) (Q : Exit → Act → World → Prop),
      (∀ v w', J (bs.set p true) w' → V (bs.set p true) i v w' → (∀ k, V bs k (u k) w → V (bs.set p true) k (u k) w') → K ((fillOps r0 u 0 a0).put o.dst v) w') → o.wp P (fillOps r0 u 0 a0) w K Q)
def LocalsT (P : Program) (ops : Array Oper) (J : List Bool → World → Prop) (V : List Bool → Nat → Value → World → Prop) (cs : List Nat) (r0 : List Oper) (a0 : Act) : List Oper → Nat → Prop
  | [], _ => True
  | o :: r, i => LocalT P ops J V cs r0 a0 i o ∧ LocalsT P ops J V cs r0 a0 r (i + 1)
theorem localsT_nil {i} : LocalsT P ops J V cs r0 a0 [] i := trivial
/-- An ordinary operation. -/
theorem localsT_ord {o : Oper} {r : List Oper} {i : Nat} (hi : i ∉ cs)
    (h : ∀ (bs : List Bool) (u : Nat → Value) (w : World), bs.length = cs.length → J bs w → (∀ (p c : Nat) (oc : Oper), bs[p]? = some true → cs[p]? = some c → ops[c]? = some oc → (oc.after.any fun e => Region.binds .any e && e.on == i) = false) → (∀ k, (o.after.any fun e => Region.binds .any e && e.on == k) = true → V bs k (u k) w) → OpLeaves P ops (V bs i) o (fillOps r0 u 0 a0) w)
    (hr : LocalsT P ops J V cs r0 a0 r (i + 1)) : LocalsT P ops J V cs r0 a0 (o :: r) i :=
  ⟨⟨fun _ => h, fun _ hp => absurd (List.mem_of_getElem? hp) hi⟩, hr⟩
/-- One of cs: the p-th. -/
theorem localsT_turn {o : Oper} {r : List Oper} {i : Nat} (p : Nat) (hp : cs[p]? = some i) (hu : ∀ (q : Nat), cs[q]? = some i → q = p)
    (h : ∀ (bs : List Bool) (u : Nat → Value) (w : World), bs.length = cs.length → bs[p]? = some false → J bs w → (∀ k, (o.after.any fun e => Region.binds .any e && e.on == k) = true → V bs k (u k) w) →
      (∀ (q j : Nat), bs[q]? = some true → cs[q]? = some j → V bs j (u j) w) →
      Region.wanted o (yielded ops (fillOps r0 u 0 a0).tmps) = true ∧ ∀ (K : Act → World → Prop) (Q : Exit → Act → World → Prop),
        (∀ v w', J (bs.set p true) w' → V (bs.set p true) i v w' → (∀ k, V bs k (u k) w → V (bs.set p true) k (u k) w') → K ((fillOps r0 u 0 a0).put o.dst v) w') → o.wp P (fillOps r0 u 0 a0) w K Q)
    (hr : LocalsT P ops J V cs r0 a0 r (i + 1)) : LocalsT P ops J V cs r0 a0 (o :: r) i :=
  ⟨⟨fun hn => absurd (List.mem_of_getElem? hp) hn, fun q hq => by obtain rfl := hu q hq; exact h⟩, hr⟩
theorem localsT_at : ∀ (r : List Oper) (k i : Nat) (o : Oper), LocalsT P ops J V cs r0 a0 r k → r[i]? = some o → LocalT P ops J V cs r0 a0 (k + i) o
  | [], _, _, _, _, h => by cases h
  | o' :: r, k, 0, o, hl, h => by obtain rfl : o' = o := by simpa using h
                                  exact hl.1
  | o' :: r, k, i + 1, o, hl, h => by
    rw [show k + (i + 1) = k + 1 + i by omega]
    exact localsT_at r (k + 1) i o hl.2 (by simpa using h)

theorem wpAny_stages {Q : Exit → Act → World → Prop} {n : Nat} (hs : Region.sinkB .any ops n = true) (hc : Region.chainB .any ops n = true) (hn : n < ops.size) (hseq : Region.seqB .any ops (ops.size - n) n (headDone n (ops.size - n)) = true)
    (hcs : ∀ (p q i : Nat), cs[p]? = some i → cs[q]? = some i → q = p) (hin : ∀ c ∈ cs, c < n)
    (hd : dstsOk ((ops.toList.take n).map (·.dst)) = true) (ha : aftersOkB ops.toList 0 = true)
    (hJ : ∀ (bs : List Bool) w w', J bs w → Ext w w' → J bs w') (hst : ∀ (bs : List Bool) (k : Nat) v w w', J bs w → Ext w w' → V bs k v w → V bs k v w') (hl : LocalsT P ops J V cs (ops.toList.take n) a0 (ops.toList.take n) 0)
    (hE : ∀ u w, J (cs.map fun _ => true) w → (∀ k, k < n → V (cs.map fun _ => true) k (u k) w) → wpList P ops Q (ops.toList.drop n) (fillOps (ops.toList.take n) u 0 a0) w) :
    ∀ (f : Nat) (listed : Array Bool) (u : Nat → Value) (w : World), HeadInv .any ops n listed → (listed.toList.take n).count true + f = n → J (stage cs listed) w →
      (∀ k, listed.getD k false = true → V (stage cs listed) k (u k) w) → wpAny P .any ops Q (f + (ops.size - n)) listed (fillOps (ops.toList.take n) u 0 a0) w := by
  intro f
  induction f with
  | zero =>
    intro listed u w inv hcount hw hV
    have hsz := inv.size
    have hlen : (listed.toList.take n).length = n := by rw [List.length_take, Array.length_toList]; omega
    have hall : ∀ k, k < n → listed[k]? = some true := by
      intro k hk
      have h1 : ∀ b ∈ listed.toList.take n, true = b := List.count_eq_length.1 (by rw [hlen]; omega)
      have hk' : k < listed.size := by omega
      rw [Array.getElem?_eq_getElem hk']
      congr 1
      refine (h1 _ ?_).symm
      rw [List.mem_take_iff_getElem]
      exact ⟨k, by rw [Array.length_toList]; omega, by simp⟩
    have htail : ∀ k, n ≤ k → k < ops.size → listed[k]? = some false := by
      intro k hk1 hk2
      have h0 := inv.tail k hk1 hk2
      have hk' : k < listed.size := by omega
      rw [Array.getD_eq_getD_getElem?, Array.getElem?_eq_getElem hk'] at h0
      rw [Array.getElem?_eq_getElem hk']
      simpa using h0
    have heq : listed = headDone n (ops.size - n) := by
      apply Array.ext_getElem?
      intro k
      rw [headDone_at]
      by_cases h1 : k < n
      · rw [if_pos h1]; exact hall k h1
      · rw [if_neg h1]
        by_cases h2 : k < ops.size
        · rw [if_pos (by omega)]; exact htail k (by omega) h2
        · rw [if_neg (by omega)]; exact Array.getElem?_eq_none (by omega)
    have hdone : stage cs listed = cs.map fun _ => true :=
      List.map_congr_left fun c hcm => by rw [Array.getD_eq_getD_getElem?, hall c (hin c hcm)]; rfl
    have hdl : (ops.toList.drop n).length = ops.size - n := by simp
    have H := wpAny_of_seq (P := P) (md := .any) (Q' := Q) (ops.toList.drop n) n listed (fillOps (ops.toList.take n) u 0 a0) w (fun j => by simp [List.getElem?_drop]) (by rw [hdl, heq]; exact hseq)
      (hE u w (by rw [← hdone]; exact hw) fun k hk => by rw [← hdone]; exact hV k (by rw [Array.getD_eq_getD_getElem?, hall k hk]; rfl))
    rw [hdl] at H
    rw [Nat.zero_add]
    exact H
  | succ f ih =>
    intro listed u w inv hcount hw hV
    have hsz := inv.size
    have hlen : (listed.toList.take n).length = n := by rw [List.length_take, Array.length_toList]; omega
    have hex : ∃ i, i < n ∧ listed.getD i true = false := by
      apply Classical.byContradiction
      intro hno
      have : ∀ b ∈ listed.toList.take n, true = b := by
        intro b hb
        obtain ⟨k, hk, rfl⟩ := List.mem_iff_getElem.1 hb
        have hk2 : k < n := by omega
        cases hq : (listed.toList.take n)[k] with
        | true => rfl
        | false =>
          exfalso
          refine hno ⟨k, hk2, ?_⟩
          have hk' : k < listed.size := by omega
          rw [Array.getD_eq_getD_getElem?, Array.getElem?_eq_getElem hk']
          simpa using hq
      have := List.count_eq_length.2 this
      omega
    obtain ⟨i0, hi0, hun0⟩ := hex
    have hlow : ∀ t, t ∈ Region.ready .any ops listed → t < n := fun t ht => by
      rcases Nat.lt_or_ge t n with h | h
      · exact h
      · exact absurd ht (tail_waits hs hc hn inv _ i0 rfl hi0 hun0 t h)
    rw [show f + 1 + (ops.size - n) = (f + (ops.size - n)) + 1 by omega]
    refine ⟨fun hr => ?_, fun i hi => ?_⟩
    · exfalso
      have : ∀ k, k < n → listed.getD k true = true := by
        intro k
        induction k using Nat.strongRecOn with
        | ind k ihk =>
          intro hk
          cases hb : listed.getD k true with
          | true => rfl
          | false =>
            exfalso
            have hmem : k ∈ Region.ready .any ops listed := by
              rw [mem_ready]
              refine ⟨hb, ops[k]'(by omega), Array.getElem?_eq_getElem (by omega), fun e he hbd => ?_⟩
              have h1 := aftersB_at ops.toList 0 k (ops[k]'(by omega)) ha (by simp [show k < ops.size by omega]) e he hbd
              have h2 := ihk e.on (by omega) (by omega)
              have h3 : e.on < listed.size := by omega
              rw [Array.getD_eq_getD_getElem?, Array.getElem?_eq_getElem h3] at h2 ⊢
              simpa using h2
            rw [hr] at hmem
            cases hmem
      rw [this i0 hi0] at hun0
      cases hun0
    · have hil := hlow i hi
      have inv' := inv.set hi hil
      obtain ⟨h0, o', ho', hall⟩ := mem_ready.1 hi
      have hk' : i < listed.size := by omega
      have ho3 : (ops.toList.take n)[i]? = some o' := by rw [List.getElem?_take, if_pos hil, Array.getElem?_toList]; exact ho'
      have hL := localsT_at (ops.toList.take n) 0 i o' hl ho3
      rw [Nat.zero_add] at hL
      have haft : ∀ k, (o'.after.any fun e => Region.binds .any e && e.on == k) = true → V (stage cs listed) k (u k) w := fun k hk => by
        rw [Array.any_eq_true] at hk
        obtain ⟨q, hq, he⟩ := hk
        rw [Bool.and_eq_true] at he
        have := hall _ (Array.getElem_mem hq) he.1
        rw [beq_iff_eq.1 he.2] at this
        exact hV k this
      have hf : (listed.toList.take n)[i]? = some false := by
        rw [Array.getD_eq_getD_getElem?, Array.getElem?_eq_getElem hk'] at h0
        rw [List.getElem?_take, if_pos hil, Array.getElem?_toList, Array.getElem?_eq_getElem hk']
        simpa using h0
      have hcnt : ((listed.setIfInBounds i true).toList.take n).count true + f = n := by
        have := count_set (listed.toList.take n) i hf
        rw [Array.toList_setIfInBounds, List.take_set, this]
        omega
      have hother : ∀ k, k ≠ i → (listed.setIfInBounds i true).getD k false = true → listed.getD k false = true := fun k hki hk => by
        rw [Array.getD_eq_getD_getElem?, Array.getElem?_setIfInBounds_ne (Ne.symm hki)] at hk
        rw [Array.getD_eq_getD_getElem?]
        exact hk
      have hlenS : (stage cs listed).length = cs.length := List.length_map ..
      have hun : listed.getD i false = false := getD_both h0
      have hno : ∀ (p c : Nat) (oc : Oper), (stage cs listed)[p]? = some true → cs[p]? = some c → ops[c]? = some oc → (oc.after.any fun e => Region.binds .any e && e.on == i) = false := fun p c oc hp hcp hoc => by
        unfold stage at hp
        rw [List.getElem?_map, hcp] at hp
        have hlc : listed.getD c false = true := by simpa using hp
        cases hany : (oc.after.any fun e => Region.binds .any e && e.on == i) with
        | false => rfl
        | true =>
          rw [Array.any_eq_true] at hany
          obtain ⟨q, hq, he⟩ := hany
          rw [Bool.and_eq_true] at he
          have h7 := inv.closed c oc hoc hlc _ (Array.getElem_mem hq) he.1
          rw [beq_iff_eq.1 he.2, hun] at h7
          cases h7
      by_cases hmem : i ∈ cs
      · obtain ⟨p, hp⟩ := List.mem_iff_getElem?.1 hmem
        have hpu : ∀ (q : Nat), cs[q]? = some i → q = p := fun q hq => hcs p q i hp hq
        have hbp : (stage cs listed)[p]? = some false := by
          unfold stage
          rw [List.getElem?_map, hp]
          have h00 : listed.getD i false = false := by
            rw [Array.getD_eq_getD_getElem?, Array.getElem?_eq_getElem hk'] at h0 ⊢
            simpa using h0
          simpa using h00
        obtain ⟨hwant, hstep⟩ := hL.2 p hp (stage cs listed) u w hlenS hbp hw haft (fun q j hq hj => by
          refine hV j ?_
          unfold stage at hq
          rw [List.getElem?_map, hj] at hq
          simpa using hq)
        unfold Go.wpOp
        simp only [ho']
        rw [if_pos hwant]
        refine .inl (hstep _ _ fun v w' hJ' hv hkeep => ?_)
        rw [fill_upd u v (ops.toList.take n) 0 i a0 o' hd ho3, Nat.zero_add]
        refine ih (listed.setIfInBounds i true) (upd u i v) w' inv' hcnt (by rw [stage_turn hk' hp hpu]; exact hJ') fun k hk => ?_
        rw [stage_turn hk' hp hpu]
        by_cases hki : k = i
        · subst hki; rw [upd_same]; exact hv
        · rw [upd_ne hki]
          exact hkeep k (hV k (hother k hki hk))
      · have hss := hL.1 hmem (stage cs listed) u w hlenS hw hno haft
        refine hss.wpOp ho' fun v w' hE' hv => ?_
        rw [fill_upd u v (ops.toList.take n) 0 i a0 o' hd ho3, Nat.zero_add]
        refine ih (listed.setIfInBounds i true) (upd u i v) w' inv' hcnt (by rw [stage_other hmem]; exact hJ _ w w' hw hE') fun k hk => ?_
        rw [stage_other hmem]
        by_cases hki : k = i
        · subst hki; rw [upd_same]; exact hv
        · rw [upd_ne hki]
          exact hst _ k _ w w' hw hE' (hV k (hother k hki hk))

/-- The whole region. -/
theorem wp_region_stages {Q : Exit → Act → World → Prop} {id : Nat} {w : World} (cs : List Nat) (J : List Bool → World → Prop) (V : List Bool → Nat → Value → World → Prop) (n : Nat) (hcs : ∀ (p q i : Nat), cs[p]? = some i → cs[q]? = some i → q = p) (hin : ∀ c ∈ cs, c < n) (hm : P.follows .mixedOrders = true)
    (hs : Region.sinkB .any ops n = true) (hc : Region.chainB .any ops n = true) (hn : n < ops.size) (hseq : Region.seqB .any ops (ops.size - n) n (headDone n (ops.size - n)) = true)
    (hd : dstsOk ((ops.toList.take n).map (·.dst)) = true) (ha : aftersOkB ops.toList 0 = true)
    (h00 : J (cs.map fun _ => false) w.drew) (hJ : ∀ (bs : List Bool) w1 w2, J bs w1 → Ext w1 w2 → J bs w2)
    (hst : ∀ (bs : List Bool) (k : Nat) v w1 w2, J bs w1 → Ext w1 w2 → V bs k v w1 → V bs k v w2) (hl : LocalsT P ops J V cs (ops.toList.take n) a0 (ops.toList.take n) 0)
    (hE : ∀ u w', J (cs.map fun _ => true) w' → (∀ k, k < n → V (cs.map fun _ => true) k (u k) w') → wpList P ops Q (ops.toList.drop n) (fillOps (ops.toList.take n) u 0 a0) w') : (Code.region id ops true).wp P Q a0 w := by
  have h0 : fillOps (ops.toList.take n) (fun k => (((ops.toList.take n)[k]?).bind fun o => o.dst.bind fun d => a0.tmps[d]?).getD undef) 0 a0 = a0 := by
    refine fill_id _ (ops.toList.take n) 0 a0 fun j o ho => ?_
    simp only [Nat.zero_add, ho, Option.bind_some]
    cases hq : o.dst with
    | none => rfl
    | some d =>
      simp only [Act.put, Option.bind_some]
      by_cases hlt : d < a0.tmps.size
      · rw [Array.getElem?_eq_getElem hlt]
        simp [Array.setIfInBounds, hlt]
      · simp [Array.setIfInBounds, hlt]
  have hr : ∀ k, (Array.replicate ops.size false).getD k false = false := fun k => getD_replicate_false _ _
  refine wp_region_any hm ?_
  have inv0 : HeadInv .any ops n (Array.replicate ops.size false) :=
    ⟨by simp, fun j oj _ hl => (by rw [hr] at hl; cases hl), fun t _ ht => getD_in (by simpa using ht) (hr _)⟩
  have H := wpAny_stages (Q := Q) hs hc hn hseq hcs hin hd ha hJ hst hl hE n (Array.replicate ops.size false) (fun k => (((ops.toList.take n)[k]?).bind fun o => o.dst.bind fun d => a0.tmps[d]?).getD undef) w.drew inv0
    (by simp [List.take_replicate, List.count_replicate]) (by rw [show stage cs (Array.replicate ops.size false) = cs.map fun _ => false from List.map_congr_left fun c _ => getD_rep ops.size c]; exact h00) fun k hk => by rw [hr] at hk; cases hk
  rw [h0, show n + (ops.size - n) = ops.size by omega] at H
  exact H
end
end Go

namespace Go.Proofs.YtejhiekikblbiaaGreatDoor
open Go.RowKit

/-- A row stays where a row of another element type is turned. -/
theorem own_kept_type {W W' : World} {base base' : Nat} {e e' : TypeId} {size size' n n' : Nat} {v v' : Value} {xs xs' : List Value} (h : W.ownsRow base e size v n xs) (h' : W.ownsRow base' e' size' v' n' xs') (hne : e ≠ e') (hg : W.grownBy W' v'.ownBlock) : W'.ownsRow base e size v n xs := by
  refine h.kept hg ?_
  rcases h.2 with ⟨rfl, _⟩ | ⟨g, cap, cur, rfl, hb, hgb, _⟩
  · exact .inl rfl
  · refine .inr fun e9 => ?_
    rcases h'.2 with ⟨rfl, _⟩ | ⟨g', cap', cur', rfl, hb', hgb', _⟩
    · cases e9
    · have : some g = some g' := e9
      cases this
      rw [hgb] at hgb'
      cases hgb'
      exact hne rfl
/-- A block of one type stays where a row of another element type is turned. -/
theorem arr_kept_type {W W' : World} {base' g : Nat} {t e' : TypeId} {size' n' : Nat} {v' : Value} {ys xs' : List Value} (h : Arr W g t ys) (h' : W.ownsRow base' e' size' v' n' xs') (hne : t ≠ e') (hg : W.grownBy W' v'.ownBlock) : Arr W' g t ys := by
  refine arr_kept h hg fun r e9 => ?_
  rcases h'.2 with ⟨rfl, _⟩ | ⟨g', cap', cur', rfl, hb', hgb', _⟩
  · cases e9
  · have : some g' = some r := e9
    cases this
    rintro rfl
    unfold Arr at h
    rw [h] at hgb'
    cases hgb'
    exact hne rfl

section
variable {P : Program} {t e : TypeId} {z : Value} {size bytes : Nat}
theorem run_app_nil (E : Elem P t e z size bytes) {w : World} {base : Nat} {v : Value} {n : Nat} {xs : List Value} (hown : w.ownsRow base e size v n xs) (ty : TypeId) (c : Nat) : (Builtin.append_ #[t, t] ty #[v, .slice none 0 c]).run P w = .ok v w := by
  obtain ⟨i, hi, hz, hsz, hby⟩ := E.hi
  rcases hown.2 with ⟨rfl, rfl⟩ | ⟨g, cap, cur, rfl, _, _, hnc, _⟩
  · simp [Builtin.append_, run_underlying E.ht, sizeOf, typeInfo, hi, Builtin.lenOf, Builtin.firstCells]
  · simp [Builtin.append_, run_underlying E.ht, sizeOf, typeInfo, hi, Builtin.lenOf, Builtin.firstCells, hnc, storeCells]
/-- At a step of a region that draws its order. -/
theorem wp_app_rd (E : Elem P t e z size bytes) {w : World} {o : Oper} {a : Act} {K : Act → World → Prop} {Q : Exit → Act → World → Prop} (s x : Operand) (ho : o.op = .call { callee := .builtin .append, args := #[s, x], argTypes := #[t, t] })
    {base B : Nat} {v vx : Value} {n m : Nat} {xs news : List Value} (hown : w.ownsRow base e size v n xs) (hs : a.eval s = v) (hx : a.eval x = vx) (hr : Rd w B size vx m news)
    (h1 : ∀ u ∈ news, u.oneCell' = true) (h63 : n + m ≤ 9223372036854775807) (hbytes : (n + m) * bytes ≤ 140737488355328) (hbase : base ≤ w.heap.size)
    (h : ∀ v' w', w'.ownsRow base e size v' (n + m) (xs ++ news) → w.grownBy w' v.ownBlock → K (a.put o.dst v') w') : o.wp P a w K Q := by
  obtain ⟨A, c, rfl, hm, hl, hc⟩ := hr
  cases A with
  | none =>
    obtain rfl : m = 0 := by
      rcases Nat.eq_zero_or_pos m with h0 | h0
      · exact h0
      · obtain ⟨b, off, hh, _⟩ := hc h0
        cases hh
    obtain rfl : news = [] := List.eq_nil_of_length_eq_zero (by simpa using hl)
    have hrun := run_app_nil E hown o.type c
    unfold Oper.wp execOp
    simp only [ho, resolve, invoke, builtin, Sem.run_bind, Sem.run_pure, Result.andThen_ok, List.map_toArray, List.map_cons, List.map_nil, hs, hx, hrun]
    exact h v w (by simpa using hown) ⟨rfl, rfl, rfl, Nat.le_refl _, fun _ _ _ => rfl⟩
  | some ad =>
    refine wp_app E s x ho hown m hs hx hl (fun j u hu => ?_) h1 h63 hbytes hbase h
    have h0 : 0 < m := by
      rcases Nat.eq_zero_or_pos m with h0 | h0
      · subst h0
        obtain rfl : news = [] := List.eq_nil_of_length_eq_zero (by simpa using hl)
        simp at hu
      · exact h0
    obtain ⟨b, off, hh, hb, hcell⟩ := hc h0
    cases hh
    rw [WideShapes.add_plain]
    exact hcell j u hu
/-- At a plain list. -/
theorem wpl_app_rd (E : Elem P t e z size bytes) {w : World} {ops : Array Oper} {rest : List Oper} {o : Oper} {a : Act} {Q : Exit → Act → World → Prop} (hgd : o.guard = none) (s x : Operand) (ho : o.op = .call { callee := .builtin .append, args := #[s, x], argTypes := #[t, t] })
    {base B : Nat} {v vx : Value} {n m : Nat} {xs news : List Value} (hown : w.ownsRow base e size v n xs) (hs : a.eval s = v) (hx : a.eval x = vx) (hr : Rd w B size vx m news)
    (h1 : ∀ u ∈ news, u.oneCell' = true) (h63 : n + m ≤ 9223372036854775807) (hbytes : (n + m) * bytes ≤ 140737488355328) (hbase : base ≤ w.heap.size)
    (h : ∀ v' w', w'.ownsRow base e size v' (n + m) (xs ++ news) → w.grownBy w' v.ownBlock → wpList P ops Q rest (a.put o.dst v') w') : wpList P ops Q (o :: rest) a w :=
  wpList_plain hgd fun _ hK => wp_app_rd E s x ho hown hs hx hr h1 h63 hbytes hbase fun v' w' h2 h3 => hK _ _ (h v' w' h2 h3)
end
end Go.Proofs.YtejhiekikblbiaaGreatDoor

namespace Go.Proofs.YtejhiekikblbiaaGreatDoor
open Go.RowKit Go.ChangeShapes Go.WideShapes Go.Deep

theorem flat_cells {f : Nat → Option Value} {size : Nat} : ∀ (css : List (List Value)) (off : Nat), (∀ cs ∈ css, cs.length = size) →
    (∀ i (c : List Value), css[i]? = some c → ∀ k, k < size → f (off + i * size + k) = c[k]?) → ∀ j u, css.flatten[j]? = some u → f (off + j) = some u := by
  intro css
  induction css with
  | nil => intro off _ _ j u h; simp at h
  | cons c r ih =>
    intro off hl hc j u h
    have hcl : c.length = size := hl c (by simp)
    rw [List.flatten_cons] at h
    by_cases hj : j < size
    · rw [List.getElem?_append_left (by omega)] at h
      have := hc 0 c rfl j hj
      rw [Nat.zero_mul, Nat.add_zero] at this
      rw [this, h]
    · rw [List.getElem?_append_right (by omega), hcl] at h
      have := ih (off + size) (fun cs h => hl cs (by simp [h])) (fun i c' hi k hk => by
        have := hc (i + 1) c' (by simpa using hi) k hk
        rw [← this, Nat.add_mul, Nat.one_mul]
        congr 1
        omega) (j - size) u h
      rw [← this]
      congr 1
      omega

theorem list_choose {α β : Type} {g : α → β} {Q : α → Prop} : ∀ (cs : List β), (∀ c ∈ cs, ∃ s, c = g s ∧ Q s) → ∃ ss : List α, cs = ss.map g ∧ ∀ s ∈ ss, Q s
  | [], _ => ⟨[], rfl, by simp⟩
  | c :: r, h => by
    obtain ⟨s, h1, h2⟩ := h c (by simp)
    obtain ⟨ss, h3, h4⟩ := list_choose r (fun x hx => h x (by simp [hx]))
    exact ⟨s :: ss, by simp [h1, h3], by intro x hx; rcases List.mem_cons.1 hx with rfl | hx; exact h2; exact h4 x hx⟩

section
variable {H : Type} {enc : TypeId × Value → H} {P : Program} {W : World}

theorem open_rd {t e : TypeId} {r : Reach} {b0 : Nat} {v : Value} {d : DataW H} {ps : List MemPlace} (ht : P.underlying t = some (.slice e)) (size : Nat) (hc : P.cellsOf e = size) (h0 : 0 < size)
    (E : List Value → Prop) (hE : ∀ n cs x, DataW.trod enc P W 0 (fun _ => true) true n e cs = some x → E cs)
    (hv : Value.okWide P W r b0 t v) (h : DataW.Trod enc P W 0 (fun _ => true) true t v d ps) :
    ∃ (n : Nat) (css : List (List Value)), Rd W W.heap.size size v n css.flatten ∧ css.length = n ∧ n ≤ maxLen ∧ ∀ cs ∈ css, cs.length = size ∧ E cs := by
  obtain ⟨a, len, cap, rfl⟩ := okWide_slice ht hv
  obtain ⟨fuel, hf⟩ := h
  rcases open_slice ht hf with ⟨hcs, hx⟩ | ⟨a', len', cap', m, n, D, Pl, hcs, _, hl, hm, hmm, hx, hcell⟩
  · simp [Value.cells] at hcs
    obtain ⟨rfl, rfl, rfl⟩ := hcs
    exact ⟨0, [], ⟨_, _, rfl, by omega, by simp, fun h => absurd h (by omega)⟩, rfl, by omega, by simp⟩
  · simp [Value.cells] at hcs
    obtain ⟨rfl, rfl, rfl⟩ := hcs
    have hlm : len ≤ m := by rw [hmm]; split <;> omega
    have each : ∀ i, i < m → ∃ cs' : List Value, cs'.length = size ∧ E cs' ∧ ∀ k, k < size → W.cell? ((a'.add (i * size)).add k) = cs'[k]? := fun i hi => by
      obtain ⟨cs', h1, h2⟩ := hcell i hi
      rw [hc] at h1
      obtain ⟨_, h3, h4⟩ := World.cells?_some h1
      exact ⟨cs', h3, hE _ _ _ h2, h4⟩
    obtain ⟨C, hC⟩ := choose_lt each
    have hlen : ∀ cs ∈ (List.range len).map C, cs.length = size ∧ E cs := fun cs hcs => by
      obtain ⟨i, hi, rfl⟩ := List.mem_map.1 hcs
      have := hC i (by have := List.mem_range.1 hi; omega)
      exact ⟨this.1, this.2.1⟩
    refine ⟨len, (List.range len).map C, ⟨_, _, rfl, by unfold maxLen at hm; omega, ?_, fun hpos => ?_⟩, by simp, by omega, hlen⟩
    · have hflat : ∀ l : List (List Value), (∀ c ∈ l, c.length = size) → l.flatten.length = l.length * size := by
        intro l
        induction l with
        | nil => intro _; simp
        | cons c r ih => intro h; rw [List.flatten_cons, List.length_append, h c (by simp), ih (fun x hx => h x (by simp [hx])), List.length_cons, Nat.add_mul]; omega
      have := hflat ((List.range len).map C) (fun c hc => (hlen c hc).1)
      simpa using this
    · obtain ⟨b, off, spot⟩ := a'
      have hc0 := (hC 0 (by omega)).2.2 0 h0
      obtain ⟨u0, hu0⟩ : ∃ u, (C 0)[0]? = some u := by
        have := (hC 0 (by omega)).1
        exact ⟨(C 0)[0]'(by omega), List.getElem?_eq_getElem _⟩
      rw [hu0] at hc0
      have hspot : spot = none := by simpa [Addr.add] using World.cell?_spot hc0
      subst hspot
      have hb : b < W.heap.size := by
        have := World.block_lt_of_cell? _ _ hc0
        simpa [Addr.add] using this
      refine ⟨b, off, rfl, hb, ?_⟩
      refine flat_cells (f := fun i => W.cell? ⟨b, i, none⟩) ((List.range len).map C) off (fun c hc => (hlen c hc).1) (fun i c hi k hk => ?_)
      have hi' : i < len ∧ C i = c := by
        have := List.getElem?_eq_some_iff.1 hi
        obtain ⟨h1, h2⟩ := this
        simp at h1 h2
        exact ⟨h1, h2⟩
      have h4 := (hC i (by omega)).2.2 k hk
      rw [hi'.2] at h4
      rw [← h4]
      rw [add_plain, add_plain]

theorem open_rd1 {t e : TypeId} {r : Reach} {b0 : Nat} {v : Value} {d : DataW H} {ps : List MemPlace} (ht : P.underlying t = some (.slice e)) (hc : P.cellsOf e = 1) {α : Type} (g : α → Value) (Q : α → Prop)
    (hE : ∀ n cs x, DataW.trod enc P W 0 (fun _ => true) true n e cs = some x → ∃ s, cs = [g s] ∧ Q s)
    (hv : Value.okWide P W r b0 t v) (h : DataW.Trod enc P W 0 (fun _ => true) true t v d ps) :
    ∃ ss : List α, Rd W W.heap.size 1 v ss.length (ss.map g) ∧ ss.length ≤ maxLen ∧ ∀ s ∈ ss, Q s := by
  obtain ⟨n, css, h1, h2, h3, h4⟩ := open_rd ht 1 hc (by omega) (fun cs => ∃ s, cs = [g s] ∧ Q s) hE hv h
  obtain ⟨ss, rfl, h5⟩ := list_choose css (fun c hc => (h4 c hc).2)
  have : ∀ l : List α, (l.map fun s => [g s]).flatten = l.map g := fun l => by induction l with
    | nil => rfl
    | cons a r ih => rw [List.map_cons, List.flatten_cons, ih]; rfl
  rw [this] at h1
  simp at h2
  subst h2
  exact ⟨ss, h1, h3, h5⟩
theorem open_rd_strs {t e : TypeId} {r : Reach} {b0 : Nat} {v : Value} {d : DataW H} {ps : List MemPlace} (ht : P.underlying t = some (.slice e)) (he : P.underlying e = some .string) (hc : P.cellsOf e = 1)
    (hv : Value.okWide P W r b0 t v) (h : DataW.Trod enc P W 0 (fun _ => true) true t v d ps) :
    ∃ ss : List (List UInt8), Rd W W.heap.size 1 v ss.length (ss.map Str) ∧ ss.length ≤ maxLen ∧ ∀ s ∈ ss, s.length ≤ maxLen :=
  open_rd1 ht hc Str (fun s => s.length ≤ maxLen) (fun n cs x hx => by
    obtain ⟨s, h1, _, h3⟩ := DataW.trod_string he hx
    exact ⟨toL s, by rw [h1]; unfold Str; rw [ofL_toL], by rw [length_toL]; exact h3⟩) hv h
theorem open_rd_ints {t e : TypeId} {k : IntKind} {r : Reach} {b0 : Nat} {v : Value} {d : DataW H} {ps : List MemPlace} (ht : P.underlying t = some (.slice e)) (he : P.underlying e = some (.int k)) (hc : P.cellsOf e = 1)
    (hv : Value.okWide P W r b0 t v) (h : DataW.Trod enc P W 0 (fun _ => true) true t v d ps) :
    ∃ ss : List Int, Rd W W.heap.size 1 v ss.length (ss.map (Value.int k)) ∧ ss.length ≤ maxLen ∧ ∀ s ∈ ss, (Lit.int k s).wf = true :=
  open_rd1 ht hc (Value.int k) (fun s => (Lit.int k s).wf = true) (fun n cs x hx => by
    obtain ⟨s, h1, _, h3⟩ := DataW.trod_int he hx
    exact ⟨s, h1, h3⟩) hv h

/-- A struct whose fields have a cell each. -/
theorem trod_cells {t : TypeId} {fs : Array Field} {n : Nat} {cs : List Value} {x : DataW H × List MemPlace} (ht : P.underlying t = some (.struct fs)) (hc : P.cellsOf t = fs.size)
    (hf : (fs.toList.zipIdx.all fun q => q.1.offset == q.2 && P.cellsOf q.1.type == 1) = true) (h : DataW.trod enc P W 0 (fun _ => true) true n t cs = some x) :
    cs.length = fs.size ∧ ∀ (i : Nat) (f : Field), fs[i]? = some f → ∃ n' u y, cs[i]? = some u ∧ DataW.trod enc P W 0 (fun _ => true) true n' f.type [u] = some y := by
  obtain ⟨xs, m, _, _, hl, hxl, hx⟩ := DataW.trod_struct ht h
  rw [hc] at hl
  refine ⟨hl, fun i f hi => ?_⟩
  have hlt := (Array.getElem?_eq_some_iff.1 hi).1
  have hq := (List.all_eq_true.1 hf) (f, i) (by
    rw [List.mem_zipIdx_iff_getElem?]
    simpa using hi)
  simp only [Bool.and_eq_true, beq_iff_eq] at hq
  have h1 := hx i f hi
  rw [hq.1, hq.2] at h1
  obtain ⟨u, hu⟩ : ∃ u, cs[i]? = some u := ⟨cs[i]'(by omega), List.getElem?_eq_getElem _⟩
  have h2 : (cs.drop i).take 1 = [u] := by
    rw [List.drop_eq_getElem_cons (by omega), List.take_succ_cons, List.take_zero]
    have := List.getElem?_eq_getElem (show i < cs.length by omega)
    rw [this] at hu
    simpa using hu
  rw [h2] at h1
  exact ⟨m, u, xs[i]'(by omega), hu, by rw [h1]; exact List.getElem?_eq_getElem _⟩

/-- What came in reads as before where nothing that was there has turned. -/
theorem trodAll_stays (hl : laidOutB P = true) {W' : World} {sp : Nat → Bool} : ∀ {ts : List TypeId} {vs : List Value} {ds : List (DataW H)} {ps : List MemPlace}, (ts.all fun t => P.readableRec t && decide (t < P.types.size)) = true →
    DataW.TrodAll enc P W 0 (fun _ => true) true ts vs ds ps → (∀ p ∈ ps, W.sameAt W' p) → (∀ p ∈ ps, sp p.block = true) → DataW.TrodAll enc P W' 0 sp true ts vs ds ps
  | [], vs, ds, ps, _, h, _, _ => by
    cases vs <;> cases ds <;> first | exact h | exact h.elim
  | t :: ts, [], ds, ps, _, h, _, _ => by cases ds <;> exact h.elim
  | t :: ts, _ :: _, [], ps, _, h, _, _ => h.elim
  | t :: ts, v :: vs, d :: ds, ps, ht, h, h1, h2 => by
    obtain ⟨p, q, ha, hb, rfl⟩ := h
    simp only [List.all_cons, Bool.and_eq_true, decide_eq_true_eq] at ht
    exact ⟨p, q, WideElems.Trod_stays hl ht.1.1 ht.1.2 ha (fun x hx => h1 x (by simp [hx])) (fun x hx => h2 x (by simp [hx])),
      trodAll_stays hl (by simpa using ht.2) hb (fun x hx => h1 x (by simp [hx])) (fun x hx => h2 x (by simp [hx])), rfl⟩

theorem wf_i64 {n : Int} (h : (Lit.int .i64 n).wf = true) : -9223372036854775808 ≤ n ∧ n ≤ 9223372036854775807 := by
  have h1 : IntKind.i64.min = -9223372036854775808 := rfl
  have h2 : IntKind.i64.max = 9223372036854775807 := rfl
  simp only [Lit.wf, Bool.and_eq_true, decide_eq_true_eq] at h
  omega
theorem wf_u64 {n : Int} (h : (Lit.int .u64 n).wf = true) : ∃ m : Nat, n = m ∧ m < 18446744073709551616 := by
  have h1 : IntKind.u64.min = 0 := rfl
  have h2 : IntKind.u64.max = 18446744073709551615 := rfl
  simp only [Lit.wf, Bool.and_eq_true, decide_eq_true_eq] at h
  exact ⟨n.toNat, by omega, by omega⟩
end
end Go.Proofs.YtejhiekikblbiaaGreatDoor

namespace Go.Proofs.YtejhiekikblbiaaGreatDoor
open Go.RowKit Go.ChangeShapes Go.WideShapes Go.Deep

section
variable {H : Type} {enc : TypeId × Value → H} {P : Program} {W : World}

theorem open_rdT {t e : TypeId} {v : Value} {fuel : Nat} {x : DataW H × List MemPlace} (ht : P.underlying t = some (.slice e)) (size : Nat) (hc : P.cellsOf e = size) (h0 : 0 < size)
    (E : List Value → Prop) (hE : ∀ n cs x, DataW.trod enc P W 0 (fun _ => true) true n e cs = some x → E cs)
    (hf : DataW.trod enc P W 0 (fun _ => true) true fuel t [v] = some x) :
    ∃ (n : Nat) (css : List (List Value)), Rd W W.heap.size size v n css.flatten ∧ (∃ A c, v = .slice A n c ∧ n ≤ c) ∧ css.length = n ∧ n ≤ maxLen ∧ ∀ cs ∈ css, cs.length = size ∧ E cs := by
  rcases open_slice ht hf with ⟨hcs, hx⟩ | ⟨a', len', cap', m, n, D, Pl, hcs, _, hl, hm, hmm, hx, hcell⟩
  · simp at hcs
    subst hcs
    exact ⟨0, [], ⟨_, _, rfl, by omega, by simp, fun h => absurd h (by omega)⟩, ⟨_, _, rfl, by omega⟩, rfl, by omega, by simp⟩
  · simp at hcs
    subst hcs
    have hlm : len' ≤ m := by rw [hmm]; split <;> omega
    have each : ∀ i, i < m → ∃ cs' : List Value, cs'.length = size ∧ E cs' ∧ ∀ k, k < size → W.cell? ((a'.add (i * size)).add k) = cs'[k]? := fun i hi => by
      obtain ⟨cs', h1, h2⟩ := hcell i hi
      rw [hc] at h1
      obtain ⟨_, h3, h4⟩ := World.cells?_some h1
      exact ⟨cs', h3, hE _ _ _ h2, h4⟩
    obtain ⟨C, hC⟩ := choose_lt each
    have hlen : ∀ cs ∈ (List.range len').map C, cs.length = size ∧ E cs := fun cs hcs => by
      obtain ⟨i, hi, rfl⟩ := List.mem_map.1 hcs
      have := hC i (by have := List.mem_range.1 hi; omega)
      exact ⟨this.1, this.2.1⟩
    refine ⟨len', (List.range len').map C, ⟨_, _, rfl, by unfold maxLen at hm; omega, ?_, fun hpos => ?_⟩, ⟨_, _, rfl, by omega⟩, by simp, by omega, hlen⟩
    · have hflat : ∀ l : List (List Value), (∀ c ∈ l, c.length = size) → l.flatten.length = l.length * size := by
        intro l
        induction l with
        | nil => intro _; simp
        | cons c r ih => intro h; rw [List.flatten_cons, List.length_append, h c (by simp), ih (fun x hx => h x (by simp [hx])), List.length_cons, Nat.add_mul]; omega
      have := hflat ((List.range len').map C) (fun c hc => (hlen c hc).1)
      simpa using this
    · obtain ⟨b, off, spot⟩ := a'
      have hc0 := (hC 0 (by omega)).2.2 0 h0
      obtain ⟨u0, hu0⟩ : ∃ u, (C 0)[0]? = some u := by
        have := (hC 0 (by omega)).1
        exact ⟨(C 0)[0]'(by omega), List.getElem?_eq_getElem _⟩
      rw [hu0] at hc0
      have hspot : spot = none := by simpa [Addr.add] using World.cell?_spot hc0
      subst hspot
      have hb : b < W.heap.size := by
        have := World.block_lt_of_cell? _ _ hc0
        simpa [Addr.add] using this
      refine ⟨b, off, rfl, hb, ?_⟩
      refine flat_cells (f := fun i => W.cell? ⟨b, i, none⟩) ((List.range len').map C) off (fun c hc => (hlen c hc).1) (fun i c hi k hk => ?_)
      have hi' : i < len' ∧ C i = c := by
        have := List.getElem?_eq_some_iff.1 hi
        obtain ⟨h1, h2⟩ := this
        simp at h1 h2
        exact ⟨h1, h2⟩
      have h4 := (hC i (by omega)).2.2 k hk
      rw [hi'.2] at h4
      rw [← h4]
      rw [add_plain, add_plain]

end

section
variable {H : Type} {enc : TypeId × Value → H} {W : World}
set_option maxRecDepth 100000 in
theorem link_open {r : Reach} {b0 : Nat} {v : Value} {d : DataW H} {ps : List MemPlace} (hv : Value.okWide Tryz.prog W r b0 72 v) (h : DataW.Trod enc Tryz.prog W 0 (fun _ => true) true 72 v d ps) : ∃ x : LinkL, v = linkV x ∧ True := by
  obtain ⟨v0, v1, y0, y1, n, rfl, _, _, h0, h1⟩ := Joins.open_agg2 Tryz.underlying72 (by kernel_rfl) (by kernel_rfl) hv h
  obtain ⟨s, e0, _, _⟩ := DataW.trod_string Tryz.underlying9 h0
  obtain ⟨t, e1, _, _⟩ := DataW.trod_string Tryz.underlying9 h1
  obtain rfl : v0 = .string s := by simpa using e0
  obtain rfl : v1 = .string t := by simpa using e1
  exact ⟨(toL s, toL t), by simp [linkV, ofL_toL], trivial⟩
set_option maxRecDepth 100000 in
theorem linkCells_open {n : Nat} {cs : List Value} {x : DataW H × List MemPlace} (hx : DataW.trod enc Tryz.prog W 0 (fun _ => true) true n 72 cs = some x) : ∃ x : LinkL, cs = [.string (ofL x.1), .string (ofL x.2)] ∧ True := by
  obtain ⟨hl, hf⟩ := trod_cells Tryz.underlying72 (by kernel_rfl) (by kernel_rfl) hx
  obtain ⟨_, v0, _, k0, h0⟩ := hf 0 _ rfl
  obtain ⟨_, v1, _, k1, h1⟩ := hf 1 _ rfl
  obtain ⟨s, e0, _, _⟩ := DataW.trod_string Tryz.underlying9 h0
  obtain ⟨t, e1, _, _⟩ := DataW.trod_string Tryz.underlying9 h1
  obtain rfl : v0 = .string s := by simpa using e0
  obtain rfl : v1 = .string t := by simpa using e1
  refine ⟨(toL s, toL t), ?_, trivial⟩
  rw [ofL_toL, ofL_toL]
  match cs, hl, k0, k1 with
  | [a, b], _, k0, k1 => simp at k0 k1; rw [k0, k1]

/-- A token as an argument. -/
structure TokA where
  id : List UInt8
  tag : List UInt8
  A : Option Addr
  c : Nat
  l : List LinkL
def tokAV (t : TokA) : Value := tokV t.id (.slice t.A t.l.length t.c) t.tag
def TokOk (W : World) (t : TokA) : Prop := RdLinks W W.heap.size (.slice t.A t.l.length t.c) t.l ∧ t.l.length ≤ t.c
theorem flat_links : ∀ l : List LinkL, (l.map fun x => [Value.string (ofL x.1), Value.string (ofL x.2)]).flatten = linkCells l
  | [] => rfl
  | x :: l => by rw [List.map_cons, List.flatten_cons, flat_links l]; rfl
set_option maxRecDepth 100000 in
theorem tok_open {r : Reach} {b0 : Nat} {v : Value} {d : DataW H} {ps : List MemPlace} (hv : Value.okWide Tryz.prog W r b0 33 v) (h : DataW.Trod enc Tryz.prog W 0 (fun _ => true) true 33 v d ps) : ∃ t : TokA, v = tokAV t ∧ TokOk W t := by
  obtain ⟨v0, v1, v2, y0, y1, y2, n, rfl, _, _, h0, h1, h2⟩ := Joins.open_agg3 Tryz.underlying33 (by kernel_rfl) (by kernel_rfl) hv h
  obtain ⟨s, e0, _, _⟩ := DataW.trod_string Tryz.underlying9 h0
  obtain ⟨t, e2, _, _⟩ := DataW.trod_string Tryz.underlying9 h2
  obtain rfl : v0 = .string s := by simpa using e0
  obtain rfl : v2 = .string t := by simpa using e2
  obtain ⟨k, css, hrd, ⟨A, c, rfl, hcap⟩, hlen, _, hall⟩ := open_rdT Tryz.underlying31 2 (by kernel_rfl) (by omega) (fun cs => ∃ x : LinkL, cs = [.string (ofL x.1), .string (ofL x.2)] ∧ True) (fun n cs x hx => linkCells_open hx) h1
  obtain ⟨l, rfl, _⟩ := list_choose (g := fun x : LinkL => [Value.string (ofL x.1), Value.string (ofL x.2)]) css (fun cs hcs => (hall cs hcs).2)
  rw [List.length_map] at hlen
  subst hlen
  rw [flat_links] at hrd
  exact ⟨⟨toL s, toL t, A, c, l⟩, by simp [tokAV, tokV, ofL_toL], hrd, hcap⟩
end
end Go.Proofs.YtejhiekikblbiaaGreatDoor
