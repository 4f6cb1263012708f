/-
  Two tokens held against each other. No condition.
-/
import Derived.Test.YtmnpbpfeoackiaaDoorCh6
namespace Go.Proofs.YtmnpbpfeoackiaaDoor
open Go.RowKit

def linkEq (a b : LinkL) : Bool := a.1 == b.1 && a.2 == b.2
theorem linkEq_iff (a b : LinkL) : linkEq a b = true ↔ a = b := by
  obtain ⟨a1, a2⟩ := a
  obtain ⟨b1, b2⟩ := b
  simp [linkEq]
set_option maxRecDepth 100000 in
theorem link_fields : Tryd.prog.fieldsOf 74 = (match Tryd.prog.underlying 74 with | some (.struct fs) => fs | _ => #[]) := rfl
set_option maxRecDepth 100000 in
theorem link_eqIn (a b : LinkL) (W : World) : (Op.equalIn 10000 74 (linkV a) (linkV b)).run Tryd.prog W = .ok (linkEq a b) W := by
  obtain ⟨a1, a2⟩ := a
  obtain ⟨b1, b2⟩ := b
  unfold linkV
  have hu : Tryd.prog.underlying 74 = some (.struct (Tryd.prog.fieldsOf 74)) := by rw [link_fields, Tryd.underlying74]
  rw [run_equalIn_agg W 9999 _ _ _ hu (by kernel_rfl), link_fields, Tryd.underlying74]
  have hs : Tryd.prog.underlying 9 = some .string := Tryd.underlying9
  have h1 := fun (W : World) (x y : ByteArray) => run_equalIn_string (P := Tryd.prog) W 9998 _ x y hs
  cases q1 : (a1 == b1)
  · simp [Op.eqFields, go_sem, q1, linkEq]
  · cases q2 : (a2 == b2)
    · simp [Op.eqFields, go_sem, q1, q2, linkEq]
    · simp [Op.eqFields, go_sem, q1, q2, linkEq]
theorem link_eql (a b : LinkL) (W : World) : (binOp .eql 74 (linkV a) (linkV b)).run Tryd.prog W = .ok (.bool (linkEq a b)) W := by
  have h := link_eqIn a b W
  unfold linkV at *
  rw [run_eql_struct, h]; rfl
theorem link_neq (a b : LinkL) (W : World) : (binOp .neq 74 (linkV a) (linkV b)).run Tryd.prog W = .ok (.bool (!linkEq a b)) W := by
  have h := link_eqIn a b W
  unfold linkV at *
  rw [run_neq_struct, h]; rfl

def sameTok (i1 t1 : List UInt8) (l1 : List LinkL) (i2 t2 : List UInt8) (l2 : List LinkL) : Bool := decide (i1 = i2 ∧ t1 = t2 ∧ l1 = l2)
set_option maxRecDepth 100000 in
set_option maxHeartbeats 2000000 in
theorem sameToken_any (i1 t1 : List UInt8) (v1 : Value) (l1 : List LinkL) (i2 t2 : List UInt8) (v2 : Value) (l2 : List LinkL) (w : World) (h1 : RdLinks w w.heap.size v1 l1) (h2 : RdLinks w w.heap.size v2 l2) :
    Calls Tryd.prog 19 #[tokV i1 v1 t1, tokV i2 v2 t2] w fun e w' => e = .returned (.bool (sameTok i1 t1 l1 i2 t2 l2)) ∧ Ext w w' := by
  obtain ⟨A1, c1, rfl, hm1, hc1⟩ := h1.cells
  obtain ⟨A2, c2, rfl, hm2, hc2⟩ := h2.cells
  have H1 := Kp.mk hc1; have H2 := Kp.mk hc2
  have B1 := (Arr.new w 24 [.string (ofL i1), .slice A1 l1.length c1, .string (ofL t1)]).alloc (.cells #[.string (ofL i2), .slice A2 l2.length c2, .string (ofL t2)] 24)
  have B2 := Arr.new (w.alloc (.cells #[.string (ofL i1), .slice A1 l1.length c1, .string (ofL t1)] 24)) 24 [.string (ofL i2), .slice A2 l2.length c2, .string (ofL t2)]
  rw [World.size_alloc] at B2
  have E0 : Ext w ((w.alloc (.cells #[.string (ofL i1), .slice A1 l1.length c1, .string (ofL t1)] 24)).alloc (.cells #[.string (ofL i2), .slice A2 l2.length c2, .string (ofL t2)] 24)) := ((Ext.rfl' w).al _).al _
  unfold tokV
  clear hc1 hc2 h1 h2
  by_cases g1 : i1 = i2
  · by_cases g2 : t1 = t2
    · by_cases g3 : l1.length = l2.length
      · have d1 : (i1 == i2) = true := by simp [g1]
        have d2 : (t1 == t2) = true := by simp [g2]
        have d3 : ((l1.length : Int) != l2.length) = false := by simp [g3]
        have hsame := Kp.mk (show sameTok i1 t1 l1 i2 t2 l2 = decide (l1 = l2) by unfold sameTok; simp [g1, g2])
        have hlen := Kp.mk g3
        clear g1 g2 g3
        go_enter Tryd.func19, Tryd.ntmps19
        go_wp2_with fail
        go_loopw [5] (fun i wr => ∃ k : Nat, k ≤ l2.length ∧ i = .int .i64 k ∧ l1.take k = l2.take k ∧ Ext w wr ∧ Arr wr w.heap.size 24 [.string (ofL i1), .slice A1 l1.length c1, .string (ofL t1)] ∧ Arr wr (w.heap.size + 1) 24 [.string (ofL i2), .slice A2 l2.length c2, .string (ofL t2)]) (fun i _ => l2.length - (intOf i).toNat)
        case atStart => exact ⟨0, by omega, rfl, rfl, E0, B1, B2⟩
        case round =>
          clear E0 B1 B2
          obtain ⟨k, hk, rfl, ht0, hE, hA1, hA2⟩ := hrel
          have ht := Kp.mk ht0; clear ht0
          have e1 := hA1.cell 1
          have e2 := hA2.cell 1
          simp only [List.getElem?_cons_zero, List.getElem?_cons_succ] at e1 e2
          by_cases hlt : k < l2.length
          · have hlt1 : k < l1.length := by rw [hlen.out]; exact hlt
            obtain ⟨b1, o1, rfl, hb1, hc1⟩ := H1.out (by omega)
            obtain ⟨b2, o2, rfl, hb2, hc2⟩ := H2.out (by omega)
            obtain ⟨⟨xa, xb⟩, hxe⟩ : ∃ x, l1[k] = x := ⟨_, rfl⟩
            obtain ⟨⟨ya, yb⟩, hye⟩ : ∃ x, l2[k] = x := ⟨_, rfl⟩
            have q1 := ((bcell hE).1 b1 (o1 + k * 2) hb1).trans (hc1 k hlt1).1
            have q2 := ((bcell hE).1 b1 (o1 + k * 2 + 1) hb1).trans (hc1 k hlt1).2
            have q3 := ((bcell hE).1 b2 (o2 + k * 2) hb2).trans (hc2 k hlt).1
            have q4 := ((bcell hE).1 b2 (o2 + k * 2 + 1) hb2).trans (hc2 k hlt).2
            rw [hxe] at q1 q2
            rw [hye] at q3 q4
            have hn : ∀ W : World, (binOp .neq 74 (.agg #[.string (ofL xa), .string (ofL xb)]) (.agg #[.string (ofL ya), .string (ofL yb)])).run Tryd.prog W = .ok (.bool (!linkEq (xa, xb) (ya, yb))) W := fun W => link_neq (xa, xb) (ya, yb) W
            have hto := Kp.mk (show linkEq (xa, xb) (ya, yb) = true → l1.take (k + 1) = l2.take (k + 1) from fun h => by
              rw [take_snoc l1 k hlt1, take_snoc l2 k hlt, ht.out, hxe, hye, (linkEq_iff _ _).1 h])
            have hno := Kp.mk (show linkEq (xa, xb) (ya, yb) = false → l1 ≠ l2 from fun h he => by
              subst he
              rw [hxe] at hye
              rw [hye] at h
              have := (linkEq_iff (ya, yb) (ya, yb)).2 rfl
              rw [this] at h; cases h)
            obtain ⟨q, hq⟩ : ∃ q, linkEq (xa, xb) (ya, yb) = q := ⟨_, rfl⟩
            rw [hq] at hn hto hno
            clear hc1 hc2 hxe hye hq
            cases q with
            | true =>
              go_wp2
              go_quiet (fail)
              go_wp2
              go_roundw
              case rel => exact ⟨k + 1, by omega, by go_num, hto.out (by simp), hE.drN _, hA1.drew _, hA2.drew _⟩
              case measure => simp [intOf]; omega
            | false =>
              have hd := Kp.mk (show sameTok i1 t1 l1 i2 t2 l2 = false by rw [hsame.out]; exact decide_eq_false (hno.out rfl))
              go_wp2
              go_quiet (fail)
              go_wp2
              go_ret
              exact ⟨ret_bool hd.out.symm, hE.drN _⟩
          · have hlt1 : ¬ k < l1.length := by rw [hlen.out]; exact hlt
            have hd := Kp.mk (show sameTok i1 t1 l1 i2 t2 l2 = true by
              rw [hsame.out]
              have h := ht.out
              rw [List.take_of_length_le (by omega), List.take_of_length_le (by omega)] at h
              exact decide_eq_true h)
            go_wp2
            go_ret
            exact ⟨ret_bool hd.out.symm, hE⟩
      · have d1 : (i1 == i2) = true := by simp [g1]
        have d2 : (t1 == t2) = true := by simp [g2]
        have d3 : ((l1.length : Int) != l2.length) = true := by simp; omega
        have hd := Kp.mk (show sameTok i1 t1 l1 i2 t2 l2 = false from decide_eq_false (fun h => g3 (by rw [h.2.2])))
        clear g1 g2 g3
        go_enter Tryd.func19, Tryd.ntmps19
        go_wp2
        go_ret
        exact ⟨ret_bool hd.out.symm, E0⟩
    · have d1 : (i1 == i2) = true := by simp [g1]
      have d2 : (t1 == t2) = false := by simp [g2]
      have hd := Kp.mk (show sameTok i1 t1 l1 i2 t2 l2 = false from decide_eq_false (fun h => g2 h.2.1))
      clear g1 g2
      go_enter Tryd.func19, Tryd.ntmps19
      go_wp2
      go_ret
      exact ⟨ret_bool hd.out.symm, E0⟩
  · have d1 : (i1 == i2) = false := by simp [g1]
    have hd := Kp.mk (show sameTok i1 t1 l1 i2 t2 l2 = false from decide_eq_false (fun h => g1 h.1))
    clear g1
    go_enter Tryd.func19, Tryd.ntmps19
    go_wp2
    go_ret
    exact ⟨ret_bool hd.out.symm, E0⟩
end Go.Proofs.YtmnpbpfeoackiaaDoor
