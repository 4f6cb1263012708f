/-
  Two bundles held against each other. No condition.
-/
import Derived.Test.YtmnpbpfeoackiaaDoorCh7
import Derived.Test.YtmnpbpfeoackiaaDoorGenB
import Derived.Test.YtmnpbpfeoackiaaDoorMgG
namespace Go.Proofs.YtmnpbpfeoackiaaDoor
open Go.RowKit

theorem plain_eq {a b : TokA} : a.plain = b.plain ↔ a.id = b.id ∧ a.tag = b.tag ∧ a.l = b.l := by
  obtain ⟨i, t, A, c, l⟩ := a
  obtain ⟨j, u, B, d, m⟩ := b
  simp [TokA.plain]
  exact fun _ => And.comm
def SameBun (w : World) (t1 t2 : TokL) (m1 m2 : List TokL) (e : Ending) (w' : World) : Prop := ∃ b, e = .returned (.bool b) ∧ (b = true ↔ t1 = t2 ∧ m1 = m2) ∧ Ext w w'
theorem bun_boxes4 (w : World) (a b c d a' b' c' d' : Value) : ∃ W, ((w.alloc (.cells #[a, b, c, d] 38)).alloc (.cells #[a', b', c', d'] 38)) = W ∧ Ext w W ∧ W.heap.size = w.heap.size + 2 ∧
    Arr W w.heap.size 38 [a, b, c, d] ∧ Arr W (w.heap.size + 1) 38 [a', b', c', d'] := by
  refine ⟨_, rfl, ((Ext.rfl' w).al _).al _, by simp, (Arr.new w 38 [a, b, c, d]).alloc _, ?_⟩
  have q := Arr.new (w.alloc (.cells #[a, b, c, d] 38)) 38 [a', b', c', d']
  rw [World.size_alloc] at q
  exact q
theorem tokL_ext {a b : TokL} (h1 : a.id = b.id) (h2 : a.tag = b.tag) (h3 : a.links = b.links) : a = b := by
  obtain ⟨i, l, t⟩ := a
  obtain ⟨j, m, u⟩ := b
  simp at h1 h2 h3
  simp [h1, h2, h3]

set_option maxRecDepth 100000 in
set_option maxHeartbeats 4000000 in
theorem sameBundle_any (i1 t1 i2 t2 : List UInt8) (v1 v2 m1 m2 : Value) (l1 l2 : List LinkL) (ts1 ts2 : List TokA) (w : World) (h1 : RdLinks w w.heap.size v1 l1) (h2 : RdLinks w w.heap.size v2 l2) (k1 : RdToks w w.heap.size m1 ts1) (k2 : RdToks w w.heap.size m2 ts2) :
    Calls Tryd.prog 28 #[bunV i1 v1 t1 m1, bunV i2 v2 t2 m2] w (SameBun w ⟨i1, l1, t1⟩ ⟨i2, l2, t2⟩ (ts1.map TokA.plain) (ts2.map TokA.plain)) := by
  obtain ⟨W0, hW0, E0, hs0, B1, B2⟩ := bun_boxes4 w (.string (ofL i1)) v1 (.string (ofL t1)) m1 (.string (ofL i2)) v2 (.string (ofL t2)) m2
  have cT := Kp.mk (sameToken_any i1 t1 v1 l1 i2 t2 v2 l2 W0 (rd_at h1 E0) (rd_at h2 E0))
  have HT := Kp.mk (show sameTok i1 t1 l1 i2 t2 l2 = true ↔ (⟨i1, l1, t1⟩ : TokL) = ⟨i2, l2, t2⟩ by
    unfold sameTok
    rw [decide_eq_true_eq]
    exact ⟨fun h => tokL_ext h.1 h.2.1 h.2.2, fun h => by cases h; exact ⟨rfl, rfl, rfl⟩⟩)
  have HW := Kp.mk hW0
  obtain ⟨M1, c1, rfl, hm1, hc1⟩ := k1.cells
  obtain ⟨M2, c2, rfl, hm2, hc2⟩ := k2.cells
  have HC1 := Kp.mk hc1
  have HC2 := Kp.mk hc2
  have HK1 := Kp.mk k1
  have HK2 := Kp.mk k2
  clear hW0 h1 h2 k1 k2 hc1 hc2
  obtain ⟨st, hst⟩ : ∃ st, sameTok i1 t1 l1 i2 t2 l2 = st := ⟨_, rfl⟩
  rw [hst] at cT HT
  clear hst
  unfold bunV
  cases st with
  | false =>
    go_enter Tryd.func28, Tryd.ntmps28
    go_wp2_with fail
    rw [HW.out]
    refine cT.out.mono ?_
    rintro e w1 ⟨rfl, E1⟩
    have F1 := E0.tr E1
    have hA1 := B1.ext E1 B1.lt
    have hA2 := B2.ext E1 B2.lt
    have q0 := hA1.cell 3
    have q1 := hA2.cell 3
    simp only [List.getElem?_cons_zero, List.getElem?_cons_succ] at q0 q1
    clear B1 B2 E0 E1 HW cT
    go_wp2
    go_ret
    exact ⟨false, rfl, by simp [← HT.out], F1⟩
  | true =>
    by_cases g : ts1.length = ts2.length
    · have d1 : ((ts1.length : Int) != ts2.length) = false := by simp [g]
      have hlen := Kp.mk g
      clear g
      go_enter Tryd.func28, Tryd.ntmps28
      go_wp2_with fail
      rw [HW.out]
      refine cT.out.mono ?_
      rintro e w1 ⟨rfl, E1⟩
      have F1 := E0.tr E1
      have hA1 := B1.ext E1 B1.lt
      have hA2 := B2.ext E1 B2.lt
      have q0 := hA1.cell 3
      have q1 := hA2.cell 3
      simp only [List.getElem?_cons_zero, List.getElem?_cons_succ] at q0 q1
      clear B1 B2 E0 E1 HW cT
      go_wp2_with fail
      clear q0 q1
      go_loopw [5] (fun i wr => ∃ k : Nat, k ≤ ts1.length ∧ i = .int .i64 k ∧ (ts1.take k).map TokA.plain = (ts2.take k).map TokA.plain ∧ Ext w wr ∧ Arr wr w.heap.size 38 [.string (ofL i1), v1, .string (ofL t1), .slice M1 ts1.length c1] ∧ Arr wr (w.heap.size + 1) 38 [.string (ofL i2), v2, .string (ofL t2), .slice M2 ts2.length c2]) (fun i _ => ts1.length - (intOf i).toNat)
      case atStart => exact ⟨0, by omega, rfl, rfl, F1, hA1, hA2⟩
      case round =>
        clear F1 hA1 hA2
        obtain ⟨k, hk, rfl, ht0, hE, hA1, hA2⟩ := hrel
        have ht := Kp.mk ht0
        clear ht0
        have q0 := hA1.cell 3
        simp only [List.getElem?_cons_zero, List.getElem?_cons_succ] at q0
        by_cases hlt : k < ts1.length
        · have hlt2 : k < ts2.length := by rw [← hlen.out]; exact hlt
          obtain ⟨b1, o1, rfl, hb1, hc1⟩ := HC1.out (by omega)
          obtain ⟨b2, o2, rfl, hb2, hc2⟩ := HC2.out (by omega)
          obtain ⟨x, hxe⟩ : ∃ x, ts1[k] = x := ⟨_, rfl⟩
          obtain ⟨y, hye⟩ : ∃ y, ts2[k] = y := ⟨_, rfl⟩
          have p1 := Kp.mk (show ∀ W, Ext w W → W.cell? ⟨b1, o1 + k * 3, none⟩ = some (.string (ofL x.id)) ∧ W.cell? ⟨b1, o1 + k * 3 + 1, none⟩ = some (.slice x.A x.l.length x.c) ∧ W.cell? ⟨b1, o1 + k * 3 + 2, none⟩ = some (.string (ofL x.tag)) from fun W hW => by
            have h := hc1 k hlt
            rw [hxe] at h
            exact ⟨((bcell hW).1 b1 _ hb1).trans h.1, ((bcell hW).1 b1 _ hb1).trans h.2.1, ((bcell hW).1 b1 _ hb1).trans h.2.2⟩)
          have p2 := Kp.mk (show ∀ W, Ext w W → W.cell? ⟨b2, o2 + k * 3, none⟩ = some (.string (ofL y.id)) ∧ W.cell? ⟨b2, o2 + k * 3 + 1, none⟩ = some (.slice y.A y.l.length y.c) ∧ W.cell? ⟨b2, o2 + k * 3 + 2, none⟩ = some (.string (ofL y.tag)) from fun W hW => by
            have h := hc2 k hlt2
            rw [hye] at h
            exact ⟨((bcell hW).1 b2 _ hb2).trans h.1, ((bcell hW).1 b2 _ hb2).trans h.2.1, ((bcell hW).1 b2 _ hb2).trans h.2.2⟩)
          have mx : x ∈ ts1 := by rw [← hxe]; exact List.getElem_mem hlt
          have my : y ∈ ts2 := by rw [← hye]; exact List.getElem_mem hlt2
          have cS := Kp.mk (show ∀ W, Ext w W → _ from fun W hW => sameToken_any x.id x.tag (.slice x.A x.l.length x.c) x.l y.id y.tag (.slice y.A y.l.length y.c) y.l W (rd_at (HK1.out.2 x mx) hW) (rd_at (HK2.out.2 y my) hW))
          have hto := Kp.mk (show sameTok x.id x.tag x.l y.id y.tag y.l = true → (ts1.take (k + 1)).map TokA.plain = (ts2.take (k + 1)).map TokA.plain from fun h => by
            have h := of_decide_eq_true h
            rw [take_snoc ts1 k hlt, take_snoc ts2 k hlt2, List.map_append, List.map_append, ht.out, hxe, hye, List.map_singleton, List.map_singleton, plain_eq.2 h])
          have hno := Kp.mk (show sameTok x.id x.tag x.l y.id y.tag y.l = false → ts1.map TokA.plain ≠ ts2.map TokA.plain from fun h he => by
            have h := of_decide_eq_false h
            have h1 := congrArg (·[k]?) he
            simp only [List.getElem?_map, List.getElem?_eq_getElem hlt, List.getElem?_eq_getElem hlt2, Option.map_some, hxe, hye] at h1
            exact h (plain_eq.1 (Option.some.inj h1)))
          unfold tokV at cS
          obtain ⟨sb, hsb⟩ : ∃ sb, sameTok x.id x.tag x.l y.id y.tag y.l = sb := ⟨_, rfl⟩
          rw [hsb] at cS hto hno
          obtain ⟨xl, hxl⟩ : ∃ xl, x.l.length = xl := ⟨_, rfl⟩
          obtain ⟨yl, hyl⟩ : ∃ yl, y.l.length = yl := ⟨_, rfl⟩
          rw [hxl] at p1 cS
          rw [hyl] at p2 cS
          clear hc1 hc2 hxe hye mx my hsb hxl hyl
          go_upto_region 6 with fail
          refine wp_region_locals (fun i v W => match i with
            | 0 => v = .pointer (some ⟨w.heap.size, 3, none⟩)
            | 1 => v = .slice (some ⟨b1, o1, none⟩) ts1.length c1
            | 2 => v = .int .i64 k
            | 3 => v = .pointer (some ⟨b1, o1 + k * 3, none⟩)
            | 4 => v = .agg #[.string (ofL x.id), .slice x.A xl x.c, .string (ofL x.tag)]
            | 5 => v = .pointer (some ⟨w.heap.size + 1, 3, none⟩)
            | 6 => v = .slice (some ⟨b2, o2, none⟩) ts2.length c2
            | 7 => v = .int .i64 k
            | 8 => v = .pointer (some ⟨b2, o2 + k * 3, none⟩)
            | 9 => v = .agg #[.string (ofL y.id), .slice y.A yl y.c, .string (ofL y.tag)]
            | 10 => v = .bool sb
            | 11 => v = .bool (!sb)
            | _ => True) (by kernel_rfl) (by kernel_rfl) (by kernel_rfl) ?_ ?_ ?_
          · intro i v W1 W2 e1 e2 h
            match i, h with
            | 0, h => exact h
            | 1, h => exact h
            | 2, h => exact h
            | 3, h => exact h
            | 4, h => exact h
            | 5, h => exact h
            | 6, h => exact h
            | 7, h => exact h
            | 8, h => exact h
            | 9, h => exact h
            | 10, h => exact h
            | 11, h => exact h
            | (i + 12), h => exact h
          · refine locals_cons (fun u W hW hd => leaves_val rfl (v := .pointer (some ⟨w.heap.size, 3, none⟩)) (by go_simp) rfl) ?_
            refine locals_cons (fun u W hW hd => ?_) ?_
            · have h0 : u 0 = _ := hd 0 (by kernel_rfl)
              have q3 := (hA1.ext hW hA1.lt).cell 3
              simp only [List.getElem?_cons_zero, List.getElem?_cons_succ] at q3
              exact leaves_val rfl (v := .slice (some ⟨b1, o1, none⟩) ts1.length c1) (by go_simp) rfl
            refine locals_cons (fun u W hW hd => leaves_val rfl (v := .int .i64 k) (by go_simp) rfl) ?_
            refine locals_cons (fun u W hW hd => ?_) ?_
            · have h1 : u 1 = _ := hd 1 (by kernel_rfl)
              have h2 : u 2 = _ := hd 2 (by kernel_rfl)
              exact leaves_val rfl (v := .pointer (some ⟨b1, o1 + k * 3, none⟩)) (by go_simp) rfl
            refine locals_cons (fun u W hW hd => ?_) ?_
            · have h3 : u 3 = _ := hd 3 (by kernel_rfl)
              obtain ⟨r0, r1, r2⟩ := p1.out W (hE.tr hW)
              exact leaves_val rfl (v := .agg #[.string (ofL x.id), .slice x.A xl x.c, .string (ofL x.tag)]) (by go_simp) rfl
            refine locals_cons (fun u W hW hd => leaves_val rfl (v := .pointer (some ⟨w.heap.size + 1, 3, none⟩)) (by go_simp) rfl) ?_
            refine locals_cons (fun u W hW hd => ?_) ?_
            · have h5 : u 5 = _ := hd 5 (by kernel_rfl)
              have q3 := (hA2.ext hW hA2.lt).cell 3
              simp only [List.getElem?_cons_zero, List.getElem?_cons_succ] at q3
              exact leaves_val rfl (v := .slice (some ⟨b2, o2, none⟩) ts2.length c2) (by go_simp) rfl
            refine locals_cons (fun u W hW hd => leaves_val rfl (v := .int .i64 k) (by go_simp) rfl) ?_
            refine locals_cons (fun u W hW hd => ?_) ?_
            · have h6 : u 6 = _ := hd 6 (by kernel_rfl)
              have h7 : u 7 = _ := hd 7 (by kernel_rfl)
              exact leaves_val rfl (v := .pointer (some ⟨b2, o2 + k * 3, none⟩)) (by go_simp) rfl
            refine locals_cons (fun u W hW hd => ?_) ?_
            · have h8 : u 8 = _ := hd 8 (by kernel_rfl)
              obtain ⟨r0, r1, r2⟩ := p2.out W (hE.tr hW)
              exact leaves_val rfl (v := .agg #[.string (ofL y.id), .slice y.A yl y.c, .string (ofL y.tag)]) (by go_simp) rfl
            refine locals_cons (fun u W hW hd => ?_) ?_
            · have h4 : u 4 = _ := hd 4 (by kernel_rfl)
              have h9 : u 9 = _ := hd 9 (by kernel_rfl)
              exact leaves_call rfl (f := 19) (args := #[.agg #[.string (ofL x.id), .slice x.A xl x.c, .string (ofL x.tag)], .agg #[.string (ofL y.id), .slice y.A yl y.c, .string (ofL y.tag)]]) (by go_simp) ((cS.out W (hE.tr hW)).mono (by rintro e9 W9 ⟨rfl, h9⟩; exact ⟨_, rfl, h9, rfl⟩))
            refine locals_cons (fun u W hW hd => ?_) locals_nil
            · have h10 : u 10 = _ := hd 10 (by kernel_rfl)
              exact leaves_val rfl (v := .bool (!sb)) (by go_simp) rfl
          · intro u W hW hV
            have h11 : u 11 = .bool (!sb) := hV 11 (by decide)
            clear hV
            have F1 := hE.tr hW
            have A1 := hA1.ext hW hA1.lt
            have A2 := hA2.ext hW hA2.lt
            clear hW hE hA1 hA2 q0 cS p1 p2
            go_simp
            cases sb with
            | true =>
              go_wp2
              go_roundw
              case rel => exact ⟨k + 1, by omega, by go_num, hto.out rfl, F1, A1, A2⟩
              case measure => simp [intOf]; omega
            | false =>
              go_wp2
              go_ret
              exact ⟨false, rfl, ⟨fun h => (by cases h), fun h => absurd h.2 (hno.out (by simp))⟩, F1⟩
        · have h3 := Kp.mk (show ts1.map TokA.plain = ts2.map TokA.plain by
            have h := ht.out
            rw [List.take_of_length_le (by omega), List.take_of_length_le (by rw [← hlen.out]; omega)] at h
            exact h)
          go_wp2
          go_ret
          exact ⟨true, rfl, ⟨fun _ => ⟨HT.out.1 (by simp), h3.out⟩, fun _ => rfl⟩, hE⟩
    · have d1 : ((ts1.length : Int) != ts2.length) = true := by simp; omega
      have hno := Kp.mk (show ts1.map TokA.plain ≠ ts2.map TokA.plain from fun h => g (by have := congrArg List.length h; simpa using this))
      clear g
      go_enter Tryd.func28, Tryd.ntmps28
      go_wp2_with fail
      rw [HW.out]
      refine cT.out.mono ?_
      rintro e w1 ⟨rfl, E1⟩
      have F1 := E0.tr E1
      have hA1 := B1.ext E1 B1.lt
      have hA2 := B2.ext E1 B2.lt
      have q0 := hA1.cell 3
      have q1 := hA2.cell 3
      simp only [List.getElem?_cons_zero, List.getElem?_cons_succ] at q0 q1
      clear B1 B2 E0 E1 HW cT
      go_wp2
      go_ret
      exact ⟨false, rfl, ⟨fun h => (by cases h), fun h => absurd h.2 hno.out⟩, F1⟩

end Go.Proofs.YtmnpbpfeoackiaaDoor
