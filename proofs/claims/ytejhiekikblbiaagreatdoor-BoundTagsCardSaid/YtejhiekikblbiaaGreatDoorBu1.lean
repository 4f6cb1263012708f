/-
  Package bundle: all. No condition.
-/
import Derived.Test.YtejhiekikblbiaaGreatDoorGenB
import Derived.Test.YtejhiekikblbiaaGreatDoorChan
import Derived.Test.YtejhiekikblbiaaGreatDoorOnly
namespace Go.Proofs.YtejhiekikblbiaaGreatDoor
open Go.RowKit Go.Conc

/-- A token as a value in a channel. -/
def tokAV2 (t : TokA) : Value := tokV t.id (.slice t.A t.l.length t.c) t.tag
theorem wpN_seq_k' {P : Program} {Q : Exit → Act → World → Prop} {a : Act} {w : World} {x y : Code} (h : ∀ K : Act → World → Prop, (∀ a w, y.wpN P Q a w → K a w) → x.wp P (Exit.then K Q) a w) : (Code.seq x y).wpN P Q a w := wpN_seq_k h

set_option maxRecDepth 100000 in
theorem mkchan (n : Nat) (h : n ≤ 1000000) (w : World) : (Instr.makeChan 138 (.int .i64 n)).run Tryz.prog w = .ok (.chan (some w.heap.size)) (w.alloc (.chan n #[] false 0 0 false)) := by
  have h1 : (Tryz.prog.info? 33).map (·.bytes) = some 56 := by kernel_rfl
  obtain ⟨i, hi, hb⟩ := Option.map_eq_some_iff.1 h1
  exact run_makeChan (P := Tryz.prog) (w := w) Tryz.underlying138 hi .i64 n (by omega) (by rw [hb]; omega)

set_option maxRecDepth 100000 in
/-- While the tokens are sent. -/
def AllI (w : World) (id tag : List UInt8) (A : Option Addr) (c : Nat) (l : List LinkL) (Am : Option Addr) (cm : Nat) (more : List TokA) (a : Act) (w' : World) : Prop :=
  ∃ (k : Nat) (u5 u18 u19 u20 u21 u22 u23 : Value), k ≤ more.length ∧ Ext w w' ∧ Arr w' w.heap.size 41 [.string (ofL id), .slice A l.length c, .string (ofL tag), .slice Am more.length cm] ∧ Chn w' (w.heap.size + 1) (1 + more.length) (tokV id (.slice A l.length c) tag :: (more.take k).map tokAV2) false ∧
    a = ⟨#[.agg #[.string (ofL id), .slice A l.length c, .string (ofL tag), .slice Am more.length cm], .pointer (some ⟨w.heap.size, 0, none⟩), .chan none, .chan (some (w.heap.size + 1)), undef, u5, .pointer (some ⟨w.heap.size, 3, none⟩), .slice Am more.length cm, .int .i64 more.length, .int .i64 (1 + (more.length : Int)), .chan (some (w.heap.size + 1)), .chan (some (w.heap.size + 1)), .pointer (some ⟨w.heap.size, 0, none⟩), tokV id (.slice A l.length c) tag, .pointer (some ⟨w.heap.size, 3, none⟩), .slice Am more.length cm, .int .i64 more.length, .int .i64 k, u18, u19, u20, u21, u22, u23, undef, undef], []⟩
def AllM (more : List TokA) (a : Act) (_ : World) : Nat := more.length - (intOf (a.tmps.getD 17 undef)).toNat

set_option maxRecDepth 100000 in
set_option maxHeartbeats 4000000 in
theorem all_any (id tag : List UInt8) (A : Option Addr) (c : Nat) (l : List LinkL) (Am : Option Addr) (cm : Nat) (more : List TokA) (w : World) (hm : RdToks w w.heap.size (.slice Am more.length cm) more) (hn : more.length ≤ 10000) :
    Calls Tryz.prog 66 #[bunV id (.slice A l.length c) tag (.slice Am more.length cm)] w fun e w' => ∃ ch, e = .returned (.chan (some ch)) ∧ w.heap.size ≤ ch ∧ Chn w' ch (1 + more.length) (tokV id (.slice A l.length c) tag :: more.map tokAV2) true ∧ Ext w w' := by
  obtain ⟨W, hW, E0, A0⟩ : ∃ W, w.alloc (.cells #[.string (ofL id), .slice A l.length c, .string (ofL tag), .slice Am more.length cm] 41) = W ∧ Ext w W ∧ Arr W w.heap.size 41 [.string (ofL id), .slice A l.length c, .string (ofL tag), .slice Am more.length cm] := ⟨_, rfl, (Ext.rfl' w).al _, Arr.new w _ [.string (ofL id), .slice A l.length c, .string (ofL tag), .slice Am more.length cm]⟩
  have HW := Kp.mk hW
  have hMK : ∀ w : World, (Instr.makeChan 138 (.int .i64 (1 + (more.length : Int)))).run Tryz.prog w = .ok (.chan (some w.heap.size)) (w.alloc (.chan (1 + more.length) #[] false 0 0 false)) := fun w => by
    have h := mkchan (1 + more.length) (by omega) w
    rw [show (((1 + more.length : Nat)) : Int) = 1 + (more.length : Int) by omega] at h
    exact h
  have hsW : W.heap.size = w.heap.size + 1 := by rw [← hW]; simp
  have b3 := A0.cell 3
  simp only [List.getElem?_cons_zero, List.getElem?_cons_succ] at b3
  clear hW
  unfold bunV
  refine calls_of_wpN Tryz.func66 rfl ?_
  simp only [Tryz.ntmps66, List.size_toArray, List.length_cons, List.length_nil, Nat.reduceAdd, Nat.reduceSub, Array.replicate_succ, Array.replicate_zero, List.push_toArray, List.append_toArray, List.nil_append, List.cons_append]
  refine wpN_seq_k fun K hK => ?_
  go_wp2
  rw [HW.out]
  clear HW
  refine wpN_seq_k fun K hK => ?_
  go_wp2
  obtain ⟨W1, hW1, E1, C1⟩ : ∃ W1, W.alloc (.chan (1 + more.length) #[] false 0 0 false) = W1 ∧ Ext W W1 ∧ Chn W1 W.heap.size (1 + more.length) [] false := ⟨_, rfl, (Ext.rfl' W).al _, 0, 0, World.alloc_heap_new _ _⟩
  have A1 := A0.ext E1 A0.lt
  rw [hW1]
  rw [hsW] at C1
  have F1 := E0.tr E1
  clear hMK hW1 hsW A0 E0 E1 b3
  have b0 := A1.cell 0; have b1 := A1.cell 1; have b2 := A1.cell 2
  simp only [List.getElem?_cons_zero, List.getElem?_cons_succ] at b0 b1 b2
  refine wpN_seq ?_
  refine wpN_region_l (l := [0, 1, 2, 3]) rfl ?_
  refine regN_val rfl rfl (v := .chan (some (w.heap.size + 1))) (w' := W1) (by go_simp) ?_
  refine regN_val rfl rfl (v := .pointer (some ⟨w.heap.size, 0, none⟩)) (w' := W1) (by go_simp) ?_
  refine regN_val rfl rfl (v := tokV id (.slice A l.length c) tag) (w' := W1) (by unfold tokV; go_simp) ?_
  obtain ⟨s0, r0, hc0, hr0, hp0⟩ := C1.push (by simp; omega)
  refine regN_send rfl rfl _ _ rfl (by go_simp) (v := tokV id (.slice A l.length c) tag) (by go_simp) hc0 hr0 ?_
  refine regN_nil ?_
  have C2 := hp0 (tokV id (.slice A l.length c) tag)
  have O2 := only_chan W1 (w.heap.size + 1) (1 + more.length) (([] : List Value).toArray.push (tokV id (.slice A l.length c) tag)) false (s0 + 1) r0
  obtain ⟨W2, hW2⟩ : ∃ W2, W1.setChan (w.heap.size + 1) (1 + more.length) (([] : List Value).toArray.push (tokV id (.slice A l.length c) tag)) false (s0 + 1) r0 false = W2 := ⟨_, rfl⟩
  rw [hW2] at C2 O2 ⊢
  have A2 := arr_kept A1 O2 (fun r e => by cases e; omega)
  have F2 : Ext w W2 := Only.toExt O2 F1 (by omega)
  rw [List.nil_append] at C2
  clear C1 hc0 hr0 hp0 hW2 O2 A1 F1 b0 b1 b2
  go_simp
  have b3 := A2.cell 3
  simp only [List.getElem?_cons_zero, List.getElem?_cons_succ] at b3
  refine wpN_seq ?_
  refine wpN_seq_k fun K hK => ?_
  go_wp2
  refine wpN_block ?_
  refine wpN_loop (AllI w id tag A c l Am cm more) (AllM more) ?_ ?_
  · exact ⟨0, _, _, _, _, _, _, _, by omega, F2, A2, C2, rfl⟩
  · clear b3 A2 F2 C2
    rintro a wr ⟨k, u5, u18, u19, u20, u21, u22, u23, hk, hE, hA, hC, rfl⟩
    refine wpN_seq_k fun K hK => ?_
    by_cases hlt : k < more.length
    · go_wp2
      refine wpN_seq_k fun K hK => ?_
      go_wp2
      obtain ⟨bm, om, hAm, -, hcm⟩ := hm.tok k hlt
      subst hAm
      obtain ⟨d, hd⟩ : ∃ d, more[k] = d := ⟨_, rfl⟩
      rw [hd] at hcm
      obtain ⟨c0, c1, c2⟩ := hcm wr hE
      have htk := Kp.mk (show (more.take (k + 1)).map tokAV2 = (more.take k).map tokAV2 ++ [tokAV2 d] by rw [List.take_succ_eq_append_getElem hlt, List.map_append, hd]; rfl)
      obtain ⟨V, hV, EV, DV⟩ : ∃ V, wr.alloc (.cells #[.string (ofL d.id), .slice d.A d.l.length d.c, .string (ofL d.tag)] 33) = V ∧ Ext wr V ∧ Arr V wr.heap.size 33 [.string (ofL d.id), .slice d.A d.l.length d.c, .string (ofL d.tag)] := ⟨_, rfl, (Ext.rfl' wr).al _, Arr.new wr _ [.string (ofL d.id), .slice d.A d.l.length d.c, .string (ofL d.tag)]⟩
      have HV := Kp.mk hV
      have A3 := hA.ext EV hA.lt
      have C3 := hC.ext EV
      have F3 := hE.tr EV
      clear hV EV hcm hd
      refine wpN_seq ?_
      refine wpN_block ?_
      refine wpN_seq_k fun K hK => ?_
      go_wp2
      rw [HV.out]
      clear HV c0 c1 c2 hA hC hE
      have q0 := DV.cell 0; have q1 := DV.cell 1; have q2 := DV.cell 2
      simp only [List.getElem?_cons_zero, List.getElem?_cons_succ] at q0 q1 q2
      refine wpN_region_l (l := [0, 1, 2]) rfl ?_
      refine regN_val rfl rfl (v := .chan (some (w.heap.size + 1))) (w' := V) (by go_simp) ?_
      refine regN_val rfl rfl (v := tokAV2 d) (w' := V) (by unfold tokAV2 tokV; go_simp) ?_
      obtain ⟨s0, r0, hc0, hr0, hp0⟩ := C3.push (by simp; omega)
      refine regN_send rfl rfl _ _ rfl (by go_simp) (v := tokAV2 d) (by go_simp) hc0 hr0 ?_
      refine regN_nil ?_
      have C4 := hp0 (tokAV2 d)
      obtain ⟨bf, hbf⟩ : ∃ bf, (tokV id (.slice A l.length c) tag :: (more.take k).map tokAV2).toArray = bf := ⟨_, rfl⟩
      rw [hbf] at C4 hc0 hr0 ⊢
      have O4 := only_chan V (w.heap.size + 1) (1 + more.length) (bf.push (tokAV2 d)) false (s0 + 1) r0
      obtain ⟨W4, hW4⟩ : ∃ W4, V.setChan (w.heap.size + 1) (1 + more.length) (bf.push (tokAV2 d)) false (s0 + 1) r0 false = W4 := ⟨_, rfl⟩
      rw [hW4] at C4 O4 ⊢
      have A4 := arr_kept A3 O4 (fun r e => by cases e; omega)
      have F4 : Ext w W4 := Only.toExt O4 F3 (by omega)
      rw [List.cons_append, ← htk.out] at C4
      clear C3 hc0 hr0 hp0 hW4 O4 A3 F3 q0 q1 q2 DV hbf htk
      go_simp
      refine wpN_of_wp ?_
      go_wp2
      have hk1 : ((k : Int) + 1) = ((k + 1 : Nat) : Int) := by omega
      rw [hk1]
      refine ⟨⟨k + 1, _, _, _, _, _, _, _, by omega, F4, A4, C4, rfl⟩, ?_⟩
      simp [AllM, intOf]; omega
    · obtain rfl : k = more.length := by omega
      rw [List.take_length] at hC
      go_wp2
      refine wpN_seq_k fun K hK => ?_
      go_wp2
      obtain ⟨s9, r9, hc9⟩ := hC
      have hcl := fun (ats : Array TypeId) (ty : TypeId) => run_close_open (P := Tryz.prog) ats ty hc9
      have hlt9 := (Array.getElem?_eq_some_iff.1 hc9).1
      refine wpN_of_wp ?_
      go_wp2
      refine bodyPost_ret (results_tmp rfl _ _ _) rfl ⟨w.heap.size + 1, rfl, by omega, ⟨s9, r9, ?_⟩, ?_⟩
      · simp [hlt9]
      · refine hE.trans ⟨rfl, rfl, rfl, by simp, fun k hk => ?_⟩
        simp only
        rw [Array.getElem?_setIfInBounds_ne (by omega)]
end Go.Proofs.YtejhiekikblbiaaGreatDoor
