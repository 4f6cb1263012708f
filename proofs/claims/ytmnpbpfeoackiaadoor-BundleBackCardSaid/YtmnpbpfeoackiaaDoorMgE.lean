/-
  Package bundle: Size. Condition: at most 10000 more tokens. · Package bundle's reference: put, Put, tagged. Conditions: the tokens' texts are at most 10000 bytes long, each holds at most 100 links; at most 10000 more tokens. · Package bundle's reference: Size. Conditions: the tokens' texts are at most 10000 bytes long, each holds at most 100 links; at most 10000 more tokens.
-/
import Derived.Test.YtmnpbpfeoackiaaDoorMgC
import Derived.Test.YtmnpbpfeoackiaaDoorBuPlain
import Derived.Test.YtmnpbpfeoackiaaDoorTk6
import Derived.Test.YtmnpbpfeoackiaaDoorTk3
import Derived.Test.YtmnpbpfeoackiaaDoorMgG
namespace Go.Proofs.YtmnpbpfeoackiaaDoor
open Go.RowKit Go.Conc

def sizeAcc (t : TokL) (more : List TokL) : Nat → Nat
  | 0 => (vput more.length).length
  | k + 1 => sizeAcc t more k + ((vput (tokSize (bunTok t more k))).length + tokSize (bunTok t more k))
theorem tokSize_le (t : TokL) : tokSize t ≤ 600000 := by
  rw [size_put]
  split
  · rename_i h; exact put_ok_len h
  · omega
theorem sizeAcc_le (t : TokL) (more : List TokL) : ∀ k, sizeAcc t more k ≤ 10 + 700000 * k
  | 0 => by have := length_vput more.length; unfold sizeAcc; omega
  | k + 1 => by
    have := sizeAcc_le t more k
    have := length_vput (tokSize (bunTok t more k))
    have := tokSize_le (bunTok t more k)
    unfold sizeAcc; omega
theorem bunSize_zero (t : TokL) (more : List TokL) (k : Nat) (hk : k < 1 + more.length) (h : tokSize (bunTok t more k) = 0) : bunSize t more = 0 := by
  unfold bunSize
  rw [if_pos]
  cases k with
  | zero => exact .inr (.inl h)
  | succ k =>
    rw [bunTok_get t more k (by omega)] at h
    exact .inr (.inr (List.any_eq_true.2 ⟨more[k]'(by omega), List.getElem_mem _, by simpa using h⟩))
theorem sizeAcc_eq (t : TokL) (more : List TokL) : ∀ k, k ≤ more.length → sizeAcc t more (k + 1) = (vput more.length).length + ((vput (tokSize t)).length + tokSize t) + ((more.take k).map fun d => (vput (tokSize d)).length + tokSize d).sum
  | 0, _ => rfl
  | k + 1, h => by
    have ih := sizeAcc_eq t more k (by omega)
    rw [List.take_succ_eq_append_getElem (by omega), List.map_append, List.sum_append]
    show sizeAcc t more (k + 1) + _ = _
    rw [ih, bunTok_get t more k (by omega)]
    simp only [List.map_cons, List.map_nil, List.sum_cons, List.sum_nil]
    omega
theorem bunSize_all (t : TokL) (more : List TokL) (h8 : more.length ≤ 8) (h : ∀ j, j < 1 + more.length → tokSize (bunTok t more j) ≠ 0) : bunSize t more = sizeAcc t more (1 + more.length) := by
  rw [Nat.add_comm, sizeAcc_eq t more _ (Nat.le_refl _), List.take_length]
  unfold bunSize
  rw [if_neg]
  rintro (h1 | h1 | h1)
  · omega
  · exact h 0 (by omega) h1
  · obtain ⟨d, hd, h2⟩ := List.any_eq_true.1 h1
    obtain ⟨j, hj, rfl⟩ := List.getElem_of_mem hd
    have := h (j + 1) (by omega)
    rw [bunTok_get t more j hj] at this
    exact this (by simpa using h2)
/-- While the sizes are added. -/
structure SizSt (w W : World) (t : TokA) (Am : Option Addr) (cm : Nat) (more : List TokA) (ch k : Nat) : Prop where
  ext : Ext w W
  box : Arr W w.heap.size 38 [.string (ofL t.id), .slice t.A t.l.length t.c, .string (ofL t.tag), .slice Am more.length cm]
  chn : Chn W ch (1 + more.length) ((allV t more).drop k) true
  ok : ∀ j, j < k → tokSize (bunTok t.plain (more.map TokA.plain) j) ≠ 0
set_option maxRecDepth 100000 in
def SizI (w : World) (t : TokA) (Am : Option Addr) (cm : Nat) (more : List TokA) (ch : Nat) (a : Act) (w' : World) : Prop :=
  ∃ (k : Nat) (u4 u5 u18 u19 u20 u21 u22 u23 u24 u25 u26 u27 u28 u29 u30 u31 u32 : Value), k ≤ 1 + more.length ∧ SizSt w w' t Am cm more ch k ∧ a = ⟨#[.agg #[.string (ofL t.id), .slice t.A t.l.length t.c, .string (ofL t.tag), .slice Am more.length cm], .pointer (some ⟨w.heap.size, 0, none⟩), .int .i64 0, .int .i64 (sizeAcc t.plain (more.map TokA.plain) k), u4, u5, .pointer (some ⟨w.heap.size, 3, none⟩), .slice Am more.length cm, .int .i64 more.length, .bool false, .pointer (some ⟨w.heap.size, 3, none⟩), .slice Am more.length cm, .int .i64 more.length, .int .u64 more.length, .string (ofL (vput more.length)), .int .i64 (vput more.length).length, .agg #[.string (ofL t.id), .slice t.A t.l.length t.c, .string (ofL t.tag), .slice Am more.length cm], .chan (some ch), u18, u19, u20, u21, u22, u23, u24, u25, u26, u27, u28, u29, u30, u31, u32, undef], []⟩

set_option maxRecDepth 100000 in
set_option maxHeartbeats 4000000 in
theorem busize_any (t : TokA) (Am : Option Addr) (cm : Nat) (more : List TokA) (w : World) (hl : RdLinks w w.heap.size (.slice t.A t.l.length t.c) t.l) (hm : RdToks w w.heap.size (.slice Am more.length cm) more) (hn : more.length ≤ 10000) :
    Calls Tryd.prog 24 #[bunV t.id (.slice t.A t.l.length t.c) t.tag (.slice Am more.length cm)] w fun e w' => e = .returned (.int .i64 (bunSize t.plain (more.map TokA.plain))) ∧ Ext w w' := by
  obtain ⟨W, hW, E0, A0⟩ : ∃ W, w.alloc (.cells #[.string (ofL t.id), .slice t.A t.l.length t.c, .string (ofL t.tag), .slice Am more.length cm] 38) = W ∧ Ext w W ∧ Arr W w.heap.size 38 [.string (ofL t.id), .slice t.A t.l.length t.c, .string (ofL t.tag), .slice Am more.length cm] := ⟨_, rfl, (Ext.rfl' w).al _, Arr.new w _ [.string (ofL t.id), .slice t.A t.l.length t.c, .string (ofL t.tag), .slice Am more.length cm]⟩
  have HW := Kp.mk hW
  have hsW : W.heap.size = w.heap.size + 1 := by rw [← hW]; simp
  have HL := Kp.mk hl; have HM := Kp.mk hm
  obtain ⟨R, hR⟩ : ∃ R, bunSize t.plain (more.map TokA.plain) = R := ⟨_, rfl⟩
  rw [hR]
  have HR := Kp.mk hR
  have b0 := A0.cell 0; have b1 := A0.cell 1; have b2 := A0.cell 2; have b3 := A0.cell 3
  simp only [List.getElem?_cons_zero, List.getElem?_cons_succ] at b0 b1 b2 b3
  clear hW hR hl hm
  unfold bunV
  refine calls_of_wpN Tryd.func24 rfl ?_
  simp only [Tryd.ntmps24, List.size_toArray, List.length_cons, List.length_nil, Nat.reduceAdd, Nat.reduceSub, Array.replicate_succ, Array.replicate_zero, List.push_toArray, List.append_toArray, List.nil_append, List.cons_append]
  refine wpN_seq_k fun K hK => ?_
  go_wp2
  rw [HW.out]
  clear HW
  by_cases g1 : 8 < more.length
  · have d1 : decide ((8 : Int) < (more.length : Int)) = true := by simp; omega
    have hR := HR.out
    rw [show bunSize t.plain (more.map TokA.plain) = 0 by unfold bunSize; rw [List.length_map, if_pos (.inl g1)]] at hR
    subst hR
    clear HR g1
    refine wpN_seq_k fun K hK => ?_
    go_wp2
    refine bodyPost_ret (results_tmp rfl _ _ _) rfl ?_
    exact ⟨rfl, E0⟩
  · have d1 : decide ((8 : Int) < (more.length : Int)) = false := by simp; omega
    have hu : IntKind.u64.wrap (more.length : Int) = (more.length : Int) := U64.wrap (by show _ < _; omega)
    have lv := length_vput more.length
    refine wpN_seq_k fun K hK => ?_
    go_wp2
    refine wpN_seq_k fun K hK => ?_
    go_wp2_with fail
    refine (fnum_any more.length _ (by show _ < _; omega)).mono ?_
    rintro e W1 ⟨rfl, E1⟩
    have A1 := A0.ext E1 A0.lt
    have F1 := E0.tr E1
    have hs1 := E1.size
    clear A0 E0 E1 b0 b1 b2 b3
    go_wp2
    refine wpN_seq ?_
    have cA := Kp.mk (all_any t.id t.tag t.A t.c t.l Am cm more W1 (HM.out.at F1) hn)
    unfold bunV at cA
    have b0 := A1.cell 0; have b1 := A1.cell 1; have b2 := A1.cell 2; have b3 := A1.cell 3
    simp only [List.getElem?_cons_zero, List.getElem?_cons_succ] at b0 b1 b2 b3
    refine wpN_seq_k fun K hK => ?_
    go_wp2_with fail
    refine cA.out.mono ?_
    rintro e w2 ⟨ch, rfl, hch, C2, E2⟩
    have A2 := A1.ext E2 A1.lt
    have F2 := F1.tr E2
    clear A1 F1 E2 b0 b1 b2 b3 cA
    go_wp2
    refine wpN_block ?_
    have hP : SizSt w w2 t Am cm more ch 0 := ⟨F2, A2, C2, fun j hj => absurd hj (by omega)⟩
    have hch2 : w.heap.size < ch := by omega
    have hz : (vput more.length).length = sizeAcc t.plain (more.map TokA.plain) 0 := by unfold sizeAcc; rw [List.length_map]
    refine wpN_loop (SizI w t Am cm more ch) (PutM ch) ⟨0, _, _, _, _, _, _, _, _, _, _, _, _, _, _, _, _, _, by omega, hP, by rw [← hz]⟩ ?_
    clear hP A2 C2 F2 hs1 hch hsW hz
    rintro a wr ⟨k, u4, u5, u18, u19, u20, u21, u22, u23, u24, u25, u26, u27, u28, u29, u30, u31, u32, hk, hS, rfl⟩
    have HK := Kp.mk hS.ok
    have hSl := sizeAcc_le t.plain (more.map TokA.plain) k
    have hst := Kp.mk (show sizeAcc t.plain (more.map TokA.plain) (k + 1) = sizeAcc t.plain (more.map TokA.plain) k + ((vput (tokSize (bunTok t.plain (more.map TokA.plain) k))).length + tokSize (bunTok t.plain (more.map TokA.plain) k)) from rfl)
    by_cases hlt : k < 1 + more.length
    · have hdr := allV_drop t more k hlt
      have hC := hS.chn
      rw [hdr] at hC
      obtain ⟨s9, r9, hc9, hp9⟩ := hC.pop
      obtain ⟨d, hd⟩ : ∃ d, bunTokA t more k = d := ⟨_, rfl⟩
      rw [hd] at hc9 hp9
      have hdp := Kp.mk (show bunTok t.plain (more.map TokA.plain) k = d.plain by rw [← hd, bunTokA_plain])
      have hdm := Kp.mk (show d = t ∨ d ∈ more by
        rw [← hd]
        cases k with
        | zero => exact .inl rfl
        | succ k =>
          refine .inr ?_
          show more.getD k t ∈ more
          rw [List.getD_eq_getElem?_getD, List.getElem?_eq_getElem (by omega)]
          exact List.getElem_mem _)
      obtain ⟨bf, hbf⟩ : ∃ bf, (tokAV2 d :: (allV t more).drop (k + 1)).toArray = bf := ⟨_, rfl⟩
      have hb0 : bf.getD 0 undef = tokAV2 d := by rw [← hbf]; rfl
      have hbs : 0 < bf.size := by rw [← hbf]; simp
      have hbz := Kp.mk (show bf.size = ((allV t more).drop (k + 1)).length + 1 by rw [← hbf]; simp)
      rw [hbf] at hc9 hp9
      have hmu := Kp.mk (show PutM ch ⟨#[], []⟩ wr = bf.size by unfold PutM; rw [hc9])
      clear hdr hC hd hbf
      obtain ⟨S, hSe⟩ : ∃ S, sizeAcc t.plain (more.map TokA.plain) k = S := ⟨_, rfl⟩
      rw [hSe] at hSl hst ⊢
      refine wpN_seq ?_
      refine wpN_region_l (l := [0, 1]) rfl ?_
      refine regN_recv rfl rfl _ rfl (by go_simp) Tryd.underlying102 Tryd.zeroValue24 hc9 hbs ?_
      rw [hb0]
      have O9 := only_chan wr ch (1 + more.length) (bf.extract 1 bf.size) true s9 (r9 + 1)
      obtain ⟨W9, hW9⟩ : ∃ W9, wr.setChan ch (1 + more.length) (bf.extract 1 bf.size) true s9 (r9 + 1) false = W9 := ⟨_, rfl⟩
      rw [hW9] at O9 hp9 ⊢
      have A9 := arr_kept hS.box O9 (fun r e => by cases e; omega)
      have F9 : Ext w W9 := Only.toExt O9 hS.ext (by omega)
      clear hS hc9 hb0 hW9 O9 hSe
      refine regN_val rfl rfl (v := .bool true) (w' := W9) (by go_simp) ?_
      refine regN_nil ?_
      go_simp
      refine wpN_of_wp ?_
      obtain ⟨x, hx⟩ : ∃ x, tokSize d.plain = x := ⟨_, rfl⟩
      have hxl := tokSize_le d.plain
      have hfail := Kp.mk (fun h0 => bunSize_zero t.plain (more.map TokA.plain) k (by rw [List.length_map]; omega) h0)
      rw [hdp.out, HR.out] at hfail
      rw [hdp.out] at hst
      have cP := Kp.mk (show ∀ W', Ext w W' → Calls Tryd.prog 16 #[.agg #[.string (ofL d.id), .slice d.A d.l.length d.c, .string (ofL d.tag)]] W' fun e w' => e = .returned (.int .i64 x) ∧ Ext W' w' from fun W' hE => by
        have h := tksize_any d.id d.tag (.slice d.A d.l.length d.c) d.l W' (by
          rcases hdm.out with h | h
          · rw [h]; exact rd_at HL.out hE
          · exact rd_at (HM.out.2 d h) hE)
        rw [show tokSize ⟨d.id, d.l, d.tag⟩ = x from hx] at h
        exact h)
      have hkok := Kp.mk (show x ≠ 0 → ∀ j, j < k + 1 → tokSize (bunTok t.plain (more.map TokA.plain) j) ≠ 0 from fun h0 j hj => by
        rcases Nat.lt_or_ge j k with h | h
        · exact HK.out j h
        · obtain rfl : j = k := by omega
          rw [hdp.out, hx]; exact h0)
      rw [hx] at hxl hfail hst
      clear hx
      unfold tokAV2 tokV
      obtain ⟨V, hV, EV, DV⟩ : ∃ V, W9.alloc (.cells #[.string (ofL d.id), .slice d.A d.l.length d.c, .string (ofL d.tag)] 24) = V ∧ Ext W9 V ∧ Arr V W9.heap.size 24 [.string (ofL d.id), .slice d.A d.l.length d.c, .string (ofL d.tag)] := ⟨_, rfl, (Ext.rfl' W9).al _, Arr.new W9 _ [.string (ofL d.id), .slice d.A d.l.length d.c, .string (ofL d.tag)]⟩
      have A10 := A9.ext EV A9.lt
      have C10 := hp9.ext EV
      have F10 := F9.tr EV
      have HV := Kp.mk hV
      clear hV EV A9 hp9 F9
      go_upto_region 7 with fail
      rw [HV.out]
      clear HV
      have q0 := DV.cell 0; have q1 := DV.cell 1; have q2 := DV.cell 2
      simp only [List.getElem?_cons_zero, List.getElem?_cons_succ] at q0 q1 q2
      go_wp2_with fail
      refine (cP.out _ F10).mono ?_
      rintro e w11 ⟨rfl, E11⟩
      have A11 := A10.ext E11 A10.lt
      have C11 := C10.ext E11
      have F11 := F10.tr E11
      clear q0 q1 q2 DV A10 C10 F10 E11 cP
      by_cases hx0 : x = 0
      · have tx : ((x : Int) == 0) = true := by simp; omega
        have hR2 := hfail.out hx0
        clear hfail hkok hst
        go_wp2
        refine bodyPost_ret (results_tmp rfl _ _ _) rfl ?_
        exact ⟨by rw [hR2]; rfl, F11⟩
      · have tx : ((x : Int) == 0) = false := by simp; omega
        have hkok2 := Kp.mk (hkok.out hx0)
        have hu2 : IntKind.u64.wrap (x : Int) = (x : Int) := U64.wrap (by show _ < _; omega)
        have lx := length_vput x
        clear hfail hkok hx0
        go_wp2_with fail
        refine (fnum_any x _ (by show _ < _; omega)).mono ?_
        rintro e w12 ⟨rfl, E12⟩
        have A12 := A11.ext E12 A11.lt
        have C12 := C11.ext E12
        have F12 := F11.tr E12
        clear A11 C11 F11 E12
        obtain ⟨L, hL⟩ : ∃ L, (vput x).length = L := ⟨_, rfl⟩
        have hP := Kp.mk (show SizSt w w12 t Am cm more ch (k + 1) from ⟨F12, A12, C12, hkok2.out⟩)
        have hm2 := Kp.mk (show PutM ch ⟨#[], []⟩ w12 < PutM ch ⟨#[], []⟩ wr by
          obtain ⟨s3, r3, h3⟩ := C12
          rw [hmu.out]
          unfold PutM
          rw [h3, hbz.out]
          show ((allV t more).drop (k + 1)).toArray.size < _
          rw [List.size_toArray]
          omega)
        rw [hL] at lx hst
        have hL := Kp.mk hL
        have hstI := Kp.mk (show ((sizeAcc t.plain (more.map TokA.plain) (k + 1) : Nat) : Int) = (S : Int) + ((L : Int) + (x : Int)) by rw [hst.out]; push_cast; rfl)
        clear A12 C12 F12 hmu hst
        go_wp2
        rw [← hstI.out]
        exact ⟨⟨k + 1, _, _, _, _, _, _, _, _, _, _, _, _, _, _, _, _, _, by omega, hP.out, rfl⟩, hm2.out⟩
    · obtain rfl : k = 1 + more.length := by omega
      have hC := hS.chn
      rw [show (allV t more).drop (1 + more.length) = [] from List.drop_eq_nil_of_le (by simp [allV]; omega)] at hC
      obtain ⟨s9, r9, hc9⟩ := hC
      have hF := hS.ext
      have hR := HR.out
      rw [bunSize_all t.plain (more.map TokA.plain) (by rw [List.length_map]; omega) (by rw [List.length_map]; exact HK.out), List.length_map] at hR
      rw [hR]
      clear hS hst HR hR
      refine wpN_seq ?_
      refine wpN_region_l (l := [0, 1]) rfl ?_
      refine regN_shut rfl rfl _ rfl (by go_simp) Tryd.underlying102 Tryd.zeroValue24 hc9 ?_
      refine regN_val rfl rfl (v := .bool false) (w' := wr) (by go_simp) ?_
      refine regN_nil ?_
      clear hc9
      go_simp
      refine wpN_of_wp ?_
      go_wp2
      refine wpN_of_wp ?_
      go_wp2
      refine bodyPost_ret (results_tmp rfl _ _ _) rfl ?_
      exact ⟨rfl, hF⟩
end Go.Proofs.YtmnpbpfeoackiaaDoor

namespace Go.Proofs.YtmnpbpfeoackiaaDoor
open Go.RowKit

/-- The first k tokens are put well. -/
def OkTo (t : TokL) (more : List TokL) (k : Nat) : Prop := ∀ j, j < k → (tokPutR (bunTok t more j)).2 = 0
theorem OkTo.step {t : TokL} {more : List TokL} {k : Nat} (h : OkTo t more k) (h0 : (tokPutR (bunTok t more k)).2 = 0) : OkTo t more (k + 1) := fun j hj => by
  rcases Nat.lt_or_ge j k with h1 | h1
  · exact h j h1
  · obtain rfl : j = k := by omega
    exact h0

set_option maxRecDepth 100000 in
set_option maxHeartbeats 4000000 in
theorem rbput0_any (t : TokA) (Am : Option Addr) (cm : Nat) (more : List TokA) (w : World) (hl : RdLinks w w.heap.size (.slice t.A t.l.length t.c) t.l) (hm : RdToks w w.heap.size (.slice Am more.length cm) more) (ht : TokShort t.id t.tag t.l) (hmt : ∀ d ∈ more, TokShort d.id d.tag d.l) (hn : more.length ≤ 10000) :
    Calls Tryd.prog 68 #[bunV t.id (.slice t.A t.l.length t.c) t.tag (.slice Am more.length cm)] w fun e w' => e = .returned (.tuple #[.string (ofL (bunPut0 t.plain (more.map TokA.plain)).1), .int .i64 (bunPut0 t.plain (more.map TokA.plain)).2]) ∧ Ext w w' := by
  obtain ⟨W, hW, E0, A0⟩ : ∃ W, w.alloc (.cells #[.string (ofL t.id), .slice t.A t.l.length t.c, .string (ofL t.tag), .slice Am more.length cm] 38) = W ∧ Ext w W ∧ Arr W w.heap.size 38 [.string (ofL t.id), .slice t.A t.l.length t.c, .string (ofL t.tag), .slice Am more.length cm] := ⟨_, rfl, (Ext.rfl' w).al _, Arr.new w _ [.string (ofL t.id), .slice t.A t.l.length t.c, .string (ofL t.tag), .slice Am more.length cm]⟩
  have HW := Kp.mk hW
  obtain ⟨R, hR⟩ : ∃ R, bunPut0 t.plain (more.map TokA.plain) = R := ⟨_, rfl⟩
  rw [hR]
  have HR := Kp.mk hR
  have HM := Kp.mk hm
  have cP := Kp.mk (show ∀ d, d = t ∨ d ∈ more → ∀ W', Ext w W' → Calls Tryd.prog 15 #[.agg #[.string (ofL d.id), .slice d.A d.l.length d.c, .string (ofL d.tag)]] W' fun e w' => e = .returned (.tuple #[.string (ofL (tokPutR d.plain).1), .int .i64 (tokPutR d.plain).2]) ∧ Ext W' w' from fun d hd W' hE =>
    rtkput_any d.id d.tag (.slice d.A d.l.length d.c) d.l W' (by
      rcases hd with h | h
      · rw [h]; exact rd_at hl hE
      · exact rd_at (hm.2 d h) hE) (by
      rcases hd with h | h
      · rw [h]; exact ht
      · exact hmt d h))
  have b0 := A0.cell 0; have b1 := A0.cell 1; have b2 := A0.cell 2; have b3 := A0.cell 3
  simp only [List.getElem?_cons_zero, List.getElem?_cons_succ] at b0 b1 b2 b3
  clear hW hR hl hm hmt ht
  unfold bunV
  by_cases g1 : 8 < more.length
  · have d1 : decide ((8 : Int) < (more.length : Int)) = true := by simp; omega
    have hR := HR.out
    rw [show bunPut0 t.plain (more.map TokA.plain) = ([], 3) by unfold bunPut0; rw [List.length_map, if_pos g1]] at hR
    subst hR
    clear HR g1
    go_enter Tryd.func68, Tryd.ntmps68
    go_upto_region 1 with fail
    rw [HW.out]
    clear HW
    go_wp2
    go_ret2
    exact ⟨rfl, E0⟩
  · have d1 : decide ((8 : Int) < (more.length : Int)) = false := by simp; omega
    have hu : IntKind.u64.wrap (more.length : Int) = (more.length : Int) := U64.wrap (by show _ < _; omega)
    have hfail := Kp.mk (fun k (hk : k < 1 + more.length) (ha : OkTo t.plain (more.map TokA.plain) k) (h0 : (tokPutR (bunTok t.plain (more.map TokA.plain) k)).2 ≠ 0) => HR.out.symm.trans (bunPut0_fail t.plain (more.map TokA.plain) k (by rw [List.length_map]; omega) (by rw [List.length_map]; omega) ha h0))
    have hlen := Kp.mk (fun k (hk : k ≤ 1 + more.length) (ha : OkTo t.plain (more.map TokA.plain) k) => bunAcc_len t.plain (more.map TokA.plain) k (by rw [List.length_map]; omega) ha)
    have hstp := Kp.mk (fun k (hk : k < 1 + more.length) => bunAcc_step t.plain (more.map TokA.plain) k (by rw [List.length_map]; omega))
    have cT := Kp.mk (show ∀ (a : List UInt8) (W : World), a.length ≤ 1000000 → Calls Tryd.prog 47 #[.string (ofL a)] W fun e w' => e = .returned (.string (ofL (fText a))) ∧ Ext W w' from fun a W h => by
      have q := r8Text_any (ofL a) W (by rw [size_ofL]; omega)
      rw [toL_ofL] at q
      exact q)
    have cV := Kp.mk (fun W => rvput_all more.length W (by show _ < _; omega))
    have lv := length_vput more.length
    go_enter Tryd.func68, Tryd.ntmps68
    go_upto_region 1 with fail
    rw [HW.out]
    clear HW
    obtain ⟨⟨X, x⟩, hX⟩ : ∃ X, tokPutR t.plain = X := ⟨_, rfl⟩
    have cP0 := cP.out t (.inl rfl) W E0
    have hf0 := hfail.out 0 (by omega) (fun j hj => absurd hj (by omega))
    have hs0 := hstp.out 0 (by omega)
    have hX0 := put_ok_len (t := t.plain)
    rw [show bunTok t.plain (more.map TokA.plain) 0 = t.plain from rfl] at hf0 hs0
    rw [hX] at cP0 hf0 hs0 hX0
    rw [if_pos rfl, List.length_map] at hs0
    dsimp only at cP0 hf0 hs0 hX0
    have hk0 := Kp.mk (show x = 0 → OkTo t.plain (more.map TokA.plain) 1 from fun h j hj => by
      obtain rfl : j = 0 := by omega
      show (tokPutR t.plain).2 = 0
      rw [hX]; exact h)
    replace hf0 := Kp.mk hf0; replace hs0 := Kp.mk hs0; replace cP0 := Kp.mk cP0; replace hX0 := Kp.mk hX0
    clear hX
    go_wp2_with fail
    refine cP0.out.mono ?_
    rintro e w1 ⟨rfl, E1⟩
    have A1 := A0.ext E1 A0.lt
    have F1 := E0.tr E1
    clear A0 E0 E1 b0 b1 b2 b3 cP0
    by_cases hx : x = 0
    · have tx : ((x : Int) != 0) = false := by simp; omega
      have hXl := hX0.out hx
      have hok := Kp.mk (hk0.out hx)
      have lT := fText_len X
      obtain ⟨O, hO⟩ : ∃ O, bunAcc t.plain (more.map TokA.plain) 1 = O := ⟨_, rfl⟩
      have hsO := hs0.out
      rw [Nat.zero_add, hO] at hsO
      have a1 : ofL (fText X) ++ ofL (vput more.length) = ofL O := by rw [hsO, ofL_append]; rfl
      have s1 : (ofL (fText X)).size = (fText X).length := size_ofL _
      have s2 : (ofL (vput more.length)).size = (vput more.length).length := size_ofL _
      have HO := Kp.mk hO
      clear hO hsO hs0 hf0 hk0 hX0 hx
      go_upto_region 6 with fail
      refine wp_region_localsE (fun i v W => match i with
        | 0 => v = .string (ofL X)
        | 1 => v = .string (ofL (fText X))
        | 2 => v = .pointer (some ⟨w.heap.size, 3, none⟩)
        | 3 => v = .slice Am more.length cm
        | 4 => v = .int .i64 more.length
        | 5 => v = .int .u64 more.length
        | 6 => v = .string (ofL (vput more.length))
        | 7 => v = .string (ofL O)
        | 8 => v = .string (ofL O)
        | _ => True) (by kernel_rfl) (by kernel_rfl) (by kernel_rfl) (by kernel_rfl) ?_ ?_ ?_
      · intro i v W1 W2 e1 e2 h
        match i, h with
        | 0, h => exact h
        | 1, h => exact h
        | 2, h => exact h
        | 3, h => exact h
        | 4, h => exact h
        | 5, h => exact h
        | 6, h => exact h
        | 7, h => exact h
        | 8, h => exact h
        | (i + 9), h => exact h
      · intro HF
        refine locals_cons (fun u W hW hd => ?_) ?_
        · refine opLeaves_ev HF rfl fun ev zc zg zf zt => ?_
          have t4 : ev (.tmp 4) = .string (ofL X) := zt 4
          clear zt
          exact ev_val (v := .string (ofL X)) (by go_simp) rfl
        refine locals_cons (fun u W hW hd => ?_) ?_
        · refine opLeaves_ev HF rfl fun ev zc zg zf zt => ?_
          have t23 : ev (.tmp 23) = u 0 := zt 23
          clear zt
          have h0 : u 0 = _ := hd 0 (by kernel_rfl)
          exact ev_call (f := 47) (args := #[.string (ofL X)]) (by go_simp) ((cT.out X W (by omega)).mono (by rintro e9 W9 ⟨rfl, h9⟩; exact ⟨_, rfl, h9, rfl⟩))
        refine locals_cons (fun u W hW hd => ?_) ?_
        · refine opLeaves_ev HF rfl fun ev zc zg zf zt => ?_
          have t1 : ev (.tmp 1) = .pointer (some ⟨w.heap.size, 0, none⟩) := zt 1
          clear zt
          exact ev_val (v := .pointer (some ⟨w.heap.size, 3, none⟩)) (by go_simp) rfl
        refine locals_cons (fun u W hW hd => ?_) ?_
        · refine opLeaves_ev HF rfl fun ev zc zg zf zt => ?_
          have t25 : ev (.tmp 25) = u 2 := zt 25
          clear zt
          have h2 : u 2 = _ := hd 2 (by kernel_rfl)
          have c3 := (A1.ext hW A1.lt).cell 3
          simp only [List.getElem?_cons_zero, List.getElem?_cons_succ] at c3
          exact ev_val (v := .slice Am more.length cm) (by go_simp) rfl
        refine locals_cons (fun u W hW hd => ?_) ?_
        · refine opLeaves_ev HF rfl fun ev zc zg zf zt => ?_
          have t26 : ev (.tmp 26) = u 3 := zt 26
          clear zt
          have h3 : u 3 = _ := hd 3 (by kernel_rfl)
          exact ev_val (v := .int .i64 more.length) (by go_simp) rfl
        refine locals_cons (fun u W hW hd => ?_) ?_
        · refine opLeaves_ev HF rfl fun ev zc zg zf zt => ?_
          have t27 : ev (.tmp 27) = u 4 := zt 27
          clear zt
          have h4 : u 4 = _ := hd 4 (by kernel_rfl)
          exact ev_val (v := .int .u64 more.length) (by go_simp) rfl
        refine locals_cons (fun u W hW hd => ?_) ?_
        · refine opLeaves_ev HF rfl fun ev zc zg zf zt => ?_
          have t28 : ev (.tmp 28) = u 5 := zt 28
          clear zt
          have h5 : u 5 = _ := hd 5 (by kernel_rfl)
          exact ev_call (f := 48) (args := #[.int .u64 more.length]) (by go_simp) ((cV.out W).mono (by rintro e9 W9 ⟨rfl, h9⟩; exact ⟨_, rfl, h9, rfl⟩))
        refine locals_cons (fun u W hW hd => ?_) ?_
        · refine opLeaves_ev HF rfl fun ev zc zg zf zt => ?_
          have t24 : ev (.tmp 24) = u 1 := zt 24
          have t29 : ev (.tmp 29) = u 6 := zt 29
          clear zt
          have h1 : u 1 = _ := hd 1 (by kernel_rfl)
          have h6 : u 6 = _ := hd 6 (by kernel_rfl)
          exact ev_val (v := .string (ofL O)) (by go_simp; omega) rfl
        refine locals_cons (fun u W hW hd => ?_) locals_nil
        · refine opLeaves_ev HF rfl fun ev zc zg zf zt => ?_
          have t30 : ev (.tmp 30) = u 7 := zt 30
          clear zt
          have h7 : u 7 = _ := hd 7 (by kernel_rfl)
          exact ev_val (v := .string (ofL O)) (by go_simp) rfl
      · intro u3 W2 hW2 hV
        have h8 : u3 8 = .string (ofL O) := hV 8 (by decide)
        have A2 := A1.ext hW2 A1.lt
        have F2 := F1.tr hW2
        clear hV a1 s1 s2 A1 F1 hW2 cV
        rw [← HO.out] at h8
        clear HO
        go_simp
        go_wp2_with fail
        go_loopw [7, 6] (fun i o wr => ∃ k : Nat, k ≤ more.length ∧ i = .int .i64 k ∧ OkTo t.plain (more.map TokA.plain) (k + 1) ∧ o = .string (ofL (bunAcc t.plain (more.map TokA.plain) (k + 1))) ∧ Ext w wr ∧ Arr wr w.heap.size 38 [.string (ofL t.id), .slice t.A t.l.length t.c, .string (ofL t.tag), .slice Am more.length cm]) (fun i _ _ => more.length - (intOf i).toNat)
        case atStart => exact ⟨0, by omega, rfl, hok.out, rfl, F2, A2⟩
        case round =>
          clear F2 A2 h8 hok
          obtain ⟨k, hk, rfl, hok, rfl, hE, hA⟩ := hrel
          have c3 := hA.cell 3
          simp only [List.getElem?_cons_zero, List.getElem?_cons_succ] at c3
          have lO := hlen.out (k + 1) (by omega) hok
          by_cases hlt : k < more.length
          · obtain ⟨bm, om, hAm, -, hcm⟩ := HM.out.tok k hlt
            subst hAm
            obtain ⟨q0, q1, q2⟩ := hcm wr hE
            have hf1 := hfail.out (k + 1) (by omega) hok
            have hs1 := hstp.out (k + 1) (by omega)
            rw [bunTok_get t.plain (more.map TokA.plain) k (by rw [List.length_map]; omega), List.getElem_map] at hf1 hs1
            have hok1 := Kp.mk (show (tokPutR (more[k].plain)).2 = 0 → OkTo t.plain (more.map TokA.plain) (k + 1 + 1) from fun h => hok.step (by rw [bunTok_get t.plain (more.map TokA.plain) k (by rw [List.length_map]; omega), List.getElem_map]; exact h))
            have cP1 := Kp.mk (cP.out more[k] (.inr (List.getElem_mem hlt)))
            obtain ⟨d, hd⟩ : ∃ d, more[k] = d := ⟨_, rfl⟩
            rw [hd] at q0 q1 q2 hf1 hs1 hok1 cP1
            obtain ⟨⟨X, x⟩, hX⟩ : ∃ X, tokPutR d.plain = X := ⟨_, rfl⟩
            have hX0 := put_ok_len (t := d.plain)
            rw [hX] at hf1 hs1 hok1 cP1 hX0
            dsimp only at hf1 hs1 hok1 cP1 hX0
            rw [if_neg (by omega), List.append_nil] at hs1
            obtain ⟨O, hO⟩ : ∃ O, bunAcc t.plain (more.map TokA.plain) (k + 1) = O := ⟨_, rfl⟩
            rw [hO] at lO hs1 ⊢
            replace hf1 := Kp.mk hf1; replace hs1 := Kp.mk hs1; replace hX0 := Kp.mk hX0
            clear hd hX hcm hO hok
            go_wp2_with fail
            refine (cP1.out _ hE).mono ?_
            rintro e w4 ⟨rfl, E4⟩
            have A4 := hA.ext E4 hA.lt
            have F4 := hE.tr E4
            clear q0 q1 q2 c3 cP1 hA hE E4
            by_cases hx : x = 0
            · have tx : ((x : Int) != 0) = false := by simp; omega
              have hXl := hX0.out hx
              have hok2 := Kp.mk (hok1.out hx)
              have lT := fText_len X
              obtain ⟨O2, hO2⟩ : ∃ O2, bunAcc t.plain (more.map TokA.plain) (k + 1 + 1) = O2 := ⟨_, rfl⟩
              have hsO := hs1.out
              rw [hO2] at hsO
              have a1 : ofL O ++ ofL (fText X) = ofL O2 := by rw [hsO, ofL_append]
              have s1 : (ofL (fText X)).size = (fText X).length := size_ofL _
              have s2 : (ofL O).size = O.length := size_ofL _
              have HO2 := Kp.mk hO2
              clear hO2 hsO hs1 hf1 hok1 hX0 hx
              go_wp2_with fail
              refine (cT.out _ _ (by omega)).mono ?_
              rintro e w5 ⟨rfl, E5⟩
              have A5 := A4.ext E5 A4.lt
              have F5 := F4.tr E5
              clear A4 F4 E5
              go_wp2
              go_roundw
              case rel => exact ⟨k + 1, by omega, by go_num, hok2.out, by rw [HO2.out], F5, A5⟩
              case measure => simp [intOf]; omega
            · have tx : ((x : Int) != 0) = true := by simp; omega
              have hR2 := hf1.out hx
              clear hf1 hs1 hok1 hX0 hx
              go_wp2
              go_ret2
              exact ⟨by rw [hR2]; rfl, F4⟩
          · obtain rfl : k = more.length := by omega
            have hR2 := HR.out.symm.trans (bunPut0_all t.plain (more.map TokA.plain) (by rw [List.length_map]; omega) (by rw [List.length_map, Nat.add_comm]; exact hok))
            rw [List.length_map, Nat.add_comm] at hR2
            obtain ⟨O, hO⟩ : ∃ O, bunAcc t.plain (more.map TokA.plain) (more.length + 1) = O := ⟨_, rfl⟩
            rw [hO] at lO hR2 ⊢
            replace hR2 := Kp.mk hR2
            clear hO hok
            go_wp2
            go_ret2
            exact ⟨by rw [hR2.out]; rfl, hE⟩
    · have tx : ((x : Int) != 0) = true := by simp; omega
      have hR2 := hf0.out hx
      clear hf0 hs0 hk0 hX0 hx
      go_wp2
      go_ret2
      exact ⟨by rw [hR2]; rfl, F1⟩

set_option maxRecDepth 100000 in
set_option maxHeartbeats 2000000 in
theorem rbput_any (t : TokA) (Am : Option Addr) (cm : Nat) (more : List TokA) (w : World) (hl : RdLinks w w.heap.size (.slice t.A t.l.length t.c) t.l) (hm : RdToks w w.heap.size (.slice Am more.length cm) more) (ht : TokShort t.id t.tag t.l) (hmt : ∀ d ∈ more, TokShort d.id d.tag d.l) (hn : more.length ≤ 10000) :
    Calls Tryd.prog 23 #[bunV t.id (.slice t.A t.l.length t.c) t.tag (.slice Am more.length cm)] w fun e w' => e = .returned (.tuple #[.string (ofL (bunPutR t.plain (more.map TokA.plain)).1), .int .i64 (bunPutR t.plain (more.map TokA.plain)).2]) ∧ Ext w w' := by
  obtain ⟨W, hW, E0, A0⟩ : ∃ W, w.alloc (.cells #[.string (ofL t.id), .slice t.A t.l.length t.c, .string (ofL t.tag), .slice Am more.length cm] 38) = W ∧ Ext w W ∧ Arr W w.heap.size 38 [.string (ofL t.id), .slice t.A t.l.length t.c, .string (ofL t.tag), .slice Am more.length cm] := ⟨_, rfl, (Ext.rfl' w).al _, Arr.new w _ [.string (ofL t.id), .slice t.A t.l.length t.c, .string (ofL t.tag), .slice Am more.length cm]⟩
  have HW := Kp.mk hW
  obtain ⟨R, hR⟩ : ∃ R, bunPutR t.plain (more.map TokA.plain) = R := ⟨_, rfl⟩
  rw [hR]
  have cB := rbput0_any t Am cm more W (rd_at hl E0) (hm.at E0) ht hmt hn
  obtain ⟨⟨X, x⟩, hX⟩ : ∃ X, bunPut0 t.plain (more.map TokA.plain) = X := ⟨_, rfl⟩
  rw [hX] at cB
  unfold bunPutR at hR
  rw [hX] at hR
  dsimp only at hR cB
  have hlen : x = 0 → X.length ≤ 7000000 := fun h => by
    have hb : (bunPut0 t.plain (more.map TokA.plain)).2 = 0 := by rw [hX]; exact h
    obtain ⟨h8, h1, h2, h3⟩ := bunPut0_ok hb
    have h4 : bunPut0 t.plain (more.map TokA.plain) = (bunAcc t.plain (more.map TokA.plain) (1 + (more.map TokA.plain).length), 0) := bunPut0_all _ _ h8 (fun j hj => by
      cases j with
      | zero => exact h1
      | succ j =>
        rw [bunTok_get _ _ j (by omega)]
        exact (moresPut_each _ h2 _ (List.getElem_mem _)).1)
    rw [hX] at h4
    have h5 := bunAcc_len t.plain (more.map TokA.plain) (1 + (more.map TokA.plain).length) (Nat.le_refl _) (fun j hj => by
      cases j with
      | zero => exact h1
      | succ j =>
        rw [bunTok_get _ _ j (by omega)]
        exact (moresPut_each _ h2 _ (List.getElem_mem _)).1)
    rw [← (Prod.mk.inj h4).1] at h5
    omega
  replace cB := Kp.mk cB; have HR := Kp.mk hR; replace hlen := Kp.mk hlen
  have b0 := A0.cell 0; have b1 := A0.cell 1; have b2 := A0.cell 2; have b3 := A0.cell 3
  simp only [List.getElem?_cons_zero, List.getElem?_cons_succ] at b0 b1 b2 b3
  clear hW hR hl hm hmt ht hX
  unfold bunV at cB ⊢
  go_enter Tryd.func23, Tryd.ntmps23
  go_upto_region 1 with fail
  rw [HW.out]
  clear HW
  go_wp2_with fail
  refine cB.out.mono ?_
  rintro e w1 ⟨rfl, E1⟩
  have F1 := E0.tr E1
  clear A0 E0 E1 b0 b1 b2 b3 cB
  by_cases hx : x = 0
  · have tx : ((x : Int) == 0) = true := by simp; omega
    have lX := hlen.out hx
    have s1 : (ofL X).size = X.length := size_ofL _
    by_cases h6 : 65536 < X.length
    · have d6 : decide ((65536 : Int) < (X.length : Int)) = true := by simp; omega
      have hR := HR.out
      rw [if_pos ⟨hx, h6⟩] at hR
      subst hR
      clear h6 hx hlen HR
      go_wp2
      go_ret2
      exact ⟨rfl, F1⟩
    · have d6 : decide ((65536 : Int) < (X.length : Int)) = false := by simp; omega
      have hR := HR.out
      rw [if_neg (fun h => h6 h.2)] at hR
      subst hR
      clear h6 hx hlen HR
      go_wp2
      go_ret2
      exact ⟨rfl, F1⟩
  · have tx : ((x : Int) == 0) = false := by simp; omega
    have hR := HR.out
    rw [if_neg (fun h => hx h.1)] at hR
    subst hR
    clear hx hlen HR
    go_wp2
    go_ret2
    exact ⟨rfl, F1⟩

def z32 : List UInt8 := List.replicate 32 0
set_option maxRecDepth 100000 in
set_option maxHeartbeats 2000000 in
theorem rtagged_any (id tag : List UInt8) (A : Option Addr) (n c : Nat) (w : World) :
    Calls Tryd.prog 69 #[.agg #[.string (ofL id), .slice A n c, .string (ofL tag)]] w fun e w' => e = .returned (.agg #[.string (ofL id), .slice A n c, .string (ofL z32)]) ∧ Ext w w' := by
  obtain ⟨W, hW, E0, A0, R0⟩ : ∃ W, ((w.alloc (.cells #[.string (ofL id), .slice A n c, .string (ofL tag)] 24)).alloc (.cells #[.string ⟨#[]⟩, .slice none 0 0, .string ⟨#[]⟩] 24)) = W ∧ Ext w W ∧ Arr W w.heap.size 24 [.string (ofL id), .slice A n c, .string (ofL tag)] ∧ Arr W (w.heap.size + 1) 24 [.string ⟨#[]⟩, .slice none 0 0, .string ⟨#[]⟩] := by
    refine ⟨_, rfl, ((Ext.rfl' w).al _).al _, (Arr.new w 24 [.string (ofL id), .slice A n c, .string (ofL tag)]).alloc _, ?_⟩
    have q := Arr.new (w.alloc (.cells #[.string (ofL id), .slice A n c, .string (ofL tag)] 24)) 24 [.string ⟨#[]⟩, .slice none 0 0, .string ⟨#[]⟩]
    rw [World.size_alloc] at q
    exact q
  have HW := Kp.mk hW
  clear hW
  go_enter Tryd.func69, Tryd.ntmps69
  go_upto_region 1 with fail
  rw [HW.out]
  clear HW
  go_wp2_with (at_make; refine wpl_make Tryd.elemU8 rfl _ rfl _ _ rfl 32 rfl rfl rfl rfl (by omega) (by omega) ?_)
  intro w1 hown hE
  have A1 := A0.ext hE A0.lt
  have R1 := R0.ext hE R0.lt
  have F1 := E0.tr hE
  have hown' : w1.ownsRow W.heap.size 5 1 (.slice (some ⟨W.heap.size, 0, none⟩) 32 32) 32 (z32.map U8) := by simpa [z32, U8] using hown
  have hcv := Tryd.str hown'
  have c0 := A1.cell 0; have c1 := A1.cell 1; have c2 := A1.cell 2
  have z0 := R1.frozen 0; have z1 := R1.frozen 1; have z2 := R1.frozen 2
  have y0 := R1.cell 0; have y1 := R1.cell 1; have y2 := R1.cell 2
  simp only [List.getElem?_cons_zero, List.getElem?_cons_succ] at c0 c1 c2 y0 y1 y2
  clear hown hown' A0 R0 E0 hE
  go_wp2
  refine bodyPost_ret (v := .agg #[.string (ofL id), .slice A n c, .string (ofL z32)]) (results_cell_row rfl _ _ (w.heap.size + 1) _ _ _ _ rfl (arr_put3 R1 (.string (ofL id)) (.slice A n c) (.string (ofL z32))) Tryd.underlying24 rfl (by kernel_rfl)) rfl ⟨rfl, ext_put3 F1 (by omega) _ _ _⟩
end Go.Proofs.YtmnpbpfeoackiaaDoor

namespace Go.Proofs.YtmnpbpfeoackiaaDoor
open Go.RowKit

def tgL (t : TokL) : TokL := ⟨t.id, t.links, z32⟩
def tgA (d : TokA) : TokA := ⟨d.id, z32, d.A, d.c, d.l⟩
theorem tgA_plain (d : TokA) : (tgA d).plain = tgL d.plain := rfl
theorem size_put32 (t : TokL) : tokSize t = if (tokPutR (tgL t)).2 = 0 then (tokPutR (tgL t)).1.length else 0 := by
  have hb : tokBad (tgL t) = tokBad t := rfl
  unfold tokSize tokPutR
  rw [hb]
  cases tokBad t <;> simp [tgL, z32]
theorem size_pos {t : TokL} (h : (tokPutR (tgL t)).2 = 0) : tokSize t ≠ 0 := by
  have hb : tokBad (tgL t) = tokBad t := rfl
  unfold tokPutR at h
  unfold tokSize
  rw [hb] at h
  cases hc : tokBad t with
  | true => rw [hc] at h; cases h
  | false => simp
theorem first_bad (P : Nat → Prop) : ∀ n, (∀ j, j < n → P j) ∨ ∃ k, k < n ∧ ¬ P k ∧ ∀ j, j < k → P j
  | 0 => .inl fun j h => absurd h (by omega)
  | n + 1 => by
    rcases first_bad P n with h | ⟨k, h1, h2, h3⟩
    · by_cases hn : P n
      · exact .inl fun j hj => by
          rcases Nat.lt_or_ge j n with h4 | h4
          · exact h j h4
          · obtain rfl : j = n := by omega
            exact hn
      · exact .inr ⟨n, by omega, hn, h⟩
    · exact .inr ⟨k, by omega, h2, h3⟩
theorem bunTok_tg (t : TokL) (m : List TokL) (j : Nat) : bunTok (tgL t) (m.map tgL) j = tgL (bunTok t m j) := by
  cases j with
  | zero => rfl
  | succ j =>
    show (m.map tgL).getD j (tgL t) = tgL (m.getD j t)
    rw [List.getD_eq_getElem?_getD, List.getD_eq_getElem?_getD, List.getElem?_map]
    cases m[j]? <;> rfl
theorem bunAcc_size (t : TokL) (m : List TokL) : ∀ k, k ≤ 1 + m.length → (∀ j, j < k → (tokPutR (tgL (bunTok t m j))).2 = 0) → (bunAcc (tgL t) (m.map tgL) k).length + (if k = 0 then (vput m.length).length else 0) = sizeAcc t m k
  | 0, _, _ => by rw [if_pos rfl]; show 0 + _ = _; unfold sizeAcc; omega
  | k + 1, hk, h => by
    have ih := bunAcc_size t m k (by omega) (fun j hj => h j (by omega))
    have h0 := size_put32 (bunTok t m k)
    rw [if_pos (h k (by omega))] at h0
    rw [bunAcc_step _ _ k (by rw [List.length_map]; omega), bunTok_tg, List.length_map, if_neg (show ¬ k + 1 = 0 by omega)]
    show _ = sizeAcc t m k + ((vput (tokSize (bunTok t m k))).length + tokSize (bunTok t m k))
    rw [← ih, h0, List.length_append, List.length_append]
    unfold fText
    rw [List.length_append]
    split
    · omega
    · rw [List.length_nil]; omega
theorem bunSize_put (t : TokL) (m : List TokL) : bunSize t m = (bunPut0 (tgL t) (m.map tgL)).1.length := by
  by_cases h8 : 8 < m.length
  · unfold bunSize bunPut0
    rw [if_pos (.inl h8), List.length_map, if_pos h8]
    rfl
  · rcases first_bad (fun j => (tokPutR (tgL (bunTok t m j))).2 = 0) (1 + m.length) with h | ⟨k, h1, h2, h3⟩
    · rw [bunSize_all t m (by omega) (fun j hj => size_pos (h j hj)), bunPut0_all _ _ (by rw [List.length_map]; omega) (fun j hj => by rw [bunTok_tg]; exact h j (by rw [List.length_map] at hj; exact hj))]
      have h2 := bunAcc_size t m (1 + m.length) (Nat.le_refl _) h
      rw [if_neg (by omega)] at h2
      rw [List.length_map]
      exact h2.symm
    · rw [bunSize_zero t m k h1 (by rw [size_put32, if_neg h2]), bunPut0_fail _ _ k (by rw [List.length_map]; omega) (by rw [List.length_map]; exact h1) (fun j hj => by rw [bunTok_tg]; exact h3 j hj) (by rw [bunTok_tg]; exact h2)]
      rfl

/-- While the tagged tokens are gathered. -/
structure SzFix (w W : World) (b : Nat) (t : TokA) (Am : Option Addr) (n cm : Nat) (vm : Value) : Prop where
  ext : Ext w W
  box : Arr W w.heap.size 38 [.string (ofL t.id), .slice t.A t.l.length t.c, .string (ofL t.tag), .slice Am n cm]
  bun : Arr W b 38 [.string (ofL t.id), .slice t.A t.l.length t.c, .string (ofL z32), vm]
section
variable {w W W' : World} {b : Nat} {t : TokA} {Am : Option Addr} {n cm : Nat} {vm : Value}
theorem SzFix.up (h : SzFix w W b t Am n cm vm) (e : Ext W W') : SzFix w W' b t Am n cm vm := ⟨h.ext.tr e, h.box.ext e h.box.lt, h.bun.ext e h.bun.lt⟩
theorem SzFix.kept {v : Value} {m : Nat} {xs : List Value} (h : SzFix w W b t Am n cm vm) (hr : W.ownsRow (w.heap.size + 1) 24 3 v m xs) (hg : W.grownBy W' v.ownBlock) : SzFix w W' b t Am n cm vm :=
  ⟨h.ext.own hg hr (by omega), arr_kept h.box hg (fun r e => by have := (hr.lt r e).1; omega), arr_kept_type h.bun hr (by decide) hg⟩
theorem SzFix.set (h : SzFix w W b t Am n cm vm) (hb : w.heap.size + 1 ≤ b) (u : Value) : SzFix w (W.setCell ⟨b, 3, none⟩ u) b t Am n cm u :=
  ⟨h.ext.st (p := ⟨b, 3, none⟩) (by show w.heap.size ≤ b; omega) u, h.box.other u (by omega), h.bun.set 3 u⟩
end

set_option maxRecDepth 100000 in
set_option maxHeartbeats 4000000 in
theorem rbsize_any (t : TokA) (Am : Option Addr) (cm : Nat) (more : List TokA) (w : World) (hl : RdLinks w w.heap.size (.slice t.A t.l.length t.c) t.l) (hm : RdToks w w.heap.size (.slice Am more.length cm) more) (ht : TokShort t.id t.tag t.l) (hmt : ∀ d ∈ more, TokShort d.id d.tag d.l) (hn : more.length ≤ 10000) :
    Calls Tryd.prog 25 #[bunV t.id (.slice t.A t.l.length t.c) t.tag (.slice Am more.length cm)] w fun e w' => e = .returned (.int .i64 (bunSize t.plain (more.map TokA.plain))) ∧ Ext w w' := by
  obtain ⟨W, hW, E0, A0⟩ : ∃ W, w.alloc (.cells #[.string (ofL t.id), .slice t.A t.l.length t.c, .string (ofL t.tag), .slice Am more.length cm] 38) = W ∧ Ext w W ∧ Arr W w.heap.size 38 [.string (ofL t.id), .slice t.A t.l.length t.c, .string (ofL t.tag), .slice Am more.length cm] := ⟨_, rfl, (Ext.rfl' w).al _, Arr.new w _ [.string (ofL t.id), .slice t.A t.l.length t.c, .string (ofL t.tag), .slice Am more.length cm]⟩
  have HW := Kp.mk hW
  have hz32 : z32.length ≤ 10000 := by unfold z32; rw [List.length_replicate]; omega
  have cS := Kp.mk (show ∀ (A : Option Addr) (c : Nat) (W : World), Ext w W → RdToks W W.heap.size (.slice A more.length c) (more.map tgA) → Calls Tryd.prog 68 #[.agg #[.string (ofL t.id), .slice t.A t.l.length t.c, .string (ofL z32), .slice A more.length c]] W fun e w' => ∃ (X : List UInt8) (x : Nat), e = .returned (.tuple #[.string (ofL X), .int .i64 x]) ∧ X.length = bunSize t.plain (more.map TokA.plain) ∧ Ext W w' from fun A c W hE hM => by
    have h := rbput0_any (tgA t) A c (more.map tgA) W (rd_at hl hE) (by rw [List.length_map]; exact hM) ⟨ht.1, hz32, ht.2.2.1, ht.2.2.2⟩ (fun d hd => by
      obtain ⟨d', h1, rfl⟩ := List.mem_map.1 hd
      have h2 := hmt d' h1
      exact ⟨h2.1, hz32, h2.2.2.1, h2.2.2.2⟩) (by rw [List.length_map]; exact hn)
    rw [List.length_map] at h
    refine Calls.mono h ?_
    rintro e w' ⟨h1, h2⟩
    refine ⟨_, _, h1, ?_, h2⟩
    rw [bunSize_put, tgA_plain, List.map_map, List.map_map]
    rfl)
  obtain ⟨R, hR⟩ : ∃ R, bunSize t.plain (more.map TokA.plain) = R := ⟨_, rfl⟩
  rw [hR] at cS ⊢
  have HM := Kp.mk hm
  have b0 := A0.cell 0; have b1 := A0.cell 1; have b2 := A0.cell 2; have b3 := A0.cell 3
  simp only [List.getElem?_cons_zero, List.getElem?_cons_succ] at b0 b1 b2 b3
  clear hW hR hl hm hmt ht hz32
  unfold bunV
  go_enter Tryd.func25, Tryd.ntmps25
  go_upto_region 1 with fail
  rw [HW.out]
  clear HW
  go_wp2_with fail
  refine (rtagged_any t.id t.tag t.A t.l.length t.c W).mono ?_
  rintro e w1 ⟨rfl, E1⟩
  have A1 := A0.ext E1 A0.lt
  have F1 := E0.tr E1
  clear A0 E0 E1 b0 b1 b2 b3
  obtain ⟨V, hV, EV, BV⟩ : ∃ V, w1.alloc (.cells #[.string (ofL t.id), .slice t.A t.l.length t.c, .string (ofL z32), .slice none 0 0] 38) = V ∧ Ext w1 V ∧ Arr V w1.heap.size 38 [.string (ofL t.id), .slice t.A t.l.length t.c, .string (ofL z32), .slice none 0 0] := ⟨_, rfl, (Ext.rfl' w1).al _, Arr.new w1 _ [.string (ofL t.id), .slice t.A t.l.length t.c, .string (ofL z32), .slice none 0 0]⟩
  have hb : w.heap.size + 1 ≤ w1.heap.size := A1.lt
  obtain ⟨b, hbe⟩ : ∃ b, w1.heap.size = b := ⟨_, rfl⟩
  have S0 : SzFix w V b t Am more.length cm (.slice none 0 0) := ⟨F1.tr EV, A1.ext EV A1.lt, by rw [← hbe]; exact BV⟩
  rw [hbe] at hb
  have HV := Kp.mk hV; have HB := Kp.mk hbe
  clear hV EV BV A1 F1 hbe
  go_upto_region 2 with fail
  rw [HV.out, HB.out]
  clear HV HB
  go_wp2_with fail
  go_loopw [4] (fun i wr => ∃ (k : Nat) (vm : Value), k ≤ more.length ∧ i = .int .i64 k ∧ SzFix w wr b t Am more.length cm vm ∧ wr.ownsRow (w.heap.size + 1) 24 3 vm k (toksCells ((more.take k).map tgA))) (fun i _ => more.length - (intOf i).toNat)
  case atStart => exact ⟨0, _, by omega, rfl, S0, World.ownsRow_nil _ _ _ _⟩
  case round =>
    clear S0
    obtain ⟨k, vm, hk, rfl, hS, hrow⟩ := hrel
    have c3 := hS.box.cell 3
    simp only [List.getElem?_cons_zero, List.getElem?_cons_succ] at c3
    by_cases hlt : k < more.length
    · obtain ⟨bd, od, rfl, -, hc⟩ := HM.out.tok k hlt
      obtain ⟨d, hd⟩ : ∃ d, more[k] = d := ⟨_, rfl⟩
      have q := Kp.mk (show ∀ W, Ext w W → W.cell? ⟨bd, od + k * 3, none⟩ = some (.string (ofL d.id)) ∧ W.cell? ⟨bd, od + k * 3 + 1, none⟩ = some (.slice d.A d.l.length d.c) ∧ W.cell? ⟨bd, od + k * 3 + 2, none⟩ = some (.string (ofL d.tag)) from fun W hW => by
        have h := hc W hW
        rw [hd] at h
        exact h)
      have cB := Kp.mk (fun W => rtagged_any d.id d.tag d.A d.l.length d.c W)
      have htn := Kp.mk (show (more.take (k + 1)).map tgA = (more.take k).map tgA ++ [⟨d.id, z32, d.A, d.c, d.l⟩] by
        rw [take_snoc more k hlt, List.map_append, List.map_singleton, hd]; rfl)
      obtain ⟨dl, hdl⟩ : ∃ dl, d.l.length = dl := ⟨_, rfl⟩
      have hs5 : w.heap.size + 1 ≤ wr.heap.size := hS.box.lt
      rw [hdl] at cB q
      have HDL := Kp.mk hdl
      clear hc hd hdl
      go_upto_region 5 with fail
      clear c3
      refine wp_region_stages [9] (fun bs W => w.heap.size + 1 ≤ W.heap.size ∧ SzFix w W b t (some ⟨bd, od, none⟩) more.length cm vm ∧ (bs[0]? = some false → W.ownsRow (w.heap.size + 1) 24 3 vm k (toksCells ((more.take k).map tgA)))) (fun bs i v W => match i with
        | 0 => v = .pointer (some ⟨b, 3, none⟩)
        | 1 => v = vm
        | 2 => v = .pointer (some ⟨w.heap.size, 3, none⟩)
        | 3 => v = .slice (some ⟨bd, od, none⟩) more.length cm
        | 4 => v = .int .i64 k
        | 5 => v = .pointer (some ⟨bd, od + k * 3, none⟩)
        | 6 => v = .agg #[.string (ofL d.id), .slice d.A dl d.c, .string (ofL d.tag)]
        | 7 => v = .agg #[.string (ofL d.id), .slice d.A dl d.c, .string (ofL z32)]
        | 8 => ∃ b5, v = .slice (some ⟨b5, 0, none⟩) 1 1 ∧ (bs[0]? = some false → Arr W b5 24 [.string (ofL d.id), .slice d.A dl d.c, .string (ofL z32)])
        | 9 => bs[0]? = some true ∧ W.ownsRow (w.heap.size + 1) 24 3 v (k + 1) (toksCells ((more.take (k + 1)).map tgA))
        | 10 => v = .pointer (some ⟨b, 3, none⟩)
        | _ => True) 11 (cs_inj (by decide)) (by decide) (by kernel_rfl) (by kernel_rfl) (by kernel_rfl) (by decide) (by kernel_rfl) (by kernel_rfl) (by kernel_rfl) (⟨hs5, hS.up (Ext.rfl' wr).dr, fun _ => own_ext hrow (fun j _ hj => ((Ext.rfl' wr).dr).block j hj)⟩) (fun bs W1 W2 ⟨a, p, r⟩ e => ⟨by have := e.size; omega, p.up e, fun hb => own_ext (r hb) (fun j _ hj => e.block j hj)⟩) ?_ ?_ ?_
      · intro bs i v W1 W2 e1 e2 h
        match i, h with
        | 0, h => exact h
        | 1, h => exact h
        | 2, h => exact h
        | 3, h => exact h
        | 4, h => exact h
        | 5, h => exact h
        | 6, h => exact h
        | 7, h => exact h
        | 8, ⟨b5, h1, h2⟩ => exact ⟨b5, h1, fun hb => (h2 hb).ext e2 (h2 hb).lt⟩
        | 9, ⟨h1, h2⟩ => exact ⟨h1, own_ext h2 (fun j _ hj => e2.block j hj)⟩
        | 10, h => exact h
        | (i + 11), h => exact h
      · refine localsT_ord (by decide) (fun bs u W hbs hW hno hd => leaves_val rfl (v := .pointer (some ⟨b, 3, none⟩)) (by go_simp) rfl) ?_
        refine localsT_ord (by decide) (fun bs u W hbs hW hno hd => ?_) ?_
        · have h0 : u 0 = _ := hd 0 (by kernel_rfl)
          have q3 := hW.2.1.bun.cell 3
          simp only [List.getElem?_cons_zero, List.getElem?_cons_succ] at q3
          exact leaves_val rfl (v := vm) (by go_simp) rfl
        refine localsT_ord (by decide) (fun bs u W hbs hW hno hd => leaves_val rfl (v := .pointer (some ⟨w.heap.size, 3, none⟩)) (by go_simp) rfl) ?_
        refine localsT_ord (by decide) (fun bs u W hbs hW hno hd => ?_) ?_
        · have h2 : u 2 = _ := hd 2 (by kernel_rfl)
          have q3 := hW.2.1.box.cell 3
          simp only [List.getElem?_cons_zero, List.getElem?_cons_succ] at q3
          exact leaves_val rfl (v := .slice (some ⟨bd, od, none⟩) more.length cm) (by go_simp) rfl
        refine localsT_ord (by decide) (fun bs u W hbs hW hno hd => leaves_val rfl (v := .int .i64 k) (by go_simp) rfl) ?_
        refine localsT_ord (by decide) (fun bs u W hbs hW hno hd => ?_) ?_
        · have h3 : u 3 = _ := hd 3 (by kernel_rfl)
          have h4 : u 4 = _ := hd 4 (by kernel_rfl)
          exact leaves_val rfl (v := .pointer (some ⟨bd, od + k * 3, none⟩)) (by go_simp) rfl
        refine localsT_ord (by decide) (fun bs u W hbs hW hno hd => ?_) ?_
        · have h5 : u 5 = _ := hd 5 (by kernel_rfl)
          obtain ⟨q0, q1, q2⟩ := q.out W hW.2.1.ext
          exact leaves_val rfl (v := .agg #[.string (ofL d.id), .slice d.A dl d.c, .string (ofL d.tag)]) (by go_simp) rfl
        refine localsT_ord (by decide) (fun bs u W hbs hW hno hd => ?_) ?_
        · have h6 : u 6 = _ := hd 6 (by kernel_rfl)
          exact leaves_call rfl (f := 69) (args := #[.agg #[.string (ofL d.id), .slice d.A dl d.c, .string (ofL d.tag)]]) (by go_simp) ((cB.out W).mono (by rintro e9 W9 ⟨rfl, h9⟩; exact ⟨_, rfl, h9, rfl⟩))
        refine localsT_ord (by decide) (fun bs u W hbs hW hno hd => ?_) ?_
        · have h7 : u 7 = _ := hd 7 (by kernel_rfl)
          exact leaves_new rfl (v := .slice (some ⟨W.heap.size, 0, none⟩) 1 1) (w' := W.alloc (.cells #[.string (ofL d.id), .slice d.A dl d.c, .string (ofL z32)] 24)) (by go_simp) ((Ext.rfl' W).al _) ⟨_, rfl, fun _ => Arr.new W _ [.string (ofL d.id), .slice d.A dl d.c, .string (ofL z32)]⟩
        refine localsT_turn 0 rfl (fun q hq => cs_inj (cs := [9]) (by decide) 0 q _ rfl hq) (fun bs u W hbs hb0 hW hd hcs => ?_) ?_
        · have h1 : u 1 = _ := hd 1 (by kernel_rfl)
          have h8 := hd 8 (by kernel_rfl)
          have hset : (bs.set 0 true)[0]? = some true := List.getElem?_set_self (by rw [hbs]; decide)
          have own1 := hW.2.2 hb0
          obtain ⟨b5, e5, hc5⟩ := h8
          have hA5 := hc5 hb0
          refine ⟨rfl, fun K Q hK => wp_app (ad := ⟨b5, 0, none⟩) (c := 1) (news := toksCells [⟨d.id, z32, d.A, d.c, d.l⟩]) Tryd.elemTok _ _ rfl own1 1 (by go_simp) (by go_simp) rfl ?_ (oneCell_toks _) (by omega) (by omega) hW.1 (fun v' w' own2 hg2 => hK v' w' ?_ ⟨hset, own_eq own2 (by rw [htn.out, toksCells_append]) rfl⟩ ?_)⟩
          · intro j y hy
            rw [WideShapes.add_plain, hA5.cell]
            rw [Nat.zero_add, ← HDL.out]; exact hy
          · exact ⟨by have := hg2.size; have := hW.1; omega, hW.2.1.kept own1 hg2, fun hb => by rw [hset] at hb; cases hb⟩
          · intro k h
            match k, h with
            | 0, h => exact h
            | 1, h => exact h
            | 2, h => exact h
            | 3, h => exact h
            | 4, h => exact h
            | 5, h => exact h
            | 6, h => exact h
            | 7, h => exact h
            | 8, ⟨b5, h1, h2⟩ => exact ⟨b5, h1, fun hb => by rw [hset] at hb; cases hb⟩
            | 9, h => rw [hb0] at h; cases h.1
            | 10, h => exact h
            | (k + 11), h => exact h
        exact localsT_ord (by decide) (fun bs u W hbs hW hno hd => leaves_val rfl (v := .pointer (some ⟨b, 3, none⟩)) (by go_simp) rfl) localsT_nil
      · intro u W hW hV
        have h10 : u 10 = _ := hV 10 (by decide)
        obtain ⟨_, hown⟩ := hV 9 (by decide)
        clear hV
        obtain ⟨g6, c6, e6⟩ := ownsRow_succ hown
        rw [e6] at hown
        have S6 := hW.2.1
        have q3 := S6.bun.cell 3
        have z3 := S6.bun.frozen 3
        simp only [List.getElem?_cons_zero, List.getElem?_cons_succ] at q3
        have S7 := S6.set hb (.slice (some ⟨g6, 0, none⟩) (k + 1) c6)
        have R7 := own_set_other (j := 3) hown S6.bun (by decide) (.slice (some ⟨g6, 0, none⟩) (k + 1) c6)
        clear hW S6 hown hS hrow hs5 cB q
        go_simp
        go_wp2
        go_roundw
        case rel => exact ⟨k + 1, _, by omega, by go_num, S7, R7⟩
        case measure => simp [intOf]; omega
    · have hkd : k = more.length := by omega
      have hA := hS.bun
      have hE := hS.ext
      have q0 := hA.cell 0; have q1 := hA.cell 1; have q2 := hA.cell 2; have q3 := hA.cell 3
      simp only [List.getElem?_cons_zero, List.getElem?_cons_succ] at q0 q1 q2 q3
      obtain ⟨Av, cv, rfl⟩ := own_slice hrow
      have hrd := Rd.own hrow (by decide)
      rw [hkd, List.take_length] at hrd
      have cS2 := Kp.mk (cS.out Av cv wr hE ⟨by rw [List.length_map]; exact hrd, fun x hx => by
        obtain ⟨d, hd, rfl⟩ := List.mem_map.1 hx
        exact rd_at (HM.out.2 d hd) hE⟩)
      rw [← hkd] at cS2
      clear hkd hrd hrow hS hA
      go_wp2_with fail
      refine cS2.out.mono ?_
      rintro e w9 ⟨X, x, rfl, hXl, E9⟩
      have F9 := hE.tr E9
      clear q0 q1 q2 q3 cS2 E9 c3
      go_wp2
      refine bodyPost_ret (results_tmp rfl _ _ _) rfl ⟨?_, F9⟩
      rw [← hXl]
      rfl
end Go.Proofs.YtmnpbpfeoackiaaDoor
