/-
  Package bundle: Put. Conditions: the library's variable errors.errorType holds the type of error; the tags are at most 10000 bytes, at most 10000 more tokens.
-/
import Derived.Test.YtejhiekikblbiaaGreatDoorBu1
import Derived.Test.YtejhiekikblbiaaGreatDoorBu2
namespace Go.Proofs.YtejhiekikblbiaaGreatDoor
open Go.RowKit Go.Conc

/-- The k-th of all tokens, as an argument. -/
def bunTokA (t : TokA) (more : List TokA) : Nat → TokA
  | 0 => t
  | k + 1 => more.getD k t
def allV (t : TokA) (more : List TokA) : List Value := tokAV2 t :: more.map tokAV2
theorem bunTokA_plain (t : TokA) (more : List TokA) (k : Nat) : (bunTokA t more k).plain = bunTok t.plain (more.map TokA.plain) k := by
  cases k with
  | zero => rfl
  | succ k =>
    show (more.getD k t).plain = (more.map TokA.plain).getD k t.plain
    rw [List.getD_eq_getElem?_getD, List.getD_eq_getElem?_getD, List.getElem?_map]
    cases more[k]? <;> rfl
theorem allV_drop (t : TokA) (more : List TokA) (k : Nat) (h : k < 1 + more.length) : (allV t more).drop k = tokAV2 (bunTokA t more k) :: (allV t more).drop (k + 1) := by
  have hl : k < (allV t more).length := by simp [allV]; omega
  rw [List.drop_eq_getElem_cons hl]
  congr 1
  cases k with
  | zero => rfl
  | succ k =>
    have hk : k < more.length := by omega
    simp [allV, bunTokA, List.getD_eq_getElem?_getD, List.getElem?_eq_getElem hk]
theorem chn_others {e : TypeId} {b c cap : Nat} {buf : List Value} {cl : Bool} {w w' : World} (h : Lib.OthersKept e (some b) w w') (hC : Chn w c cap buf cl) (hb : c ≠ b) : Chn w' c cap buf cl := by
  obtain ⟨s, r, hc⟩ := hC
  exact ⟨s, r, h c _ hc (by simpa using hb) (by intro x fz e9; cases e9)⟩
theorem isBuilderF_only {T e : TypeId} {B b g : Nat} {bs : List Value} {w w' : World} (h : Lib.IsBuilderF T e B b bs w) (hO : w.grownBy w' (some g)) (hg : g ≠ b) (hr : ∀ o, w.heap[g]? = some o → o.isCells = false) : Lib.IsBuilderF T e B b bs w' := by
  have key : ∀ p, Lib.BuilderAtF T e B b p bs w → Lib.BuilderAtF T e B b p bs w' := by
    rintro p ⟨hB, v, hb, hown, hne⟩
    refine ⟨hB, v, (hO.block b (Array.getElem?_eq_some_iff.1 hb).1 (by simp; omega)).trans hb, hown.kept hO ?_, hne⟩
    cases hv : v.ownBlock with
    | none => exact .inl rfl
    | some r =>
      refine .inr fun e9 => ?_
      have e8 : r = g := by simpa using e9
      rcases hown.2 with ⟨rfl, _⟩ | ⟨g', cap, cur, fz, rfl, hb', hg', _⟩
      · cases hv
      · have e7 : some g' = some r := hv
        have e6 : g' = g := by rw [← e8]; simpa using e7
        rw [e6] at hg'
        have := hr _ hg'
        cases this
  exact h.elim (fun h => .inl (key _ h)) (fun h => .inr (key _ h))

/-- While the tokens are written. -/
structure PutSt (w W : World) (t : TokA) (Am : Option Addr) (cm : Nat) (more : List TokA) (ch k : Nat) : Prop where
  ext : Ext w W
  box : Arr W w.heap.size 41 [.string (ofL t.id), .slice t.A t.l.length t.c, .string (ofL t.tag), .slice Am more.length cm]
  bld : Lib.IsBuilderF 101 5 (w.heap.size + 1) (w.heap.size + 1) (Lib.byteCells (bunAcc t.plain (more.map TokA.plain) k)) W
  chn : Chn W ch (1 + more.length) ((allV t more).drop k) true
  ok : ∀ j, j < k → (tokPutR (bunTok t.plain (more.map TokA.plain) j)).2 = 0
set_option maxRecDepth 100000 in
def PutI (w : World) (t : TokA) (Am : Option Addr) (cm : Nat) (more : List TokA) (ch : Nat) (a : Act) (w' : World) : Prop :=
  ∃ (k : Nat) (u6 u7 u8 u15 u16 u17 u18 u19 u20 u21 u22 u23 u24 u25 u26 u27 u28 u29 u30 u31 u32 u33 u34 u35 : Value), k ≤ 1 + more.length ∧ PutSt w w' t Am cm more ch k ∧ a = ⟨#[.agg #[.string (ofL t.id), .slice t.A t.l.length t.c, .string (ofL t.tag), .slice Am more.length cm], .pointer (some ⟨w.heap.size, 0, none⟩), .string ⟨#[]⟩, .int .i64 0, .pointer (some ⟨w.heap.size + 1, 0, none⟩), .bool (decide (k = 0)), u6, u7, u8, .pointer (some ⟨w.heap.size, 3, none⟩), .slice Am more.length cm, .int .i64 more.length, .bool false, .agg #[.string (ofL t.id), .slice t.A t.l.length t.c, .string (ofL t.tag), .slice Am more.length cm], .chan (some ch), u15, u16, u17, u18, u19, u20, u21, u22, u23, u24, u25, u26, u27, u28, u29, u30, u31, u32, u33, u34, u35, undef, undef, undef], []⟩
def PutM (ch : Nat) (_ : Act) (w : World) : Nat := match w.heap[ch]? with | some (.chan _ buf _ _ _ _) => buf.size | _ => 0

set_option maxRecDepth 100000 in
set_option maxHeartbeats 4000000 in
theorem buput_any (t : TokA) (Am : Option Addr) (cm : Nat) (more : List TokA) (w : World) (hT : ErrT w) (hl : RdLinks w w.heap.size (.slice t.A t.l.length t.c) t.l) (hm : RdToks w w.heap.size (.slice Am more.length cm) more) (ht : t.tag.length ≤ 10000) (hmt : ∀ d ∈ more, d.tag.length ≤ 10000) (hn : more.length ≤ 10000) :
    Calls Tryz.prog 32 #[bunV t.id (.slice t.A t.l.length t.c) t.tag (.slice Am more.length cm)] w fun e w' => e = .returned (.tuple #[.string (ofL (bunPutR t.plain (more.map TokA.plain)).1), .int .i64 (bunPutR t.plain (more.map TokA.plain)).2]) ∧ Ext w w' := by
  obtain ⟨W, hW, E0, A0⟩ : ∃ W, w.alloc (.cells #[.string (ofL t.id), .slice t.A t.l.length t.c, .string (ofL t.tag), .slice Am more.length cm] 41) = W ∧ Ext w W ∧ Arr W w.heap.size 41 [.string (ofL t.id), .slice t.A t.l.length t.c, .string (ofL t.tag), .slice Am more.length cm] := ⟨_, rfl, (Ext.rfl' w).al _, Arr.new w _ [.string (ofL t.id), .slice t.A t.l.length t.c, .string (ofL t.tag), .slice Am more.length cm]⟩
  have HW := Kp.mk hW
  have hsW : W.heap.size = w.heap.size + 1 := by rw [← hW]; simp
  have HL := Kp.mk hl; have HM := Kp.mk hm; have HMT := Kp.mk hmt
  obtain ⟨R, hR⟩ : ∃ R, bunPutR t.plain (more.map TokA.plain) = R := ⟨_, rfl⟩
  rw [hR]
  have HR := Kp.mk hR
  have b0 := A0.cell 0; have b1 := A0.cell 1; have b2 := A0.cell 2; have b3 := A0.cell 3
  simp only [List.getElem?_cons_zero, List.getElem?_cons_succ] at b0 b1 b2 b3
  clear hW hR hl hm hmt
  unfold bunV
  refine calls_of_wpN Tryz.func32 rfl ?_
  simp only [Tryz.ntmps32, List.size_toArray, List.length_cons, List.length_nil, Nat.reduceAdd, Nat.reduceSub, Array.replicate_succ, Array.replicate_zero, List.push_toArray, List.append_toArray, List.nil_append, List.cons_append]
  refine wpN_seq_k fun K hK => ?_
  go_wp2
  rw [HW.out]
  clear HW
  by_cases g1 : 8 < more.length
  · have d1 : decide ((8 : Int) < (more.length : Int)) = true := by simp; omega
    have hR := HR.out
    rw [show bunPutR t.plain (more.map TokA.plain) = ([], 3) by unfold bunPutR bunPut0; rw [List.length_map, if_pos g1, if_neg (by simp)]] at hR
    subst hR
    clear HR g1
    refine wpN_seq_k fun K hK => ?_
    go_wp2
    go_ret2
    exact ⟨rfl, E0⟩
  · have d1 : decide ((8 : Int) < (more.length : Int)) = false := by simp; omega
    refine wpN_seq_k fun K hK => ?_
    go_wp2
    refine wpN_seq_k fun K hK => ?_
    go_wp2
    have B1 := fresh_isBuilderF W
    obtain ⟨W1, hW1, E1⟩ : ∃ W1, W.alloc (.cells #[.pointer none, .slice none 0 0] 101) = W1 ∧ Ext W W1 := ⟨_, rfl, (Ext.rfl' W).al _⟩
    rw [hW1, hsW] at B1
    rw [hW1]
    have A1 := A0.ext E1 A0.lt
    have F1 := E0.tr E1
    clear hW1 hsW A0 E0 E1 b0 b1 b2 b3
    refine wpN_seq_k fun K hK => ?_
    go_wp2
    refine wpN_seq ?_
    have cA := Kp.mk (all_any t.id t.tag t.A t.c t.l Am cm more W1 (HM.out.at F1) hn)
    unfold bunV at cA
    have b0 := A1.cell 0; have b1 := A1.cell 1; have b2 := A1.cell 2; have b3 := A1.cell 3
    simp only [List.getElem?_cons_zero, List.getElem?_cons_succ] at b0 b1 b2 b3
    refine wpN_seq_k fun K hK => ?_
    go_wp2_with fail
    refine cA.out.mono ?_
    rintro e w2 ⟨ch, rfl, hch, C2, E2⟩
    have B2 := isBuilderF_ext B1 E2
    have A2 := A1.ext E2 A1.lt
    have F2 := F1.tr E2
    have hlt1 := B1.elim (fun h => h.lt) (fun h => h.lt)
    clear B1 A1 F1 E2 b0 b1 b2 b3 cA
    go_wp2
    refine wpN_block ?_
    have hP : PutSt w w2 t Am cm more ch 0 := ⟨F2, A2, B2, C2, fun j hj => absurd hj (by omega)⟩
    have hch2 : w.heap.size + 1 < ch := by omega
    refine wpN_loop (PutI w t Am cm more ch) (PutM ch) ⟨0, _, _, _, _, _, _, _, _, _, _, _, _, _, _, _, _, _, _, _, _, _, _, _, _, by omega, hP, rfl⟩ ?_
    clear hP A2 B2 C2 F2
    rintro a wr ⟨k, u6, u7, u8, u15, u16, u17, u18, u19, u20, u21, u22, u23, u24, u25, u26, u27, u28, u29, u30, u31, u32, u33, u34, u35, hk, hS, rfl⟩
    have HK := Kp.mk hS.ok
    by_cases hlt : k < 1 + more.length
    · have hdr := allV_drop t more k hlt
      have hC := hS.chn
      rw [hdr] at hC
      obtain ⟨s9, r9, hc9, hp9⟩ := hC.pop
      obtain ⟨d, hd⟩ : ∃ d, bunTokA t more k = d := ⟨_, rfl⟩
      rw [hd] at hc9 hp9
      have hdp := Kp.mk (show bunTok t.plain (more.map TokA.plain) k = d.plain by rw [← hd, bunTokA_plain])
      have hdm := Kp.mk (show d = t ∨ d ∈ more by
        rw [← hd]
        cases k with
        | zero => exact .inl rfl
        | succ k =>
          refine .inr ?_
          show more.getD k t ∈ more
          rw [List.getD_eq_getElem?_getD, List.getElem?_eq_getElem (by omega)]
          exact List.getElem_mem _)
      obtain ⟨bf, hbf⟩ : ∃ bf, (tokAV2 d :: (allV t more).drop (k + 1)).toArray = bf := ⟨_, rfl⟩
      have hb0 : bf.getD 0 undef = tokAV2 d := by rw [← hbf]; rfl
      have hbs : 0 < bf.size := by rw [← hbf]; simp
      have hbz := Kp.mk (show bf.size = ((allV t more).drop (k + 1)).length + 1 by rw [← hbf]; simp)
      rw [hbf] at hc9 hp9
      have hmu := Kp.mk (show PutM ch ⟨#[], []⟩ wr = bf.size by unfold PutM; rw [hc9])
      clear hdr hC hd hbf
      refine wpN_seq ?_
      refine wpN_region_l (l := [0, 1]) rfl ?_
      refine regN_recv rfl rfl _ rfl (by go_simp) Tryz.underlying102 Tryz.zeroValue33 hc9 hbs ?_
      rw [hb0]
      have O9 := only_chan wr ch (1 + more.length) (bf.extract 1 bf.size) true s9 (r9 + 1)
      obtain ⟨W9, hW9⟩ : ∃ W9, wr.setChan ch (1 + more.length) (bf.extract 1 bf.size) true s9 (r9 + 1) false = W9 := ⟨_, rfl⟩
      rw [hW9] at O9 hp9 ⊢
      have A9 := arr_kept hS.box O9 (fun r e => by cases e; omega)
      have B9 := isBuilderF_only hS.bld O9 (by omega) (fun o ho => by rw [hc9] at ho; cases ho; rfl)
      have F9 : Ext w W9 := Only.toExt O9 hS.ext (by omega)
      clear hS hc9 hb0 hW9 O9
      refine regN_val rfl rfl (v := .bool true) (w' := W9) (by go_simp) ?_
      refine regN_nil ?_
      go_simp
      refine wpN_of_wp ?_
      have hok1 := bunAcc_len t.plain (more.map TokA.plain) k (by rw [List.length_map]; omega) HK.out
      have hstp := Kp.mk (bunAcc_step t.plain (more.map TokA.plain) k (by rw [List.length_map]; omega))
      have hfail := Kp.mk (fun h0 => bunPut_fail t.plain (more.map TokA.plain) k (by rw [List.length_map]; omega) (by rw [List.length_map]; omega) HK.out h0)
      rw [hdp.out, HR.out] at hfail
      rw [hdp.out, List.length_map] at hstp
      obtain ⟨O, hO⟩ : ∃ O, bunAcc t.plain (more.map TokA.plain) k = O := ⟨_, rfl⟩
      rw [hO] at hok1 hstp B9
      have hok2 : O.length ≤ 7000000 := by omega
      have hpl := fun h => put_ok_len (t := d.plain) h
      obtain ⟨⟨X, x⟩, hX⟩ : ∃ X, tokPutR d.plain = X := ⟨_, rfl⟩
      have cP := Kp.mk (show ∀ W', Ext w W' → Calls Tryz.prog 67 #[.agg #[.string (ofL d.id), .slice d.A d.l.length d.c, .string (ofL d.tag)]] W' fun e w' => e = .returned (.tuple #[.string (ofL X), .int .i64 x]) ∧ Ext W' w' from fun W' hE => by
        have h := tkput_any d.id d.tag (.slice d.A d.l.length d.c) d.l W' (hT.ext hE) (by
          rcases hdm.out with h | h
          · rw [h]; exact rd_at HL.out hE
          · exact rd_at (HM.out.2 d h) hE) (by
          rcases hdm.out with h | h
          · rw [h]; exact ht
          · exact HMT.out d h)
        rw [show tokPutR ⟨d.id, d.l, d.tag⟩ = (X, x) from hX] at h
        exact h)
      rw [hX] at hpl hfail hstp
      dsimp only at hpl hfail hstp
      have hkok := Kp.mk (show x = 0 → ∀ j, j < k + 1 → (tokPutR (bunTok t.plain (more.map TokA.plain) j)).2 = 0 from fun h0 j hj => by
        rcases Nat.lt_or_ge j k with h | h
        · exact HK.out j h
        · obtain rfl : j = k := by omega
          rw [hdp.out, hX]; exact h0)
      clear hO hX hok1
      unfold tokAV2 tokV
      obtain ⟨V, hV, EV, DV⟩ : ∃ V, W9.alloc (.cells #[.string (ofL d.id), .slice d.A d.l.length d.c, .string (ofL d.tag)] 33) = V ∧ Ext W9 V ∧ Arr V W9.heap.size 33 [.string (ofL d.id), .slice d.A d.l.length d.c, .string (ofL d.tag)] := ⟨_, rfl, (Ext.rfl' W9).al _, Arr.new W9 _ [.string (ofL d.id), .slice d.A d.l.length d.c, .string (ofL d.tag)]⟩
      have A10 := A9.ext EV A9.lt
      have B10 := isBuilderF_ext B9 EV
      have C10 := hp9.ext EV
      have F10 := F9.tr EV
      have HV := Kp.mk hV
      clear hV EV A9 B9 hp9 F9
      go_upto_region 8 with fail
      rw [HV.out]
      clear HV
      have q0 := DV.cell 0; have q1 := DV.cell 1; have q2 := DV.cell 2
      simp only [List.getElem?_cons_zero, List.getElem?_cons_succ] at q0 q1 q2
      go_wp2_with fail
      refine (cP.out _ F10).mono ?_
      rintro e w11 ⟨rfl, E11⟩
      have A11 := A10.ext E11 A10.lt
      have B11 := isBuilderF_ext B10 E11
      have C11 := C10.ext E11
      have F11 := F10.tr E11
      clear q0 q1 q2 DV A10 B10 C10 F10 E11 cP
      by_cases hx : x = 0
      · subst hx
        have hXl := hpl rfl
        have cT := ftext_any (ofL X)
        rw [toL_ofL] at cT
        have cT := Kp.mk (fun W' => cT W' (by rw [size_ofL]; omega))
        have hfl := fText_len X
        have hkok2 := Kp.mk (hkok.out rfl)
        clear hfail hpl hkok
        go_wp2_with fail
        refine (cT.out _).mono ?_
        rintro e w12 ⟨rfl, E12⟩
        have A12 := A11.ext E12 A11.lt
        have B12 := isBuilderF_ext B11 E12
        have C12 := C11.ext E12
        have F12 := F11.tr E12
        clear A11 B11 C11 F11 E12 cT
        go_wp2_with fail
        refine (bk_write _ _ O (fText X) _ B12 (by omega) (by have := A12.lt; omega)).mono ?_
        rintro e w13 ⟨rfl, B13, H13, O13⟩
        have A13 := A12.ext H13 (by omega)
        have C13 := chn_others O13 C12 (by omega)
        have F13 : Ext w w13 := F12.trans (H13.mono (by omega))
        clear A12 B12 C12 F12 H13 O13
        by_cases hk0 : k = 0
        · have d5 : decide (k = 0) = true := by simp [hk0]
          have hst := hstp.out
          rw [if_pos hk0] at hst
          have hst := Kp.mk hst
          have hu : IntKind.u64.wrap (more.length : Int) = (more.length : Int) := U64.wrap (by show _ < _; omega)
          have lv := length_vput more.length
          have b3 := A13.cell 3
          simp only [List.getElem?_cons_zero, List.getElem?_cons_succ] at b3
          clear hstp
          go_wp2_with fail
          refine (fnum_any more.length _ (by show _ < _; omega)).mono ?_
          rintro e w14 ⟨rfl, E14⟩
          have A14 := A13.ext E14 A13.lt
          have B14 := isBuilderF_ext B13 E14
          have C14 := C13.ext E14
          have F14 := F13.tr E14
          clear A13 B13 C13 F13 E14 b3
          go_wp2_with fail
          refine (bk_write _ _ (O ++ fText X) (vput more.length) _ B14 (by rw [List.length_append]; omega) (by have := A14.lt; omega)).mono ?_
          rintro e w15 ⟨rfl, B15, H15, O15⟩
          have A15 := A14.ext H15 (by omega)
          have C15 := chn_others O15 C14 (by omega)
          have F15 : Ext w w15 := F14.trans (H15.mono (by omega))
          clear A14 B14 C14 F14 H15 O15
          rw [← hst.out] at B15
          have hP := Kp.mk (show PutSt w w15 t Am cm more ch (k + 1) from ⟨F15, A15, B15, C15, hkok2.out⟩)
          have hm2 := Kp.mk (show PutM ch ⟨#[], []⟩ w15 < PutM ch ⟨#[], []⟩ wr by
            obtain ⟨s3, r3, h3⟩ := C15
            rw [hmu.out]
            unfold PutM
            rw [h3, hbz.out]
            show ((allV t more).drop (k + 1)).toArray.size < _
            rw [List.size_toArray]
            omega)
          clear A15 B15 C15 F15 hst hmu
          go_wp2
          exact ⟨⟨k + 1, _, _, _, _, _, _, _, _, _, _, _, _, _, _, _, _, _, _, _, _, _, _, _, _, by omega, hP.out, rfl⟩, hm2.out⟩
        · have d5 : decide (k = 0) = false := by simp [hk0]
          have hst := hstp.out
          rw [if_neg hk0, List.append_nil] at hst
          rw [← hst] at B13
          have hP := Kp.mk (show PutSt w w13 t Am cm more ch (k + 1) from ⟨F13, A13, B13, C13, hkok2.out⟩)
          have hm2 := Kp.mk (show PutM ch ⟨#[], []⟩ w13 < PutM ch ⟨#[], []⟩ wr by
            obtain ⟨s3, r3, h3⟩ := C13
            rw [hmu.out]
            unfold PutM
            rw [h3, hbz.out]
            show ((allV t more).drop (k + 1)).toArray.size < _
            rw [List.size_toArray]
            omega)
          clear A13 B13 C13 F13 hst hmu hstp
          go_wp2
          exact ⟨⟨k + 1, _, _, _, _, _, _, _, _, _, _, _, _, _, _, _, _, _, _, _, _, _, _, _, _, by omega, hP.out, rfl⟩, hm2.out⟩
      · have tx : ((x : Int) != 0) = true := by simp; omega
        have hR2 := hfail.out hx
        clear hfail hpl hkok hstp hx
        go_wp2
        go_ret2
        exact ⟨by rw [hR2]; rfl, F11⟩
    · obtain rfl : k = 1 + more.length := by omega
      have hC := hS.chn
      rw [show (allV t more).drop (1 + more.length) = [] from List.drop_eq_nil_of_le (by simp [allV]; omega)] at hC
      obtain ⟨s9, r9, hc9⟩ := hC
      have hB := hS.bld
      have hF := hS.ext
      have hR := HR.out
      rw [bunPut_all t.plain (more.map TokA.plain) (by rw [List.length_map]; omega) (by rw [List.length_map]; exact HK.out), List.length_map] at hR
      have hlen := bunAcc_len t.plain (more.map TokA.plain) (1 + more.length) (by rw [List.length_map]; omega) HK.out
      obtain ⟨O, hO⟩ : ∃ O, bunAcc t.plain (more.map TokA.plain) (1 + more.length) = O := ⟨_, rfl⟩
      rw [hO] at hB hR hlen
      have hR := Kp.mk hR
      clear hS hO HR
      refine wpN_seq ?_
      refine wpN_region_l (l := [0, 1]) rfl ?_
      refine regN_shut rfl rfl _ rfl (by go_simp) Tryz.underlying102 Tryz.zeroValue33 hc9 ?_
      refine regN_val rfl rfl (v := .bool false) (w' := wr) (by go_simp) ?_
      refine regN_nil ?_
      clear hc9
      go_simp
      refine wpN_of_wp ?_
      go_wp2
      refine wpN_of_wp ?_
      have cL := Tryz.Builder_Len_f _ _ _ wr hB
      rw [Lib.byteCells_length] at cL
      have hle : O.length ≤ 7000000 := by omega
      have hlB := hB.elim (fun h => h.lt) (fun h => h.lt)
      clear hlen
      by_cases h6 : 65536 < O.length
      · have d6 : decide ((65536 : Int) < (O.length : Int)) = true := by simp; omega
        have hR := hR.out
        rw [if_pos h6] at hR
        subst hR
        clear h6
        go_wp2_with fail
        refine cL.mono ?_
        rintro e w12 ⟨rfl, rfl⟩
        go_wp2
        go_ret2
        exact ⟨rfl, hF⟩
      · have d6 : decide ((65536 : Int) < (O.length : Int)) = false := by simp; omega
        have hR := hR.out
        rw [if_neg h6] at hR
        subst hR
        clear h6
        go_wp2_with fail
        refine cL.mono ?_
        rintro e w12 ⟨rfl, rfl⟩
        go_wp2_with fail
        refine (bk_string _ _ O _ hB (by omega)).mono ?_
        rintro e w13 ⟨rfl, B13, H13, O13⟩
        go_wp2
        go_ret2
        exact ⟨rfl, hF.trans (H13.mono (by omega))⟩
end Go.Proofs.YtejhiekikblbiaaGreatDoor
