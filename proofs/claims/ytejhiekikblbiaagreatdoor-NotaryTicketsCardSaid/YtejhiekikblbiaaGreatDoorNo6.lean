/-
  Package notary's reference: Ticket, Discharge. Conditions: texts of at most 100000 bytes.
-/
import Derived.Test.YtejhiekikblbiaaGreatDoorNo4
import Derived.Test.YtejhiekikblbiaaGreatDoorStoreT
namespace Go.Proofs.YtejhiekikblbiaaGreatDoor
open Go.RowKit

set_option maxRecDepth 100000 in
set_option maxHeartbeats 2000000 in
theorem rticket_any (m n k t : List UInt8) (w : World) (hm : m.length ≤ 100000) (hk : k.length ≤ 100000) (ht : t.length ≤ 100000) : Calls Tryz.prog 10 #[.string (ofL m), .string (ofL n), .string (ofL k), .string (ofL t)] w fun e w' => e = .returned (resV (ticketR m n k t)) ∧ Ext w w' := by
  obtain ⟨F, hF⟩ : ∃ F, frameL [k, t] = F := ⟨_, rfl⟩
  have lF : F.length ≤ 300000 := by rw [← hF, len_two]; omega
  have cF := Kp.mk (show ∀ W : World, Calls Tryz.prog 38 #[.slice (some ⟨W.heap.size, 0, none⟩) 2 2] (W.alloc (.cells #[.string (ofL k), .string (ofL t)] 9)) fun e w' => e = .returned (.string (ofL F)) ∧ Ext W w' from fun W => by
    rw [← hF]
    exact (rframe_any [k, t] _ _ (rd_lit W 9 #[.string (ofL k), .string (ofL t)] 2 rfl (by decide)) (by rw [len_two]; omega)).mono fun e w' h => ⟨h.1, ((Ext.rfl' W).al _).tr h.2⟩)
  have cS := Kp.mk (show ∀ W, Calls Tryz.prog 37 #[.string (ofL m), .string (ofL n), .string (ofL F)] W fun e w' => e = .returned (resV (sealR m n F)) ∧ Ext W w' from fun W => rseal_box m n F W (by omega))
  have hR : ticketR m n k t = sealR m n F := by rw [← hF]; rfl
  rw [hR]
  clear hF hR
  go_enter Tryz.func10, Tryz.ntmps10
  go_wp2_with fail
  refine (cF.out _).mono ?_
  rintro e w1 ⟨rfl, E1⟩
  go_wp2_with fail
  refine (cS.out _).mono ?_
  rintro e w2 ⟨rfl, E2⟩
  have F2 := E1.tr E2
  unfold resV
  go_wp2
  exact bodyPost_ret (v := .tuple #[.string (ofL (sealR m n F).1), .int .i64 (sealR m n F).2]) (by simp [results, Tryz.results10, go_sem]) rfl ⟨rfl, F2⟩
set_option maxRecDepth 100000 in
set_option maxHeartbeats 8000000 in
theorem rdischarge_any (m s : List UInt8) (As : Option Addr) (cs : Nat) (ls : List (List UInt8)) (w : World) (hm : m.length ≤ 100000) (hs : s.length ≤ 100000) (hr : Rd w w.heap.size 1 (.slice As ls.length cs) ls.length (ls.map Str)) (hls : ∀ x ∈ ls, x.length ≤ 100000) :
    Calls Tryz.prog 14 #[.string (ofL m), .string (ofL s), .slice As ls.length cs] w (TokNew w (dischargeR m s ls)) := by
  obtain ⟨W0, hW0, E0, B1⟩ := tokbox w (.string ⟨#[]⟩) (.slice none 0 0) (.string ⟨#[]⟩)
  have cR := Kp.mk (rread_any m s W0 hm hs)
  have HW := Kp.mk hW0
  obtain ⟨As', cs', e, hsm, _, hsc⟩ := hr
  cases e
  have HC := Kp.mk hsc
  have HLS := Kp.mk hls
  clear hW0 hsc hls
  have herr := Kp.mk (fun h => dischargeR_err (m := m) (s := s) (l := ls) h)
  have hok := Kp.mk (fun h => dischargeR_ok (m := m) (s := s) (l := ls) h)
  have hkb := readR_bound m s
  obtain ⟨R, hR⟩ : ∃ R, dischargeR m s ls = R := ⟨_, rfl⟩
  rw [hR] at herr hok ⊢
  obtain ⟨rd, hrd⟩ : ∃ rd, readR m s = rd := ⟨_, rfl⟩
  rw [hrd] at cR herr hok hkb
  obtain ⟨k, t, x⟩ := rd
  unfold readV at cR
  dsimp only at cR herr hok hkb
  clear hR hrd
  by_cases hx : x = 0
  · subst hx
    have hR2 := Kp.mk (hok.out rfl)
    obtain ⟨T0, hT0⟩ : ∃ T0, rootL k s = T0 := ⟨_, rfl⟩
    have lT0 : T0.length = 32 := by rw [← hT0]; exact length_partsL _ _
    have cN := Kp.mk (show ∀ W, Calls Tryz.prog 44 #[.string (ofL s)] W fun e w' => ∃ v, e = .returned v ∧ Ext W w' ∧ Rd w' w'.heap.size 1 v 2 ((rootParts s).map Str) from fun W => (rrootParts_any s W).mono fun e w' ⟨v, h1, h2, h3⟩ => ⟨v, h1, h3, Rd.own h2 (by decide)⟩)
    have cP := Kp.mk (show ∀ W v, Rd W W.heap.size 1 v 2 ((rootParts s).map Str) → Calls Tryz.prog 43 #[.string (ofL k), v] W fun e w' => e = .returned (.string (ofL T0)) ∧ Ext W w' from fun W v h => by rw [← hT0]; exact rparts_any k (rootParts s) v W (by omega) h (by rw [len_root]; omega))
    rw [hT0] at hR2
    clear herr hok hT0
    go_enter Tryz.func14, Tryz.ntmps14
    go_upto_region 1 with fail
    rw [HW.out]
    go_wp2_with fail
    refine cR.out.mono ?_
    rintro e w1 ⟨rfl, E1⟩
    have F1 := E0.tr E1
    have C1 := B1.ext E1 B1.lt
    go_wp2_with fail
    refine (cN.out _).mono ?_
    rintro e wN ⟨vN, rfl, EN, hvN⟩
    have FN := F1.tr EN
    have CN := C1.ext EN C1.lt
    go_wp2_with fail
    refine (cP.out _ _ hvN).mono ?_
    rintro e w2 ⟨rfl, E2⟩
    have F2 := FN.tr E2
    have C2 := CN.ext E2 CN.lt
    obtain ⟨W3, hW3, E3, B3⟩ := tokbox w2 (.string (ofL s)) (.slice none 0 0) (.string (ofL T0))
    have S0 : DisSt w W3 w2.heap.size ⟨s, T0, none, 0, []⟩ := ⟨F2.tr E3, C2.ext E3 C2.lt, B3, World.ownsRow_nil _ _ _ _⟩
    have hg : w.heap.size < w2.heap.size := C2.lt
    have HW3 := Kp.mk hW3
    clear hW3 B1 E0 E1 F1 C1 E2 F2 C2 E3 B3 HW cR cN cP EN hvN FN CN
    go_upto_region 5 with fail
    rw [HW3.out]
    go_wp2_with fail
    go_loopw [12] (fun i wr => ∃ (j : Nat) (X : TokA), j ≤ ls.length ∧ i = .int .i64 j ∧ X.l.length ≤ 64 ∧ X.tag.length ≤ 100 ∧ addsL X.plain (ls.drop j) = R ∧ DisSt w wr w2.heap.size X) (fun i _ => ls.length - (intOf i).toNat)
    case atStart => exact ⟨0, ⟨s, T0, none, 0, []⟩, by omega, rfl, by simp, by dsimp only; omega, hR2.out.symm, S0⟩
    case round =>
      clear S0 HW3 lT0
      obtain ⟨j, X, hj, rfl, hx64, hxt, hres0, hS⟩ := hrel
      have hres := Kp.mk hres0
      clear hres0
      obtain ⟨xi, xt, XA, xc, xl⟩ := X
      dsimp only at hx64 hxt
      by_cases hlt : j < ls.length
      · obtain ⟨bk, ok, rfl, hbk, hc⟩ := HC.out (by omega)
        obtain ⟨c, hcj⟩ : ∃ c, ls[j] = c := ⟨_, rfl⟩
        have q := Kp.mk (show ∀ W, Ext wr W → W.cell? ⟨bk, ok + j, none⟩ = some (.string (ofL c)) from fun W hW => ((bcell (hS.ext.tr hW)).1 bk (ok + j) hbk).trans (hc j (.string (ofL c)) (by rw [List.getElem?_map, List.getElem?_eq_getElem hlt, hcj]; rfl)))
        have hcl : c.length ≤ 100000 := by rw [← hcj]; exact HLS.out _ (List.getElem_mem hlt)
        have hdrop : ls.drop j = c :: ls.drop (j + 1) := by rw [List.drop_eq_getElem_cons hlt, hcj]
        have hres2 := Kp.mk (show (if (addL ⟨xi, xl, xt⟩ c).2 = 0 then addsL (addL ⟨xi, xl, xt⟩ c).1 (ls.drop (j + 1)) else (tok0, (addL ⟨xi, xl, xt⟩ c).2)) = R by
          have h := hres.out
          rw [hdrop, addsL_cons] at h
          exact h)
        have hcase := Kp.mk (addL_cases ⟨xi, xl, xt⟩ c)
        obtain ⟨Y, hY⟩ : ∃ Y, addL ⟨xi, xl, xt⟩ c = Y := ⟨_, rfl⟩
        have hyl := Kp.mk (show Y.2 = 0 → Y.1.links.length ≤ 64 ∧ Y.1.tag.length ≤ 100 from fun h => by
          rcases hcase.out with ⟨h1, h2⟩ | h2
          · rw [← hY, h2]
            refine ⟨?_, ?_⟩
            · show (xl ++ [(c, [])]).length ≤ 64
              rw [List.length_append, List.length_singleton]
              have h1 : xl.length < 64 := h1
              omega
            · show (nextL xt (c, [])).length ≤ 100
              rw [show (nextL xt (c, [])).length = 32 from length_partsL _ _]; omega
          · rw [← hY, h2] at h
            exact absurd h (by decide))
        rw [hY] at hres2
        obtain ⟨⟨yi, yl, yt⟩, er⟩ := Y
        dsimp only at hres2 hyl
        obtain ⟨ny, hny⟩ : ∃ ny, yl.length = ny := ⟨_, rfl⟩
        obtain ⟨nx, hnx⟩ : ∃ nx, xl.length = nx := ⟨_, rfl⟩
        have LX := Kp.mk (own_links hS.own rfl)
        have cA := Kp.mk (show ∀ W, Ext wr W → Calls Tryz.prog 45 #[.agg #[.string (ofL xi), .slice XA nx xc, .string (ofL xt)], .string (ofL c)] W fun e w' => ∃ v, e = .returned v ∧ Ext W w' ∧ ∃ A1 c1, v = .tuple #[.agg #[.string (ofL yi), .slice A1 ny c1, .string (ofL yt)], .int .i64 er] ∧ w'.ownsRow W.heap.size 72 2 (.slice A1 ny c1) ny (linkCells yl) from fun W hW => by
          have h := rhoadd_any xi xt c XA xc xl W (rd_at LX.out hW) (by omega) (by omega) hcl
          rw [hY] at h
          unfold tokV at h
          rw [hnx] at h
          refine h.mono fun e w' ⟨v, h1, h2, h3⟩ => ?_
          obtain ⟨A1, c1, rfl⟩ := own_slice h2
          dsimp only at h1 h2
          rw [hny] at h1 h2
          exact ⟨_, h1, h3, A1, c1, rfl, h2⟩)
        have cu0 := hS.cur
        dsimp only at cu0
        rw [hnx] at cu0
        have hEx := hS.ext
        have hre := hS.res
        have hgl := cu0.lt
        have HNY := Kp.mk hny
        clear hc hcj hdrop hS hres hnx hny hcase LX hY
        go_upto_region 8 with fail
        refine wp_region_stage [10] (fun bs W => Ext wr W) (fun bs i v W => match i with
          | 0 => v = .agg #[.string (ofL xi), .slice XA nx xc, .string (ofL xt)]
          | 1 => v = .slice (some ⟨bk, ok, none⟩) ls.length cs
          | 2 => v = .int .i64 j
          | 3 => v = .pointer (some ⟨bk, ok + j, none⟩)
          | 4 => v = .string (ofL c)
          | 5 => ∃ A1 c1, v = .tuple #[.agg #[.string (ofL yi), .slice A1 ny c1, .string (ofL yt)], .int .i64 er] ∧ W.ownsRow wr.heap.size 72 2 (.slice A1 ny c1) ny (linkCells yl)
          | 6 => ∃ A1 c1, v = .tuple #[.agg #[.string (ofL yi), .slice A1 ny c1, .string (ofL yt)], .int .i64 er] ∧ W.ownsRow wr.heap.size 72 2 (.slice A1 ny c1) ny (linkCells yl)
          | 7 => ∃ A1 c1, v = .agg #[.string (ofL yi), .slice A1 ny c1, .string (ofL yt)] ∧ W.ownsRow wr.heap.size 72 2 (.slice A1 ny c1) ny (linkCells yl)
          | 8 => v = .int .i64 er
          | 9 => ∃ b, v = .pointer (some ⟨b, 0, none⟩) ∧ wr.heap.size ≤ b ∧ (bs[0]? = some false → Arr W b 33 [.string ⟨#[]⟩, .slice none 0 0, .string ⟨#[]⟩]) ∧ (bs[0]? = some true → ∃ A1 c1, Arr W b 33 [.string (ofL yi), .slice A1 ny c1, .string (ofL yt)] ∧ W.ownsRow wr.heap.size 72 2 (.slice A1 ny c1) ny (linkCells yl))
          | 10 => bs[0]? = some true
          | 11 => v = .int .i64 er
          | _ => True) (cs_inj (by decide)) (by decide) (by kernel_rfl) (by kernel_rfl) (by kernel_rfl) ((Ext.rfl' wr).dr) (fun bs W1 W2 h e => h.tr e) ?_ ?_ ?_
        · intro bs i v W1 W2 e1 e2 h
          match i, h with
          | 0, h => exact h
          | 1, h => exact h
          | 2, h => exact h
          | 3, h => exact h
          | 4, h => exact h
          | 5, ⟨A1, c1, h1, h2⟩ => exact ⟨A1, c1, h1, own_ext h2 (fun j _ hj => e2.block j hj)⟩
          | 6, ⟨A1, c1, h1, h2⟩ => exact ⟨A1, c1, h1, own_ext h2 (fun j _ hj => e2.block j hj)⟩
          | 7, ⟨A1, c1, h1, h2⟩ => exact ⟨A1, c1, h1, own_ext h2 (fun j _ hj => e2.block j hj)⟩
          | 8, h => exact h
          | 9, ⟨b, h1, h2, h3, h4⟩ => exact ⟨b, h1, h2, fun hb => (h3 hb).ext e2 (h3 hb).lt, fun hb => by obtain ⟨A1, c1, h5, h6⟩ := h4 hb; exact ⟨A1, c1, h5.ext e2 h5.lt, own_ext h6 (fun j _ hj => e2.block j hj)⟩⟩
          | 10, h => exact h
          | 11, h => exact h
          | (i + 12), h => exact h
        · refine localsQ_ord (by decide) (fun bs u W hbs hW hno hd => ?_) ?_
          · have q0 := (cu0.ext hW hgl).cell 0; have q1 := (cu0.ext hW hgl).cell 1; have q2 := (cu0.ext hW hgl).cell 2
            simp only [List.getElem?_cons_zero, List.getElem?_cons_succ] at q0 q1 q2
            exact leaves_val rfl (v := .agg #[.string (ofL xi), .slice XA nx xc, .string (ofL xt)]) (by go_simp) rfl
          refine localsQ_ord (by decide) (fun bs u W hbs hW hno hd => leaves_val rfl (v := .slice (some ⟨bk, ok, none⟩) ls.length cs) (by go_simp) rfl) ?_
          refine localsQ_ord (by decide) (fun bs u W hbs hW hno hd => leaves_val rfl (v := .int .i64 j) (by go_simp) rfl) ?_
          refine localsQ_ord (by decide) (fun bs u W hbs hW hno hd => ?_) ?_
          · have h1 : u 1 = _ := hd 1 (by kernel_rfl)
            have h2 : u 2 = _ := hd 2 (by kernel_rfl)
            exact leaves_val rfl (v := .pointer (some ⟨bk, ok + j, none⟩)) (by go_simp) rfl
          refine localsQ_ord (by decide) (fun bs u W hbs hW hno hd => ?_) ?_
          · have h3 : u 3 = _ := hd 3 (by kernel_rfl)
            have q0 := q.out W hW
            exact leaves_val rfl (v := .string (ofL c)) (by go_simp) rfl
          refine localsQ_ord (by decide) (fun bs u W hbs hW hno hd => ?_) ?_
          · have h0 : u 0 = _ := hd 0 (by kernel_rfl)
            have h4 : u 4 = _ := hd 4 (by kernel_rfl)
            exact leaves_call rfl (f := 45) (args := #[.agg #[.string (ofL xi), .slice XA nx xc, .string (ofL xt)], .string (ofL c)]) (by go_simp) ((cA.out W hW).mono (fun e9 W9 ⟨v9, h1, h2, A1, c1, h3, h4⟩ => ⟨v9, h1, h2, A1, c1, h3, own_more h4 hW.size⟩))
          refine localsQ_ord (by decide) (fun bs u W hbs hW hno hd => ?_) ?_
          · have h5 := hd 5 (by kernel_rfl)
            exact leaves_val rfl (v := u 5) (by go_simp) h5
          refine localsQ_ord (by decide) (fun bs u W hbs hW hno hd => ?_) ?_
          · have h6 := hd 6 (by kernel_rfl)
            obtain ⟨A1, c1, e5, o5⟩ := h6
            exact leaves_val rfl (v := .agg #[.string (ofL yi), .slice A1 ny c1, .string (ofL yt)]) (by go_simp) ⟨A1, c1, rfl, o5⟩
          refine localsQ_ord (by decide) (fun bs u W hbs hW hno hd => ?_) ?_
          · have h6 := hd 6 (by kernel_rfl)
            obtain ⟨A1, c1, e5, o5⟩ := h6
            exact leaves_val rfl (v := .int .i64 er) (by go_simp) rfl
          refine localsQ_ord (by decide) (fun bs u W hbs hW hno hd => ?_) ?_
          · exact leaves_new rfl (v := .pointer (some ⟨W.heap.size, 0, none⟩)) (w' := W.alloc (.cells #[.string ⟨#[]⟩, .slice none 0 0, .string ⟨#[]⟩] 33)) (by go_simp) ((Ext.rfl' W).al _) ⟨_, rfl, hW.size, fun _ => Arr.new W _ [.string ⟨#[]⟩, .slice none 0 0, .string ⟨#[]⟩], fun hb => nomatch ((Eq.trans (by kernel_rfl) (hno 0 10 _ hb rfl rfl)) : true = false)⟩
          refine localsQ_turnT 0 rfl (fun q hq => cs_inj (cs := [10]) (by decide) 0 q _ rfl hq) (fun bs u W hbs hb0 hW hd hcs => ?_) ?_
          · have h9 := hd 9 (by kernel_rfl)
            have h7 := hd 7 (by kernel_rfl)
            have hset : (bs.set 0 true)[0]? = some true := List.getElem?_set_self (by rw [hbs]; decide)
            obtain ⟨A1, c1, e7, o7⟩ := h7
            obtain ⟨g9, e9, hg9, hc9, _⟩ := h9
            have hA9 := hc9 hb0
            obtain ⟨W', hW'⟩ : ∃ W' : World, W' = ((W.setCell ⟨g9, 0, none⟩ (.string (ofL yi))).setCell ⟨g9, 1, none⟩ (.slice A1 ny c1)).setCell ⟨g9, 2, none⟩ (.string (ofL yt)) := ⟨_, rfl⟩
            refine turnOk_skip (w' := W') rfl (by rw [hW']; exact run_store_tok rfl (by go_simp) (by go_simp) hA9) ?_ hset ?_
            · rw [hW']; exact ((hW.st (p := ⟨g9, 0, none⟩) hg9 _).st (p := ⟨g9, 1, none⟩) hg9 _).st (p := ⟨g9, 2, none⟩) hg9 _
            · intro k h
              match k, h with
              | 0, h => exact h
              | 1, h => exact h
              | 2, h => exact h
              | 3, h => exact h
              | 4, h => exact h
              | 5, ⟨A1, c1, h1, h2⟩ => exact ⟨A1, c1, h1, by rw [hW']; exact own_set_other (own_set_other (own_set_other h2 hA9 (by decide) _) (hA9.set 0 _) (by decide) _) ((hA9.set 0 _).set 1 _) (by decide) _⟩
              | 6, ⟨A1, c1, h1, h2⟩ => exact ⟨A1, c1, h1, by rw [hW']; exact own_set_other (own_set_other (own_set_other h2 hA9 (by decide) _) (hA9.set 0 _) (by decide) _) ((hA9.set 0 _).set 1 _) (by decide) _⟩
              | 7, ⟨A1, c1, h1, h2⟩ => exact ⟨A1, c1, h1, by rw [hW']; exact own_set_other (own_set_other (own_set_other h2 hA9 (by decide) _) (hA9.set 0 _) (by decide) _) ((hA9.set 0 _).set 1 _) (by decide) _⟩
              | 8, h => exact h
              | 9, ⟨b, h1, h2, _, _⟩ => rw [e9] at h1; cases h1; exact ⟨g9, e9, h2, fun hb => (by rw [hset] at hb; cases hb), fun _ => ⟨A1, c1, by rw [hW']; exact ((hA9.set 0 _).set 1 _).set 2 _, by rw [hW']; exact own_set_other (own_set_other (own_set_other o7 hA9 (by decide) _) (hA9.set 0 _) (by decide) _) ((hA9.set 0 _).set 1 _) (by decide) _⟩⟩
              | 10, _ => exact hset
              | 11, h => exact h
              | (k + 12), h => exact h
          refine localsQ_ord (by decide) (fun bs u W hbs hW hno hd => ?_) localsQ_nil
          · have h8 : u 8 = _ := hd 8 (by kernel_rfl)
            exact leaves_val rfl (v := .int .i64 er) (by go_simp) rfl
        · intro u W7 E7 hV
          obtain ⟨g9, h9, hg9, _, hr9⟩ := hV 9 (by decide)
          obtain ⟨A1, c1, A7, O7⟩ := hr9 rfl
          have h11 : u 11 = _ := hV 11 (by decide)
          have cu7 := cu0.ext E7 hgl
          have re7 := hre.ext E7 hre.lt
          have F7 := hEx.tr E7
          have hs7 := E7.size
          have hsr := hEx.size
          clear hV hr9 cA q E7 cu0 hre hEx
          go_simp
          by_cases her : er = 0
          · subst her
            have hyl2 := hyl.out rfl
            have hres3 := Kp.mk (show addsL ⟨yi, yl, yt⟩ (ls.drop (j + 1)) = R by have h := hres2.out; rw [if_pos rfl] at h; exact h)
            have r0 := A7.cell 0; have r1 := A7.cell 1; have r2 := A7.cell 2
            have q0 := cu7.cell 0; have q1 := cu7.cell 1; have q2 := cu7.cell 2
            have z0 := cu7.frozen 0; have z1 := cu7.frozen 1; have z2 := cu7.frozen 2
            simp only [List.getElem?_cons_zero, List.getElem?_cons_succ] at r0 r1 r2 q0 q1 q2
            have S4 : DisSt w (((W7.setCell ⟨w2.heap.size, 0, none⟩ (.string (ofL yi))).setCell ⟨w2.heap.size, 1, none⟩ (.slice A1 ny c1)).setCell ⟨w2.heap.size, 2, none⟩ (.string (ofL yt))) w2.heap.size ⟨yi, yt, A1, c1, yl⟩ := by
              refine ⟨((F7.st (p := ⟨w2.heap.size, 0, none⟩) (by show w.heap.size ≤ w2.heap.size; omega) _).st (p := ⟨w2.heap.size, 1, none⟩) (by show w.heap.size ≤ w2.heap.size; omega) _).st (p := ⟨w2.heap.size, 2, none⟩) (by show w.heap.size ≤ w2.heap.size; omega) _,
                ((re7.other _ (by omega)).other _ (by omega)).other _ (by omega), ?_, ?_⟩
              · dsimp only; rw [HNY.out]; exact ((cu7.set 0 _).set 1 _).set 2 _
              · dsimp only
                rw [HNY.out]
                exact own_more (own_set_other (own_set_other (own_set_other O7 cu7 (by decide) _) (cu7.set 0 _) (by decide) _) ((cu7.set 0 _).set 1 _) (by decide) _) (by omega)
            clear A7 O7 cu7 re7 F7 hyl hres2
            go_wp2
            go_roundw
            case rel => exact ⟨j + 1, ⟨yi, yt, A1, c1, yl⟩, by omega, by go_num, hyl2.1, hyl2.2, hres3.out, S4⟩
            case measure => simp [intOf]; omega
          · have hres3 := Kp.mk (show (tok0, er) = R by have h := hres2.out; rw [if_neg her] at h; exact h)
            have d : ((er : Int) != 0) = true := by simp; omega
            have q0 := re7.cell 0; have q1 := re7.cell 1; have q2 := re7.cell 2
            have z0 := re7.frozen 0; have z1 := re7.frozen 1; have z2 := re7.frozen 2
            simp only [List.getElem?_cons_zero, List.getElem?_cons_succ] at q0 q1 q2
            clear A7 O7 cu7 hyl hres2 her
            go_wp2
            rw [← hres3.out]
            exact ret_tok (r := (tok0, er)) rfl rfl rfl re7 (by omega) F7 (Nat.lt_succ_self _) (World.ownsRow_nil _ _ _ _)
      · have hR3 := Kp.mk (show (⟨⟨xi, xl, xt⟩, 0⟩ : TokL × Nat) = R by
          have h := hres.out
          rw [List.drop_eq_nil_of_le (by omega)] at h
          exact h)
        have cu := hS.cur
        have re := hS.res
        have ow := hS.own
        have F1 := hS.ext
        dsimp only at cu ow
        obtain ⟨nx, hnx⟩ : ∃ nx, xl.length = nx := ⟨_, rfl⟩
        rw [hnx] at cu ow
        have HNX := Kp.mk hnx
        have r0 := cu.cell 0; have r1 := cu.cell 1; have r2 := cu.cell 2
        have q0 := re.cell 0; have q1 := re.cell 1; have q2 := re.cell 2
        have z0 := re.frozen 0; have z1 := re.frozen 1; have z2 := re.frozen 2
        simp only [List.getElem?_cons_zero, List.getElem?_cons_succ] at r0 r1 r2 q0 q1 q2
        clear hS hres cu hnx
        go_wp2
        rw [← hR3.out]
        exact ret_tok (r := (⟨xi, xl, xt⟩, 0)) rfl rfl rfl re (by omega) F1 (show w.heap.size < w.heap.size + 1 by omega) (own_eq ow rfl HNX.out.symm)
  · have hr2 := Kp.mk (herr.out hx)
    have d : ((x : Int) != 0) = true := by simp; omega
    clear herr hok hx
    go_enter Tryz.func14, Tryz.ntmps14
    go_upto_region 1 with fail
    rw [HW.out]
    go_wp2_with fail
    refine cR.out.mono ?_
    rintro e w1 ⟨rfl, E1⟩
    have hA := B1.ext E1 B1.lt
    have F1 := E0.tr E1
    have q0 := hA.cell 0; have q1 := hA.cell 1; have q2 := hA.cell 2
    have z0 := hA.frozen 0; have z1 := hA.frozen 1; have z2 := hA.frozen 2
    simp only [List.getElem?_cons_zero, List.getElem?_cons_succ] at q0 q1 q2
    clear B1 E0 E1 HW cR
    go_wp2
    rw [hr2.out]
    exact ret_tok (r := (tok0, x)) rfl rfl rfl hA (by omega) F1 (Nat.lt_succ_self _) (World.ownsRow_nil _ _ _ _)
end Go.Proofs.YtejhiekikblbiaaGreatDoor
