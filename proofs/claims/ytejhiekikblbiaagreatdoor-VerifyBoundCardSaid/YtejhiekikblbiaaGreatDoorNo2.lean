/-
  Package notary: Discharge. Conditions: the package's table holds the constants; texts of at most 100000 bytes.
-/
import Derived.Test.YtejhiekikblbiaaGreatDoorNo1
import Derived.WalkMore
import Derived.Outline
namespace Go.Proofs.YtejhiekikblbiaaGreatDoor
open Go.RowKit

/-- A new box of a token. -/
theorem tokbox (w : World) (a b c : Value) : ∃ V, w.alloc (.cells #[a, b, c] 33) = V ∧ Ext w V ∧ Arr V w.heap.size 33 [a, b, c] := ⟨_, rfl, (Ext.rfl' w).al _, Arr.new w _ [a, b, c]⟩
theorem addsL_cons (t : TokL) (c : List UInt8) (r : List (List UInt8)) : addsL t (c :: r) = if (addL t c).2 = 0 then addsL (addL t c).1 r else (tok0, (addL t c).2) := rfl
theorem addL_cases (t : TokL) (c : List UInt8) : (t.links.length < 64 ∧ addL t c = (withL t (c, []), 0)) ∨ addL t c = (tok0, 3) := by
  by_cases h1 : 64 ≤ t.links.length
  · exact .inr (addL_limit (.inl h1))
  · by_cases h2 : 2048 < c.length
    · exact .inr (addL_limit (.inr h2))
    · exact .inl ⟨by omega, addL_ok (by omega) (by omega)⟩
theorem dischargeR_err {m s : List UInt8} {l : List (List UInt8)} (h : (readR m s).2.2 ≠ 0) : dischargeR m s l = (tok0, (readR m s).2.2) := by unfold dischargeR; rw [if_neg h]
theorem dischargeR_ok {m s : List UInt8} {l : List (List UInt8)} (h : (readR m s).2.2 = 0) : dischargeR m s l = addsL ⟨s, [], rootL (readR m s).1 s⟩ l := by unfold dischargeR; rw [if_pos h]
theorem readR_bound (m s : List UInt8) : (readR m s).1.length ≤ s.length := by
  have hb := openR_bound m s
  unfold readR
  split
  · split
    · rename_i a b h
      have h2 := frame_split _ _ _ (Nat.le_refl _) h
      have h3 := len_two a b
      rw [h2] at h3
      dsimp only
      omega
    · simp
  · simp
/-- While caveats are added: the result's block, the token's. -/
structure DisSt (w W : World) (g : Nat) (X : TokA) : Prop where
  ext : Ext w W
  res : Arr W w.heap.size 33 [.string ⟨#[]⟩, .slice none 0 0, .string ⟨#[]⟩]
  cur : Arr W g 33 [.string (ofL X.id), .slice X.A X.l.length X.c, .string (ofL X.tag)]
  own : W.ownsRow (w.heap.size + 1) 72 2 (.slice X.A X.l.length X.c) X.l.length (linkCells X.l)

set_option maxRecDepth 100000 in
set_option maxHeartbeats 4000000 in
theorem discharge_any (m s : List UInt8) (As : Option Addr) (cs : Nat) (ls : List (List UInt8)) (w : World) (hT : Tab w) (hm : m.length ≤ 100000) (hs : s.length ≤ 100000) (hr : Rd w w.heap.size 1 (.slice As ls.length cs) ls.length (ls.map Str)) (hls : ∀ x ∈ ls, x.length ≤ 100000) :
    Calls Tryz.prog 13 #[.string (ofL m), .string (ofL s), .slice As ls.length cs] w (TokNew w (dischargeR m s ls)) := by
  obtain ⟨W0, hW0, E0, B1⟩ := tokbox w (.string ⟨#[]⟩) (.slice none 0 0) (.string ⟨#[]⟩)
  have cR := Kp.mk (read_any m s W0 (hT.ext E0) hm hs)
  have HW := Kp.mk hW0
  obtain ⟨As', cs', e, hsm, _, hsc⟩ := hr
  cases e
  have HC := Kp.mk hsc
  have HLS := Kp.mk hls
  clear hW0 hsc hls
  have herr := Kp.mk (fun h => dischargeR_err (m := m) (s := s) (l := ls) h)
  have hok := Kp.mk (fun h => dischargeR_ok (m := m) (s := s) (l := ls) h)
  have hkb := readR_bound m s
  obtain ⟨R, hR⟩ : ∃ R, dischargeR m s ls = R := ⟨_, rfl⟩
  rw [hR] at herr hok ⊢
  obtain ⟨rd, hrd⟩ : ∃ rd, readR m s = rd := ⟨_, rfl⟩
  rw [hrd] at cR herr hok hkb
  obtain ⟨k, t, x⟩ := rd
  unfold readV at cR
  dsimp only at cR herr hok hkb
  clear hR hrd
  by_cases hx : x = 0
  · subst hx
    have hR2 := Kp.mk (hok.out rfl)
    obtain ⟨T0, hT0⟩ : ∃ T0, rootL k s = T0 := ⟨_, rfl⟩
    have lT0 : T0.length = 32 := by rw [← hT0]; exact length_partsL _ _
    have cT := Kp.mk (show ∀ W, Tab W → Calls Tryz.prog 24 #[.string (ofL k), .string (ofL s)] W fun e w' => e = .returned (.string (ofL T0)) ∧ Ext W w' from fun W h => by rw [← hT0]; exact root_any k s W h (by omega) hs)
    rw [hT0] at hR2
    clear herr hok hT0
    go_enter Tryz.func13, Tryz.ntmps13
    go_wp2_with fail
    go_step3
    go_wp2_with fail
    rw [HW.out]
    refine cR.out.mono ?_
    rintro e w1 ⟨rfl, E1⟩
    have F1 := E0.tr E1
    have C1 := B1.ext E1 B1.lt
    go_wp2_with fail
    refine (cT.out _ (hT.ext F1)).mono ?_
    rintro e w2 ⟨rfl, E2⟩
    have F2 := F1.tr E2
    have C2 := C1.ext E2 C1.lt
    obtain ⟨W3, hW3, E3, B3⟩ := tokbox w2 (.string (ofL s)) (.slice none 0 0) (.string (ofL T0))
    have S0 : DisSt w W3 w2.heap.size ⟨s, T0, none, 0, []⟩ := ⟨F2.tr E3, C2.ext E3 C2.lt, B3, World.ownsRow_nil _ _ _ _⟩
    have hg : w.heap.size < w2.heap.size := C2.lt
    have HW3 := Kp.mk hW3
    clear hW3 B1 E0 E1 F1 C1 E2 F2 C2 E3 B3 HW cR cT
    go_wp2_with fail
    rw [HW3.out]
    go_step3
    go_wp2_with fail
    go_loopw [32, 10] (fun i ee wr => ∃ (j : Nat) (X : TokA), j ≤ ls.length ∧ i = .int .i64 j ∧ ee = .int .i64 0 ∧ X.l.length ≤ 64 ∧ X.tag.length ≤ 100 ∧ addsL X.plain (ls.drop j) = R ∧ DisSt w wr w2.heap.size X) (fun i _ _ => ls.length - (intOf i).toNat)
    case atStart => exact ⟨0, ⟨s, T0, none, 0, []⟩, by omega, rfl, rfl, by simp, by dsimp only; omega, hR2.out.symm, S0⟩
    case round =>
      clear S0 HW3 lT0
      obtain ⟨j, X, hj, rfl, rfl, hx64, hxt, hres0, hS⟩ := hrel
      have hres := Kp.mk hres0
      clear hres0
      obtain ⟨xi, xt, XA, xc, xl⟩ := X
      dsimp only at hx64 hxt
      by_cases hlt : j < ls.length
      · obtain ⟨bk, ok, rfl, hbk, hc⟩ := HC.out (by omega)
        obtain ⟨c, hcj⟩ : ∃ c, ls[j] = c := ⟨_, rfl⟩
        have q := ((bcell hS.ext).1 bk (ok + j) hbk).trans (hc j (.string (ofL c)) (by rw [List.getElem?_map, List.getElem?_eq_getElem hlt, hcj]; rfl))
        have hcl : c.length ≤ 100000 := by rw [← hcj]; exact HLS.out _ (List.getElem_mem hlt)
        have hdrop : ls.drop j = c :: ls.drop (j + 1) := by rw [List.drop_eq_getElem_cons hlt, hcj]
        have hres2 := Kp.mk (show (if (addL ⟨xi, xl, xt⟩ c).2 = 0 then addsL (addL ⟨xi, xl, xt⟩ c).1 (ls.drop (j + 1)) else (tok0, (addL ⟨xi, xl, xt⟩ c).2)) = R by
          have h := hres.out
          rw [hdrop, addsL_cons] at h
          exact h)
        have cA := Kp.mk (hoadd_any xi xt c XA xc xl wr (hT.ext hS.ext) (own_links hS.own rfl) (by omega) (by omega) hcl)
        unfold tokV at cA
        have cu := hS.cur
        dsimp only at cu
        obtain ⟨nx, hnx⟩ : ∃ nx, xl.length = nx := ⟨_, rfl⟩
        rw [hnx] at cu cA
        have q0 := cu.cell 0; have q1 := cu.cell 1; have q2 := cu.cell 2
        simp only [List.getElem?_cons_zero, List.getElem?_cons_succ] at q0 q1 q2
        have hEx := hS.ext
        have hre := hS.res
        have hgl := cu.lt
        have HNX := Kp.mk hnx
        clear hc hcj hdrop hS hres hnx
        rcases addL_cases ⟨xi, xl, xt⟩ c with ⟨h64, hA⟩ | hA
        · rw [hA] at cA hres2
          have hres3 := Kp.mk (show addsL (withL ⟨xi, xl, xt⟩ (c, [])) (ls.drop (j + 1)) = R by have h := hres2.out; rw [if_pos rfl] at h; exact h)
          have h64 : xl.length < 64 := h64
          clear hres2 hA
          go_wp2_with fail
          refine cA.out.mono ?_
          rintro e w3 ⟨v, rfl, own, E3⟩
          have hl1 : (withL ⟨xi, xl, xt⟩ (c, [])).links.length = nx + 1 := by simp [withL, HNX.out]
          dsimp only at own
          rw [hl1] at own
          obtain ⟨g9, c9, rfl⟩ := ownsRow_succ own
          have cu3 := cu.ext E3 hgl
          have re3 := hre.ext E3 hre.lt
          have F3 := hEx.tr E3
          have lg := hEx.size
          dsimp only [tokV, withL]
          obtain ⟨Y, hY⟩ : ∃ Y, nextL xt (c, []) = Y := ⟨_, rfl⟩
          have lY : Y.length = 32 := by rw [← hY]; exact length_partsL _ _
          have HY := Kp.mk hY
          rw [hY]
          have hlx : (xl ++ [(c, ([] : List UInt8))]).length = nx + 1 := hl1
          have S4 : DisSt w (((w3.setCell ⟨w2.heap.size, 0, none⟩ (.string (ofL xi))).setCell ⟨w2.heap.size, 1, none⟩ (.slice (some ⟨g9, 0, none⟩) (nx + 1) c9)).setCell ⟨w2.heap.size, 2, none⟩ (.string (ofL Y))) w2.heap.size ⟨xi, Y, some ⟨g9, 0, none⟩, c9, xl ++ [(c, [])]⟩ := by
            refine ⟨((F3.st (p := ⟨w2.heap.size, 0, none⟩) (by show w.heap.size ≤ w2.heap.size; omega) _).st (p := ⟨w2.heap.size, 1, none⟩) (by show w.heap.size ≤ w2.heap.size; omega) _).st (p := ⟨w2.heap.size, 2, none⟩) (by show w.heap.size ≤ w2.heap.size; omega) _,
              ((re3.other _ (by omega)).other _ (by omega)).other _ (by omega), ?_, ?_⟩
            · dsimp only; rw [hlx]; exact ((cu3.set 0 _).set 1 _).set 2 _
            · dsimp only
              rw [hlx]
              exact own_more (own_set_other (own_set_other (own_set_other own cu3 (by decide) _) (cu3.set 0 _) (by decide) _) ((cu3.set 0 _).set 1 _) (by decide) _) (by omega)
          have hx65 : (xl ++ [(c, ([] : List UInt8))]).length ≤ 64 := by rw [List.length_append, List.length_singleton]; omega
          have hres4 := Kp.mk (show addsL ⟨xi, xl ++ [(c, [])], Y⟩ (ls.drop (j + 1)) = R by rw [← HY.out]; exact hres3.out)
          clear q0 q1 q2 own hY hl1 hlx
          have q0 := cu3.cell 0; have q1 := cu3.cell 1; have q2 := cu3.cell 2
          have z0 := cu3.frozen 0; have z1 := cu3.frozen 1; have z2 := cu3.frozen 2
          simp only [List.getElem?_cons_zero, List.getElem?_cons_succ] at q0 q1 q2
          clear cu cu3 re3 hre hEx E3 F3 cA
          go_wp2
          go_roundw
          case rel => exact ⟨j + 1, ⟨xi, Y, some ⟨g9, 0, none⟩, c9, xl ++ [(c, [])]⟩, by omega, by go_num, rfl, hx65, by dsimp only; omega, hres4.out, S4⟩
          case measure => simp [intOf]; omega
        · rw [hA] at cA hres2
          have hres3 := Kp.mk (show (tok0, 3) = R by have h := hres2.out; rw [if_neg (by decide)] at h; exact h)
          clear hres2 hA
          go_wp2_with fail
          refine cA.out.mono ?_
          rintro e w3 ⟨v, rfl, own, E3⟩
          have hv : v = .slice none 0 0 ∨ ∃ A c, v = .slice A 0 c := by
            obtain ⟨A, c, h⟩ := own_slice own
            exact .inr ⟨A, c, h⟩
          obtain ⟨A9, c9, rfl⟩ := own_slice own
          have cu3 := cu.ext E3 hgl
          have re3 := hre.ext E3 hre.lt
          have F3 := hEx.tr E3
          have lg := hEx.size
          dsimp only [tokV, tok0]
          clear q0 q1 q2 own hv
          have q0 := cu3.cell 0; have q1 := cu3.cell 1; have q2 := cu3.cell 2
          have z0 := cu3.frozen 0; have z1 := cu3.frozen 1; have z2 := cu3.frozen 2
          simp only [List.getElem?_cons_zero, List.getElem?_cons_succ] at q0 q1 q2
          have hne : w.heap.size ≠ w2.heap.size := by omega
          go_upto_region 13 with fail
          obtain ⟨W4, hW4⟩ : ∃ W4 : World, W4 = ((w3.setCell ⟨w2.heap.size, 0, none⟩ (.string (ofL []))).setCell ⟨w2.heap.size, 1, none⟩ (.slice A9 0 c9)).setCell ⟨w2.heap.size, 2, none⟩ (.string (ofL [])) := ⟨_, rfl⟩
          rw [← hW4]
          have hA : Arr W4 w.heap.size 33 [.string ⟨#[]⟩, .slice none 0 0, .string ⟨#[]⟩] := by rw [hW4]; exact ((re3.other _ hne).other _ hne).other _ hne
          have F4 : Ext w W4 := by rw [hW4]; exact ((F3.st (p := ⟨w2.heap.size, 0, none⟩) (by show w.heap.size ≤ w2.heap.size; omega) _).st (p := ⟨w2.heap.size, 1, none⟩) (by show w.heap.size ≤ w2.heap.size; omega) _).st (p := ⟨w2.heap.size, 2, none⟩) (by show w.heap.size ≤ w2.heap.size; omega) _
          clear q0 q1 q2 z0 z1 z2 cu cu3 re3 hre hEx E3 cA F3 hW4 q
          have q0 := hA.cell 0; have q1 := hA.cell 1; have q2 := hA.cell 2
          have z0 := hA.frozen 0; have z1 := hA.frozen 1; have z2 := hA.frozen 2
          simp only [List.getElem?_cons_zero, List.getElem?_cons_succ] at q0 q1 q2
          go_wp2
          rw [Exit.noGoto_ret, ← hres3.out]
          exact ret_tok (r := (tok0, 3)) rfl rfl rfl hA (by omega) F4 (Nat.lt_succ_self _) (World.ownsRow_nil _ _ _ _)
      · have hR3 := Kp.mk (show (⟨⟨xi, xl, xt⟩, 0⟩ : TokL × Nat) = R by
          have h := hres.out
          rw [List.drop_eq_nil_of_le (by omega)] at h
          exact h)
        have cu := hS.cur
        have re := hS.res
        have ow := hS.own
        have F1 := hS.ext
        dsimp only at cu ow
        obtain ⟨nx, hnx⟩ : ∃ nx, xl.length = nx := ⟨_, rfl⟩
        rw [hnx] at cu ow
        have HNX := Kp.mk hnx
        have r0 := cu.cell 0; have r1 := cu.cell 1; have r2 := cu.cell 2
        have q0 := re.cell 0; have q1 := re.cell 1; have q2 := re.cell 2
        have z0 := re.frozen 0; have z1 := re.frozen 1; have z2 := re.frozen 2
        simp only [List.getElem?_cons_zero, List.getElem?_cons_succ] at r0 r1 r2 q0 q1 q2
        clear hS hres cu hnx
        go_wp2
        rw [Exit.noGoto_ret, ← hR3.out]
        exact ret_tok (r := (⟨xi, xl, xt⟩, 0)) rfl rfl rfl re (by omega) F1 (show w.heap.size < w.heap.size + 1 by omega) (own_eq ow rfl HNX.out.symm)
  · have hr2 := Kp.mk (herr.out hx)
    have d : ((x : Int) != 0) = true := by simp; omega
    clear herr hok hx
    go_enter Tryz.func13, Tryz.ntmps13
    go_wp2_with fail
    go_step3
    go_wp2_with fail
    rw [HW.out]
    refine cR.out.mono ?_
    rintro e w1 ⟨rfl, E1⟩
    have hA := B1.ext E1 B1.lt
    have F1 := E0.tr E1
    have q0 := hA.cell 0; have q1 := hA.cell 1; have q2 := hA.cell 2
    have z0 := hA.frozen 0; have z1 := hA.frozen 1; have z2 := hA.frozen 2
    simp only [List.getElem?_cons_zero, List.getElem?_cons_succ] at q0 q1 q2
    clear B1 E0 E1 HW cR
    go_wp2
    rw [hr2.out]
    exact ret_tok (r := (tok0, x)) rfl rfl rfl hA (by omega) F1 (Nat.lt_succ_self _) (World.ownsRow_nil _ _ _ _)
end Go.Proofs.YtejhiekikblbiaaGreatDoor
