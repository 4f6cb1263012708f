/-
  Package verify: Verify; chapter 37's examples hold. Condition: the package's table holds the constants.
-/
import Derived.Test.YtejhiekikblbiaaDoorVe5
import Derived.Test.YtejhiekikblbiaaDoorMgJ
namespace Go.Proofs.YtejhiekikblbiaaDoor
open Go.RowKit

/-- What is told. -/
def toldL (r : PrL × Nat) : List (List UInt8) := if r.2 = 0 then r.1.texts else []
def VerPost (w : World) (r : PrL × Nat) (e : Ending) (w' : World) : Prop := ∃ v, e = .returned (.tuple #[v, .int .i64 r.2]) ∧ w'.ownsRow w.heap.size 9 1 v (toldL r).length ((toldL r).map Str) ∧ Ext w w'
set_option maxRecDepth 100000 in
set_option maxHeartbeats 4000000 in
theorem verify_any (k id tag : List UInt8) (A : Option Addr) (c : Nat) (l : List LinkL) (Am : Option Addr) (cm : Nat) (more : List TokA) (w : World) (hT : Tab w) (hl : RdLinks w w.heap.size (.slice A l.length c) l) (hm : RdToks w w.heap.size (.slice Am more.length cm) more) (hk : k.length ≤ 10000) (ht : OkT ⟨id, tag, A, c, l⟩) (hml : ∀ d ∈ more, OkT d) (hn : more.length ≤ 10000) :
    Calls Tryd.prog 39 #[.string (ofL k), bunV id (.slice A l.length c) tag (.slice Am more.length cm)] w (VerPost w (proveL k ⟨id, l, tag⟩ (more.map TokA.plain))) := by
  obtain ⟨W0, hW0, E0, B1⟩ := bun_box w (.string (ofL id)) (.slice A l.length c) (.string (ofL tag)) (.slice Am more.length cm)
  have cR := Kp.mk (vrun_any k id tag A c l Am cm more W0 (hT.ext E0) (rd_at hl E0) (hm.at E0) hk ht hml hn)
  obtain ⟨X, hX⟩ : ∃ X, proveL k ⟨id, l, tag⟩ (more.map TokA.plain) = X := ⟨_, rfl⟩
  rw [hX] at cR ⊢
  have HW := Kp.mk hW0
  obtain ⟨Xs, x⟩ := X
  unfold VerPost toldL
  unfold bunV at *
  dsimp only
  clear hW0 hX hl hm ht hml
  by_cases hx : x = 0
  · subst hx
    go_enter Tryd.func39, Tryd.ntmps39
    go_wp2_with fail
    rw [HW.out]
    refine cR.out.mono ?_
    rintro e w1 ⟨g, L, vu, vl, vt, rfl, S⟩
    dsimp only at S
    have q6 := S.box.cell 6
    rw [(prCells_get _ _ _ _ _ _).2.2.2.2.2.2.1] at q6
    obtain ⟨At, ct, rfl⟩ := own_slice S.texts
    have own := S.texts
    have F1 := E0.tr S.ext
    have hs := E0.size
    clear S cR HW B1
    go_wp2
    exact bodyPost_ret (v := .tuple #[.slice At Xs.texts.length ct, .int .i64 0]) (by simp [results, Tryd.results39, go_sem]) rfl ⟨_, rfl, own_more own hs, F1⟩
  · have d : ((x : Int) != 0) = true := by simp; omega
    rw [if_neg hx]
    go_enter Tryd.func39, Tryd.ntmps39
    go_wp2_with fail
    rw [HW.out]
    refine cR.out.mono ?_
    rintro e w1 ⟨g, L, vu, vl, vt, rfl, S⟩
    dsimp only at S
    have F1 := E0.tr S.ext
    clear S cR HW B1 hx
    go_wp2
    exact bodyPost_ret (v := .tuple #[.slice none 0 0, .int .i64 x]) (by simp [results, Tryd.results39, go_sem]) rfl ⟨_, rfl, World.ownsRow_nil _ _ _ _, F1⟩

def b9T : List UInt8 := [98, 101, 102, 111, 114, 101, 32, 57]
theorem head_not_x : (lastL [107] [97] [(b9T, [])]).head? ≠ some 120 := by decide +kernel
theorem nil_links (w : World) (A : Option Addr) (c : Nat) : RdLinks w w.heap.size (.slice A 0 c) [] := ⟨A, c, rfl, by decide, rfl, fun h => absurd h (by decide)⟩
theorem nil_toks (w : World) (A : Option Addr) (c : Nat) : RdToks w w.heap.size (.slice A 0 c) [] := ⟨⟨A, c, rfl, by decide, rfl, fun h => absurd h (by decide)⟩, fun t h => by cases h⟩
set_option maxRecDepth 100000 in
set_option maxHeartbeats 4000000 in
theorem veworks_any (w : World) (hT : Tab w) : Calls Tryd.prog 38 #[] w fun e w' => e = .returned (.bool true) ∧ Ext w w' := by
  have hne := head_not_x
  have hon := (Hon.own b9T (Hon.nil (k := [107]) (id := [97]))).prove (by decide) (by simp [withL]) (by simp)
  obtain ⟨R, hR⟩ : ∃ R, rootL [107] [97] = R := ⟨_, rfl⟩
  have lR : R.length = 32 := by rw [← hR]; exact length_partsL _ _
  obtain ⟨T, hTt⟩ : ∃ T, nextL R (b9T, []) = T := ⟨_, rfl⟩
  have lT : T.length = 32 := by rw [← hTt]; exact length_partsL _ _
  have hla : lastL [107] [97] [(b9T, [])] = T := by rw [← hTt, ← hR]; rfl
  have hw : withL ⟨[97], [], rootL [107] [97]⟩ (b9T, []) = ⟨[97], [(b9T, [])], T⟩ := by rw [hR]; unfold withL; dsimp only; rw [hTt]; rfl
  rw [hla] at hne
  rw [hw] at hon
  obtain ⟨T2, hT2⟩ : ∃ T2, 120 :: T.drop 1 = T2 := ⟨_, rfl⟩
  have hTn : lastL [107] [97] [(b9T, [])] ≠ T2 := by
    rw [hla, ← hT2]
    intro h
    rw [h] at hne
    exact hne rfl
  have lT2 : T2.length = 32 := by rw [← hT2, List.length_cons, List.length_drop, lT]
  have hp8 : proveL [107] ⟨[97], [(b9T, [])], T2⟩ [] = (⟨[], [], [], 2, textsL [107] [97] [(b9T, [])]⟩, 8) := prove_tag8 rfl hTn
  have cR := Kp.mk (show Calls Tryd.prog 41 #[.string ⟨#[107]⟩, .string ⟨#[97]⟩] w fun e w' => e = .returned (.string (ofL R)) ∧ Ext w w' from by rw [← hR]; exact root_any [107] [97] w hT (by decide) (by decide))
  have cA := Kp.mk (show ∀ W, Tab W → Calls Tryd.prog 24 #[.agg #[.string ⟨#[97]⟩, .slice none 0 0, .string (ofL R)], .string ⟨#[98, 101, 102, 111, 114, 101, 32, 57]⟩] W fun e w' => ∃ v, e = .returned (.tuple #[.agg #[.string ⟨#[97]⟩, v, .string (ofL T)], .int .i64 0]) ∧ w'.ownsRow W.heap.size 52 2 v 1 (linkCells [(b9T, [])]) ∧ Ext W w' from fun W h => by
    have h := hoadd_any [97] R b9T none 0 [] W h (nil_links W none 0) (by decide) (by omega) (by decide)
    rw [addL_ok (by simp) (by decide)] at h
    refine h.mono fun e w' ⟨v, h1, h2, h3⟩ => ⟨v, by rw [h1]; unfold withL tokV; dsimp only; rw [hTt]; rfl, h2, h3⟩)
  have cV := Kp.mk (show ∀ (A : Option Addr) (c : Nat) (W : World), Tab W → RdLinks W W.heap.size (.slice A 1 c) [(b9T, [])] → Calls Tryd.prog 39 #[.string ⟨#[107]⟩, .agg #[.string ⟨#[97]⟩, .slice A 1 c, .string (ofL T), .slice none 0 0]] W fun e w' => ∃ v, e = .returned (.tuple #[v, .int .i64 0]) ∧ w'.ownsRow W.heap.size 9 1 v 1 [.string ⟨#[98, 101, 102, 111, 114, 101, 32, 57]⟩] ∧ Ext W w' from fun A c W h1 h2 => by
    have h := verify_any [107] [97] T A c [(b9T, [])] none 0 [] W h1 h2 (nil_toks W none 0) (by decide) ⟨by simp, by dsimp only; omega, by intro x hx; simp at hx; rw [hx]; decide, by simp⟩ (by simp) (by decide)
    obtain ⟨ha, hb⟩ := hon
    have hX : proveL [107] ⟨[97], [(b9T, [])], T⟩ (boundM T []) = proveL [107] ⟨[97], [(b9T, [])], T⟩ (([] : List TokA).map TokA.plain) := rfl
    dsimp only at ha hb
    rw [hX] at ha hb
    refine h.mono fun e w' ⟨v, h1, h2, h3⟩ => ?_
    unfold toldL at h2
    rw [if_pos ha, hb] at h2
    rw [ha] at h1
    exact ⟨v, h1, h2, h3⟩)
  have cV2 := Kp.mk (show ∀ (A : Option Addr) (c : Nat) (W : World), Tab W → RdLinks W W.heap.size (.slice A 1 c) [(b9T, [])] → Calls Tryd.prog 39 #[.string ⟨#[107]⟩, .agg #[.string ⟨#[97]⟩, .slice A 1 c, .string (ofL T2), .slice none 0 0]] W fun e w' => ∃ v, e = .returned (.tuple #[v, .int .i64 8]) ∧ Ext W w' from fun A c W h1 h2 => by
    have h := verify_any [107] [97] T2 A c [(b9T, [])] none 0 [] W h1 h2 (nil_toks W none 0) (by decide) ⟨by simp, by dsimp only; omega, by intro x hx; simp at hx; rw [hx]; decide, by simp⟩ (by simp) (by decide)
    rw [show proveL [107] ⟨[97], [(b9T, [])], T2⟩ (([] : List TokA).map TokA.plain) = _ from hp8] at h
    refine h.mono fun e w' ⟨v, h1, _, h3⟩ => ⟨v, h1, h3⟩)
  have zT : (ofL T).size = 32 := by rw [size_ofL, lT]
  have ex : (ofL T).extract 1 32 = ofL (T.drop 1) := by rw [ofL_extract]; congr 1; rw [List.take_of_length_le (by rw [List.length_drop]; omega)]
  have ap : (⟨#[120]⟩ : ByteArray) ++ ofL (T.drop 1) = ofL T2 := by rw [← hT2]; exact ofL_append [120] (T.drop 1)
  have hmn : (⟨#[120]⟩ : ByteArray) ++ (ofL T).extract (min (1 : Int) 32).toNat 32 = ofL T2 := by rw [show (min (1 : Int) 32).toNat = 1 from by decide, ex, ap]
  have z1 : (ofL (T.drop 1)).size = 31 := by rw [size_ofL, List.length_drop, lT]
  clear hne hon hR hTt hla hw hT2 hTn hp8
  go_enter Tryd.func38, Tryd.ntmps38
  go_wp2_with fail
  refine cR.out.mono ?_
  rintro e w1 ⟨rfl, E1⟩
  go_wp2_with fail
  refine (cA.out _ (hT.ext E1)).mono ?_
  rintro e w2 ⟨v, rfl, own, E2⟩
  obtain ⟨g, c9, rfl⟩ := ownsRow_succ own
  have F2 := E1.tr E2
  obtain ⟨W3, hW3⟩ : ∃ W3 : World, W3 = w2.alloc (.cells #[.string ⟨#[97]⟩, .slice (some ⟨g, 0, none⟩) 1 c9, .string (ofL T)] 24) := ⟨_, rfl⟩
  have E3 : Ext w2 W3 := by rw [hW3]; exact (Ext.rfl' w2).al _
  have B3 : Arr W3 w2.heap.size 24 [.string ⟨#[97]⟩, .slice (some ⟨g, 0, none⟩) 1 c9, .string (ofL T)] := by rw [hW3]; exact Arr.new w2 _ _
  have L3 : RdLinks W3 W3.heap.size (.slice (some ⟨g, 0, none⟩) 1 c9) [(b9T, [])] := rd_at (own_links (l := [(b9T, [])]) own rfl) E3
  have F3 := F2.tr E3
  have hg3 : w2.heap.size ≠ g := by have := (own.lt g rfl).2; omega
  have lk3 : ∀ W, Ext W3 W → Arr W w2.heap.size 24 [.string ⟨#[97]⟩, .slice (some ⟨g, 0, none⟩) 1 c9, .string (ofL T)] := fun W h => B3.ext h B3.lt
  have OW := Kp.mk (own_ext own (fun j _ hj => E3.block j hj))
  have HW3 := Kp.mk hW3
  clear own cR cA E1 E2 hW3
  go_upto_region 2 with fail
  rw [← HW3.out]
  have q0 := B3.cell 0; have q1 := B3.cell 1; have q2 := B3.cell 2
  simp only [List.getElem?_cons_zero, List.getElem?_cons_succ] at q0 q1 q2
  go_wp2_with fail
  refine (cV.out _ _ _ (hT.ext F3) L3).mono ?_
  rintro e w4 ⟨v4, rfl, own4, E4⟩
  obtain ⟨g4, c4, rfl⟩ := ownsRow_succ own4
  have B4 := lk3 w4 E4
  have F4 := F3.tr E4
  have OW4 := own_ext OW.out (fun j _ hj => E4.block j hj)
  have hg4 : w2.heap.size ≠ g4 := by have := (own4.lt g4 rfl).1; have := B3.lt; omega
  clear q0 q1 q2 lk3 cV E3 HW3 L3
  have q0 := B4.cell 0; have q1 := B4.cell 1; have q2 := B4.cell 2
  have z2 := B4.frozen 2
  simp only [List.getElem?_cons_zero, List.getElem?_cons_succ] at q0 q1 q2
  obtain ⟨W5, hW5⟩ : ∃ W5 : World, W5 = w4.setCell ⟨w2.heap.size, 2, none⟩ (.string (ofL T2)) := ⟨_, rfl⟩
  have B5 : Arr W5 w2.heap.size 24 [.string ⟨#[97]⟩, .slice (some ⟨g, 0, none⟩) 1 c9, .string (ofL T2)] := by rw [hW5]; exact B4.set 2 _
  have L5 : RdLinks W5 W5.heap.size (.slice (some ⟨g, 0, none⟩) 1 c9) [(b9T, [])] := by rw [hW5]; exact own_links (l := [(b9T, [])]) (own_set_other OW4 B4 (by decide) _) rfl
  have O5 : W5.ownsRow W3.heap.size 9 1 (.slice (some ⟨g4, 0, none⟩) 1 c4) 1 [.string ⟨#[98, 101, 102, 111, 114, 101, 32, 57]⟩] := by rw [hW5]; exact own_set_other own4 B4 (by decide) _
  have F5 : Ext w W5 := by rw [hW5]; exact F4.st (p := ⟨w2.heap.size, 2, none⟩) F2.size _
  have HW5 := Kp.mk hW5
  clear hW5
  go_upto_region 4 with fail
  rw [← HW5.out]
  clear q0 q1 q2 z2 B4 OW4 own4 E4 OW HW5
  have q0 := B5.cell 0; have q1 := B5.cell 1; have q2 := B5.cell 2
  simp only [List.getElem?_cons_zero, List.getElem?_cons_succ] at q0 q1 q2
  go_wp2_with fail
  refine (cV2.out _ _ _ (hT.ext F5) L5).mono ?_
  rintro e w6 ⟨v6, rfl, E6⟩
  have r0 : w6.cell? ⟨g4, 0, none⟩ = some (.string ⟨#[98, 101, 102, 111, 114, 101, 32, 57]⟩) := ((bcell E6).1 g4 0 (O5.lt g4 rfl).2).trans (O5.cellAt 0 (by decide))
  have F6 := F5.tr E6
  clear q0 q1 q2 cV2 B5 L5 O5
  go_wp2
  go_ret
  exact ⟨rfl, F6⟩
end Go.Proofs.YtejhiekikblbiaaDoor
