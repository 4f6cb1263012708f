/-
  Package bundle: take, Get. No condition.
-/
import Derived.Test.YtmnpbpfeoackiaaDoorGenB
import Derived.Test.YtmnpbpfeoackiaaDoorBuPlain
import Derived.Test.YtmnpbpfeoackiaaDoorTk4
namespace Go.Proofs.YtmnpbpfeoackiaaDoor
open Go.RowKit

theorem rText_most (x : RS) (m : Nat) : (rText x (m : Int)).1.length ≤ m := by
  have h := rNum_le x m
  rw [rText_eq, Int.toNat_natCast]
  split
  · exact Nat.zero_le _
  · split
    · exact Nat.zero_le _
    · rw [List.length_take]; omega
theorem rdr_put3 {W : World} {g b : Nat} {s : List UInt8} {e : Int} (h : Rdr W g true s e) (hne : g ≠ b) (x y z : Value) : Rdr (((W.setCell ⟨b, 0, none⟩ x).setCell ⟨b, 1, none⟩ y).setCell ⟨b, 2, none⟩ z) g true s e :=
  ((h.stNew (p := ⟨b, 0, none⟩) hne x).stNew (p := ⟨b, 1, none⟩) hne y).stNew (p := ⟨b, 2, none⟩) hne z
theorem only_put3 {w W : World} {g b : Nat} (h : Only g w W) (hb : w.heap.size ≤ b) (x y z : Value) : Only g w (((W.setCell ⟨b, 0, none⟩ x).setCell ⟨b, 1, none⟩ y).setCell ⟨b, 2, none⟩ z) :=
  ((h.stNew (p := ⟨b, 0, none⟩) hb x).stNew (p := ⟨b, 1, none⟩) hb y).stNew (p := ⟨b, 2, none⟩) hb z
theorem own_put3 {W : World} {base b : Nat} {e t : TypeId} {size n : Nat} {v : Value} {xs ys : List Value} (h : W.ownsRow base e size v n xs) (hA : Arr W b t ys) (hne : e ≠ t) (x y z : Value) : (((W.setCell ⟨b, 0, none⟩ x).setCell ⟨b, 1, none⟩ y).setCell ⟨b, 2, none⟩ z).ownsRow base e size v n xs :=
  own_set_other (own_set_other (own_set_other h hA hne x) (hA.set 0 x) hne y) ((hA.set 0 x).set 1 y) hne z

def TakeGot (g : Nat) (r : TokL × RS) (w : World) (e : Ending) (w' : World) : Prop := ∃ A c, e = .returned (.agg #[.string (ofL r.1.id), .slice A r.1.links.length c, .string (ofL r.1.tag)]) ∧ w'.ownsRow w.heap.size 74 2 (.slice A r.1.links.length c) r.1.links.length (linkCells r.1.links) ∧ Rdr w' g true r.2.1 r.2.2 ∧ Only g w w'

set_option maxRecDepth 100000 in
set_option maxHeartbeats 2000000 in
theorem butake_any (g : Nat) (x : RS) (w : World) (h : Rdr w g true x.1 x.2) (hs : x.1.length ≤ 1000000) :
    Calls Tryd.prog 70 #[.pointer (some ⟨g, 0, none⟩)] w (TakeGot g (takeGet x) w) := by
  obtain ⟨W, hW, E0, A0⟩ : ∃ W, w.alloc (.cells #[.string ⟨#[]⟩, .slice none 0 0, .string ⟨#[]⟩] 24) = W ∧ Ext w W ∧ Arr W w.heap.size 24 [.string ⟨#[]⟩, .slice none 0 0, .string ⟨#[]⟩] := ⟨_, rfl, (Ext.rfl' w).al _, Arr.new w _ [.string ⟨#[]⟩, .slice none 0 0, .string ⟨#[]⟩]⟩
  have hg := h.lt
  have h0 := h.ext E0
  have O0 : Only g w W := Only.of E0
  have hsW : W.heap.size = w.heap.size + 1 := by rw [← hW]; simp
  have HW := Kp.mk hW
  have cT := Kp.mk (text_any g x 65536 W h0 hs (by omega))
  have hml := rText_most x 65536
  have htk : takeGet x = if (rText x 65536).2.2 ≠ 0 then (tok0, (rText x 65536).2) else ((tokGetR (rText x 65536).1).1, rFail (rText x 65536).2 (tokGetR (rText x 65536).1).2) := rfl
  obtain ⟨⟨T1, T2⟩, hT⟩ : ∃ T, rText x 65536 = T := ⟨_, rfl⟩
  rw [hT] at cT htk
  rw [show ((65536 : Nat) : Int) = 65536 from rfl, hT] at hml
  dsimp only at cT htk hml
  obtain ⟨R, hR⟩ : ∃ R, takeGet x = R := ⟨_, rfl⟩
  rw [hR] at htk ⊢
  have HK := Kp.mk htk
  clear hW hR h h0 hT htk
  go_enter Tryd.func70, Tryd.ntmps70
  go_upto_region 1 with fail
  rw [HW.out]
  clear HW
  go_wp2_with fail
  refine cT.out.mono ?_
  rintro e w1 ⟨rfl, R1, O1⟩
  have A1 := arr_only O1 A0 (by omega)
  have F1 := O0.tr O1
  have hs1 := O1.size
  clear A0 O0 O1 E0 cT
  go_wp2_with fail
  refine (err_any _ _ _ _ R1).mono ?_
  rintro e w2 ⟨rfl, h2⟩
  subst w2
  by_cases he : T2.2 = 0
  · have d1 : (T2.2 != 0) = false := by rw [he]; rfl
    have hRe := HK.out
    rw [if_neg (by rw [he]; simp)] at hRe
    have cG := tkget_any T1 w1 (by omega)
    obtain ⟨⟨⟨di, dl, dt⟩, de⟩, hd⟩ : ∃ r, tokGetR T1 = r := ⟨_, rfl⟩
    rw [hd] at hRe cG
    dsimp only at hRe
    subst hRe
    have cG := Kp.mk cG
    clear hd HK
    go_wp2_with fail
    refine cG.out.mono ?_
    rintro e w3 ⟨v3, rfl, Q3, E3⟩
    obtain ⟨A3v, c3v, rfl⟩ := own_slice Q3
    dsimp only at Q3 ⊢
    unfold tokV
    have A3 := A1.ext E3 A1.lt
    have R3 := R1.ext E3
    have F3 := F1.ext E3
    have Q3 := own_more (base' := w.heap.size + 1) Q3 (by omega)
    clear A1 R1 F1 E3 cG
    obtain ⟨V, hV, EV, BV⟩ : ∃ V, w3.alloc (.cells #[.string (ofL di), .slice A3v dl.length c3v, .string (ofL dt)] 24) = V ∧ Ext w3 V ∧ Arr V w3.heap.size 24 [.string (ofL di), .slice A3v dl.length c3v, .string (ofL dt)] := ⟨_, rfl, (Ext.rfl' w3).al _, Arr.new w3 _ [.string (ofL di), .slice A3v dl.length c3v, .string (ofL dt)]⟩
    have A4 := A3.ext EV A3.lt
    have R4 := R3.ext EV
    have F4 := F3.ext EV
    have Q4 := own_ext Q3 (fun j _ hj => EV.block j hj)
    have hg3 := R3.lt
    have HV := Kp.mk hV
    clear hV EV A3 R3 F3 Q3
    go_upto_region 5 with fail
    rw [HV.out]
    clear HV
    go_wp2_with fail
    refine (fail_any g T2 de V R4).mono ?_
    rintro e w5 ⟨rfl, R5, O5⟩
    have A5 := arr_only O5 A4 (by omega)
    have B5 := arr_only O5 BV (by omega)
    have F5 := F4.tr O5
    have Q5 := own_only O5 Q4 (by omega)
    clear A4 R4 F4 Q4 BV O5
    have q0 := B5.cell 0; have q1 := B5.cell 1; have q2 := B5.cell 2
    have y0 := A5.cell 0; have y1 := A5.cell 1; have y2 := A5.cell 2
    have z0 := A5.frozen 0; have z1 := A5.frozen 1; have z2 := A5.frozen 2
    simp only [List.getElem?_cons_zero, List.getElem?_cons_succ] at q0 q1 q2 y0 y1 y2
    go_wp2
    exact bodyPost_ret (v := .agg #[.string (ofL di), .slice A3v dl.length c3v, .string (ofL dt)]) (results_cell_row rfl _ _ w.heap.size _ _ _ _ rfl (arr_put3 A5 _ _ _) Tryd.underlying24 rfl (by kernel_rfl)) rfl ⟨A3v, c3v, rfl, own_more (own_put3 Q5 A5 (by decide) _ _ _) (by omega), rdr_put3 R5 (by omega) _ _ _, only_put3 F5 (Nat.le_refl _) _ _ _⟩
  · have d1 : (T2.2 != 0) = true := bne_iff_ne.2 he
    have hRe := HK.out
    rw [if_pos he] at hRe
    subst hRe
    clear HK he
    have y0 := A1.cell 0; have y1 := A1.cell 1; have y2 := A1.cell 2
    have z0 := A1.frozen 0; have z1 := A1.frozen 1; have z2 := A1.frozen 2
    simp only [List.getElem?_cons_zero, List.getElem?_cons_succ] at y0 y1 y2
    go_wp2
    exact bodyPost_ret (v := .agg #[.string ⟨#[]⟩, .slice none 0 0, .string ⟨#[]⟩]) (results_cell_row rfl _ _ w.heap.size _ _ _ _ rfl (arr_put3 A1 _ _ _) Tryd.underlying24 rfl (by kernel_rfl)) rfl ⟨none, 0, rfl, World.ownsRow_nil _ _ _ _, rdr_put3 R1 (by omega) _ _ _, only_put3 F1 (Nat.le_refl _) _ _ _⟩
end Go.Proofs.YtmnpbpfeoackiaaDoor
