/-
  Packages record, bound: the batch of the state that holds nothing; the chapter's examples. No condition.
-/
import Derived.Test.YtmnpbpfeoackiaaBg3
namespace Go.Proofs.Ytmnpbpfeoackiaa
open Go.RowKit

def batL : List UInt8 := [1, 5, 4, 0, 0, 0, 0]
def batP (k : Nat) : List (List UInt8) := [1] :: List.replicate k [5, 4, 0, 0, 0, 0]
set_option maxRecDepth 100000 in
set_option maxHeartbeats 1000000 in
theorem batch_zero (b c : Nat) (w : World) (hc : ∀ j u, evC[j]? = some u → w.cell? ⟨b, j, none⟩ = some u) (hb : b < w.heap.size) :
    Calls Try.prog 24 #[.slice (some ⟨b, 0, none⟩) 1 c] w fun e w' => e = .returned (.tuple #[.string (ofL batL), .int .i64 0]) ∧ Ext w w' := by
  have cP := Kp.mk (fun W => rput_zero W)
  have cT := Kp.mk (show ∀ W : World, Calls Try.prog 39 #[.string (ofL recL)] W fun e w' => e = .returned (.string (ofL [5, 4, 0, 0, 0, 0])) ∧ Ext W w' from fun W => by
    have h := ftext_any (ofL recL) W (by decide)
    exact h)
  have cN := Kp.mk (show ∀ W : World, Calls Try.prog 37 #[.int .u64 1] W fun e w' => e = .returned (.string (ofL [1])) ∧ Ext W w' from fun W => by
    have h := fnum_any 1 W (by show _ < _; omega)
    exact h)
  have w64 : IntKind.u64.wrap (1 : Int) = 1 := rfl
  have HC := Kp.mk (show ∀ W, Ext w W → W.cell? ⟨b, 0, none⟩ = some (.int .i64 4) ∧ W.cell? ⟨b, 1, none⟩ = some (.string ⟨#[]⟩) ∧ W.cell? ⟨b, 2, none⟩ = some (.int .i64 0) ∧ W.cell? ⟨b, 3, none⟩ = some (.int .i64 0) ∧ W.cell? ⟨b, 4, none⟩ = some (.string ⟨#[]⟩) from fun W hW =>
    ⟨((bcell hW).1 b _ hb).trans (hc 0 _ rfl), ((bcell hW).1 b _ hb).trans (hc 1 _ rfl), ((bcell hW).1 b _ hb).trans (hc 2 _ rfl), ((bcell hW).1 b _ hb).trans (hc 3 _ rfl), ((bcell hW).1 b _ hb).trans (hc 4 _ rfl)⟩)
  unfold evV at cP
  clear hc
  go_enter Try.func24, Try.ntmps24
  go_wp2_with fail
  refine (cN.out _).mono ?_
  rintro e w1 ⟨rfl, E1⟩
  have O1 := World.ownsRow_lit (base := w.heap.size) (size := 1) (e := 9) w1 #[.string (ofL [1])] 1 E1.size (by decide) rfl
  obtain ⟨V, hV, EV⟩ : ∃ V, w1.alloc (.cells #[.string (ofL [1])] 9) = V ∧ Ext w1 V := ⟨_, rfl, (Ext.rfl' w1).al _⟩
  rw [hV] at O1
  have HV := Kp.mk hV
  have F1 := E1.tr EV
  clear hV E1 EV cN
  go_upto_region 4 with fail
  rw [HV.out]
  clear HV
  go_wp2_with fail
  go_loopw [19, 4] (fun i o wr => ∃ k : Nat, k ≤ 1 ∧ i = .int .i64 k ∧ Ext w wr ∧ wr.ownsRow w.heap.size 9 1 o (1 + k) ((batP k).map Str)) (fun i _ _ => 1 - (intOf i).toNat)
  case atStart => exact ⟨0, by omega, rfl, F1, O1⟩
  case round =>
    clear F1 O1
    obtain ⟨k, hk, rfl, hE, hO⟩ := hrel
    by_cases hlt : k < 1
    · obtain rfl : k = 0 := by omega
      obtain ⟨c0, c1, c2, c3, c4⟩ := HC.out _ hE
      obtain ⟨V, hV, EV, DV⟩ : ∃ V, wr.alloc (.cells #[.int .i64 4, .string ⟨#[]⟩, .int .i64 0, .int .i64 0, .string ⟨#[]⟩] 71) = V ∧ Ext wr V ∧ Arr V wr.heap.size 71 evC := ⟨_, rfl, (Ext.rfl' wr).al _, Arr.new wr _ evC⟩
      have HV := Kp.mk hV
      have F2 := hE.tr EV
      have O2 := own_ext hO (fun j _ hj => EV.block j hj)
      clear hV EV hE hO
      go_upto_region 7 with fail
      rw [HV.out]
      clear HV c0 c1 c2 c3 c4
      have q0 := DV.cell 0; have q1 := DV.cell 1; have q2 := DV.cell 2; have q3 := DV.cell 3; have q4 := DV.cell 4
      simp only [evC, List.getElem?_cons_zero, List.getElem?_cons_succ] at q0 q1 q2 q3 q4
      go_wp2_with fail
      refine (cP.out _).mono ?_
      rintro e w3 ⟨rfl, E3⟩
      have F3 := F2.tr E3
      have O3 := own_ext O2 (fun j _ hj => E3.block j hj)
      clear q0 q1 q2 q3 q4 DV F2 O2 E3 cP
      go_wp2_with fail
      refine (cT.out _).mono ?_
      rintro e w4 ⟨rfl, E4⟩
      have F4 := F3.tr E4
      have O4 := own_ext O3 (fun j _ hj => E4.block j hj)
      have hs4 := F4.size
      clear F3 O3 E4 cT
      go_upto_region 11 with (at_builtin; refine wpl_app Try.elemStr rfl _ _ rfl O4 1 rfl rfl rfl (by intro u hu; simp at hu; rw [hu]; rfl) (by omega) (by omega) hs4 ?_; intro v9 w9 own9 hg9; have F9 := F4.own hg9 O4 (Nat.le_refl _); clear hg9 O4 F4)
      go_wp2
      go_roundw
      case rel => exact ⟨1, by omega, by go_num, F9, own_eq own9 rfl rfl⟩
      case measure => simp [intOf]
    · obtain rfl : k = 1 := by omega
      obtain ⟨g9, c9, e9⟩ := ownsRow_succ hO
      rw [e9] at hO
      obtain ⟨g, hg, hb1, hb2, hcell⟩ := own_at hO (by omega)
      obtain rfl : g9 = g := by simpa using hg
      have hcap : 1 + 1 ≤ c9 := by
        rcases hO.2 with ⟨h, _⟩ | ⟨g', cap, cur, he, _, _, hn, _⟩
        · cases h
        · cases he; exact hn
      have cJ := joined_any g9 c9 (batP 1) wr (fun j x hx => hcell j (Str x) (by rw [List.getElem?_map, hx]; rfl)) hb2 hcap (by decide) (by decide)
      rw [show (batP 1).flatten = batL from rfl, show (batP 1).length = 1 + 1 from rfl] at cJ
      replace cJ := Kp.mk cJ
      clear hcap hcell hO hg hb1 hb2
      subst e9
      go_wp2_with fail
      refine cJ.out.mono ?_
      rintro e w5 ⟨rfl, E5⟩
      have F5 := hE.tr E5
      clear hE E5 cJ
      go_wp2
      go_ret2
      exact ⟨rfl, F5⟩
set_option maxRecDepth 100000 in
theorem bimage_zero (w : World) : Calls Try.prog 14 #[.agg #[.slice none 0 0, .int .i64 0]] w fun e w' => e = .returned (.int .i64 1) ∧ Ext w w' := by
  obtain ⟨W, hW, E0, A0⟩ : ∃ W, w.alloc (.cells #[.slice none 0 0, .int .i64 0] 26) = W ∧ Ext w W ∧ Arr W w.heap.size 26 [.slice none 0 0, .int .i64 0] := ⟨_, rfl, (Ext.rfl' w).al _, Arr.new w _ [.slice none 0 0, .int .i64 0]⟩
  have HW := Kp.mk hW
  have a0 := A0.cell 0; have a1 := A0.cell 1
  simp only [List.getElem?_cons_zero, List.getElem?_cons_succ] at a0 a1
  have zb : (ofL batL).size = 7 := rfl
  have cB := Kp.mk (show ∀ W : World, Calls Try.prog 25 #[.int .i64 7] W fun e w' => e = .returned (.int .i64 1) ∧ Ext W w' from fun W => blocks_one 7 (by omega) W)
  clear hW
  go_enter Try.func14, Try.ntmps14
  go_upto_region 1 with fail
  rw [HW.out]
  clear HW
  go_wp2_with fail
  refine (image_zero _).mono ?_
  rintro e w1 ⟨v, rfl, own1, E1⟩
  have F1 := E0.tr E1
  obtain ⟨g1, c1, e1⟩ := ownsRow_succ own1
  rw [e1] at own1
  obtain ⟨g, hg, hb1, hb2, hcell⟩ := own_at own1 (by omega)
  obtain rfl : g1 = g := by simpa using hg
  have cT := Kp.mk (batch_zero g1 c1 w1 hcell hb2)
  subst e1
  clear own1 hg hb1 hb2 hcell E0 E1 A0 a0 a1
  go_wp2_with fail
  refine cT.out.mono ?_
  rintro e w2 ⟨rfl, E2⟩
  have F2 := F1.tr E2
  clear F1 E2 cT
  go_wp2_with fail
  refine (cB.out _).mono ?_
  rintro e w3 ⟨rfl, E3⟩
  go_wp2
  go_ret
  exact ⟨rfl, F2.tr E3⟩
set_option maxRecDepth 100000 in
theorem bo_works (w : World) : Calls Try.prog 6 #[] w fun e w' => e = .returned (.bool true) ∧ Ext w w' := by
  have c1 := Kp.mk (show ∀ W : World, Calls Try.prog 7 #[.int .i64 37] W fun e w' => e = .returned (.int .i64 18) ∧ Ext W w' from fun W => btags_any 37 (by omega) W)
  have c2 := Kp.mk (show ∀ W : World, Calls Try.prog 8 #[.int .i64 3] W fun e w' => e = .returned (.int .i64 15) ∧ Ext W w' from fun W => automata_any 3 (by omega) W)
  have c3 := Kp.mk (show ∀ W : World, Calls Try.prog 12 #[.agg #[.string ⟨#[]⟩, .int .i64 3, .int .i64 2], .int .i64 4] W fun e w' => e = .returned (.int .i64 11) ∧ Ext W w' from fun W => window_any (.string ⟨#[]⟩) 3 2 4 (by omega) (by omega) (by omega) W)
  have c4 := Kp.mk (fun W => bimage_zero W)
  go_enter Try.func6, Try.ntmps6
  go_wp2_with fail
  refine (c1.out _).mono ?_
  rintro e w1 ⟨rfl, E1⟩
  go_wp2_with fail
  refine (c2.out _).mono ?_
  rintro e w2 ⟨rfl, E2⟩
  have F2 := E1.tr E2
  clear E1 E2 c1 c2
  go_wp2_with fail
  refine (c3.out _).mono ?_
  rintro e w3 ⟨rfl, E3⟩
  have F3 := F2.tr E3
  clear F2 E3 c3
  go_wp2_with fail
  refine (c4.out _).mono ?_
  rintro e w4 ⟨rfl, E4⟩
  go_wp2
  go_ret
  exact ⟨rfl, F3.tr E4⟩
end Go.Proofs.Ytmnpbpfeoackiaa
