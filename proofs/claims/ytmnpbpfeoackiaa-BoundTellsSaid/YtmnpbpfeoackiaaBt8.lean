/-
  Package record: a batch's text. Condition: each change has the form; at most 145 of them.
-/
import Derived.Test.YtmnpbpfeoackiaaBt7
namespace Go.Proofs.Ytmnpbpfeoackiaa
open Go.RowKit

theorem batQ_get {l : List EvL} {k : Nat} {x : EvL} (h : l[k]? = some x) : (batQ l).take (1 + (k + 1)) = (batQ l).take (1 + k) ++ [fText (recE x)] := by
  have hk : 1 + k < (batQ l).length := by
    have := (List.getElem?_eq_some_iff.1 h).1
    unfold batQ
    rw [List.length_cons, List.length_map]
    omega
  have hg : (batQ l)[1 + k]? = some (fText (recE x)) := by
    unfold batQ
    rw [Nat.add_comm, List.getElem?_cons_succ, List.getElem?_map, h]
    rfl
  obtain ⟨_, he⟩ := List.getElem?_eq_some_iff.1 hg
  rw [show 1 + (k + 1) = 1 + k + 1 by omega, List.take_succ_eq_append_getElem hk, he]
theorem batQ_len (l : List EvL) : (batQ l).length = 1 + l.length := by
  unfold batQ
  rw [List.length_cons, List.length_map]
  omega
theorem evs_cells {w : World} {v : Value} {l : List EvL} (h : Rd w w.heap.size 5 v l.length (evsC l)) : ∃ A c, v = .slice A l.length c ∧ (0 < l.length → ∃ b off, A = some ⟨b, off, none⟩ ∧ b < w.heap.size ∧ ∀ (k : Nat) (x : EvL), l[k]? = some x → ∀ W, Ext w W → W.cell? ⟨b, off + k * 5, none⟩ = some (.int .i64 x.kind) ∧ W.cell? ⟨b, off + k * 5 + 1, none⟩ = some (.string (ofL x.ten)) ∧ W.cell? ⟨b, off + k * 5 + 2, none⟩ = some (.int .i64 x.num) ∧ W.cell? ⟨b, off + k * 5 + 3, none⟩ = some (.int .i64 x.ep) ∧ W.cell? ⟨b, off + k * 5 + 4, none⟩ = some (.string (ofL x.text))) := by
  obtain ⟨A, c, rfl, hn, hl, hc⟩ := h
  refine ⟨A, c, rfl, fun h0 => ?_⟩
  obtain ⟨b, off, hA, hb, hcell⟩ := hc h0
  refine ⟨b, off, hA, hb, fun k x hx W hW => ?_⟩
  obtain ⟨g0, g1, g2, g3, g4⟩ := evsC_get _ k x hx
  refine ⟨((bcell hW).1 b _ hb).trans (hcell _ _ g0), ((bcell hW).1 b _ hb).trans ?_, ((bcell hW).1 b _ hb).trans ?_, ((bcell hW).1 b _ hb).trans ?_, ((bcell hW).1 b _ hb).trans ?_⟩
  · rw [Nat.add_assoc]; exact hcell _ _ g1
  · rw [Nat.add_assoc]; exact hcell _ _ g2
  · rw [Nat.add_assoc]; exact hcell _ _ g3
  · rw [Nat.add_assoc]; exact hcell _ _ g4
set_option maxRecDepth 100000 in
set_option maxHeartbeats 1000000 in
theorem batch_any {w : World} {v : Value} {l : List EvL} (H : Rd w w.heap.size 5 v l.length (evsC l)) (hF : ∀ e ∈ l, FormE e) (hl : l.length ≤ 145) :
    Calls Try.prog 24 #[v] w fun e w' => e = .returned (.tuple #[.string (ofL (batE l)), .int .i64 0]) ∧ Ext w w' := by
  obtain ⟨A, c, rfl, hcl⟩ := evs_cells H
  replace hcl := Kp.mk hcl
  have HBL := Kp.mk (batE_len hF hl)
  have cP := Kp.mk (fun (e : EvL) (he : e ∈ l) W => recput_any e (hF e he) W)
  have cT := Kp.mk (fun (e : EvL) (he : e ∈ l) W => ftextL_any (recE e) W (by have := recE_len (hF e he); omega))
  have cN := Kp.mk (fun W => fnum_any l.length W (by show _ < _; omega))
  have HQ0 := Kp.mk (show (batQ l).take 1 = [vput l.length] from rfl)
  obtain ⟨n, hn⟩ : ∃ n, l.length = n := ⟨_, rfl⟩
  rw [hn] at hcl hl HQ0
  simp only [hn] at cN
  rw [hn]
  have HN := Kp.mk hn
  obtain ⟨P, hP⟩ : ∃ P, vput n = P := ⟨_, rfl⟩
  rw [hP] at HQ0
  simp only [hP] at cN
  have hwn : IntKind.u64.wrap (n : Int) = (n : Int) := U64.wrap (by show _ < _; omega)
  have q1 : decide ((256 : Int) < (n : Int)) = false := by simp; omega
  obtain ⟨R, hR⟩ : ∃ R, batE l = R := ⟨_, rfl⟩
  rw [hR]
  rw [hR] at HBL
  have HR := Kp.mk hR
  clear hn hP H hF hR
  go_enter Try.func24, Try.ntmps24
  go_wp2_with fail
  refine (cN.out _).mono ?_
  rintro e w1 ⟨rfl, E1⟩
  have O1 := World.ownsRow_lit (base := w.heap.size) (size := 1) (e := 9) w1 #[.string (ofL P)] 1 E1.size (by decide) rfl
  obtain ⟨V, hV, EV⟩ : ∃ V, w1.alloc (.cells #[.string (ofL P)] 9) = V ∧ Ext w1 V := ⟨_, rfl, (Ext.rfl' w1).al _⟩
  rw [hV] at O1
  have F1 := E1.tr EV
  have O2 : V.ownsRow w.heap.size 9 1 (.slice (some ⟨w1.heap.size, 0, none⟩) 1 1) (1 + 0) (((batQ l).take (1 + 0)).map Str) := own_eq O1 (by rw [show 1 + 0 = 1 from rfl, HQ0.out]; rfl) rfl
  clear E1 EV cN hwn O1
  go_upto_region 5 with fail
  clear hV q1
  go_loopw [19, 4] (fun i o wr => ∃ k : Nat, i = .int .i64 k ∧ k ≤ n ∧ Ext w wr ∧ wr.ownsRow w.heap.size 9 1 o (1 + k) (((batQ l).take (1 + k)).map Str)) (fun i _ _ => n - (intOf i).toNat)
  case atStart => exact ⟨0, rfl, Nat.zero_le _, F1, O2⟩
  case round =>
    clear F1 O2
    obtain ⟨k, rfl, hkn, hE, hO⟩ := hrel
    by_cases hlt : k < n
    · obtain ⟨b, off, rfl, hbw, hcell⟩ := hcl.out (by omega)
      obtain ⟨x, hx⟩ : ∃ x, l[k]? = some x := ⟨_, List.getElem?_eq_getElem (by rw [HN.out]; exact hlt)⟩
      obtain ⟨c0, c1, c2, c3, c4⟩ := hcell k x hx wr hE
      have hmem := List.mem_of_getElem? hx
      have cPx := Kp.mk (cP.out x hmem)
      have cTx := Kp.mk (cT.out x hmem)
      have HX := Kp.mk hx
      obtain ⟨RR, hRR⟩ : ∃ r, recE x = r := ⟨_, rfl⟩
      obtain ⟨FR, hFR⟩ : ∃ r, fText RR = r := ⟨_, rfl⟩
      simp only [hRR] at cPx cTx
      simp only [hFR] at cTx
      unfold evlV at cPx
      have HQ := Kp.mk (show (batQ l).take (1 + (k + 1)) = (batQ l).take (1 + k) ++ [FR] by rw [← hFR, ← hRR]; exact batQ_get hx)
      clear hcell hx hmem hRR hFR
      go_upto_region 7 with fail
      obtain ⟨V5, hV5, EV5, DV⟩ : ∃ V, wr.alloc (.cells #[.int .i64 x.kind, .string (ofL x.ten), .int .i64 x.num, .int .i64 x.ep, .string (ofL x.text)] 71) = V ∧ Ext wr V ∧ Arr V wr.heap.size 71 (evlC x) := ⟨_, rfl, (Ext.rfl' wr).al _, Arr.new wr _ (evlC x)⟩
      rw [hV5]
      have F2 := hE.tr EV5
      have O2 := own_ext hO (fun j _ hj => EV5.block j hj)
      clear hV5 EV5 hE hO c0 c1 c2 c3 c4
      have q0 := DV.cell 0; have q1 := DV.cell 1; have q2 := DV.cell 2; have q3 := DV.cell 3; have q4 := DV.cell 4
      simp only [evlC, List.getElem?_cons_zero, List.getElem?_cons_succ] at q0 q1 q2 q3 q4
      go_wp2_with fail
      refine (cPx.out _).mono ?_
      rintro e w3 ⟨rfl, E3⟩
      have F3 := F2.tr E3
      have O3 := own_ext O2 (fun j _ hj => E3.block j hj)
      clear q0 q1 q2 q3 q4 DV F2 O2 E3 cPx
      go_wp2_with fail
      refine (cTx.out _).mono ?_
      rintro e w4 ⟨rfl, E4⟩
      have F4 := F3.tr E4
      have O4 := own_ext O3 (fun j _ hj => E4.block j hj)
      have hs4 := F4.size
      clear F3 O3 E4 cTx
      obtain ⟨oA, oc, rfl⟩ := own_slice O4
      go_upto_region 11 with (at_builtin; refine wpl_app Try.elemStr rfl _ _ rfl O4 1 rfl rfl rfl (by intro u hu; simp at hu; rw [hu]; rfl) (by omega) (by omega) hs4 ?_; intro v9 w9 own9 hg9; have F9 := F4.own hg9 O4 (Nat.le_refl _); clear hg9 O4 F4)
      have O9 := own_eq own9 (show _ = ((batQ l).take (1 + (k + 1))).map Str by rw [HQ.out, List.map_append]; rfl) (show _ = 1 + (k + 1) by omega)
      clear own9
      go_wp2
      go_roundw
      case rel => exact ⟨k + 1, by go_num, hlt, F9, O9⟩
      case measure => simp [intOf]; omega
    · obtain rfl : k = n := by omega
      have hbq : (batQ l).take (1 + k) = batQ l := List.take_of_length_le (by rw [batQ_len, HN.out]; exact Nat.le_refl _)
      rw [hbq] at hO
      obtain ⟨oA, oc, rfl⟩ := own_slice hO
      obtain ⟨g, rfl, hb1, hb2, hcell⟩ := own_at hO (by omega)
      have hcap : 1 + k ≤ oc := by
        rcases hO.2 with ⟨h, _⟩ | ⟨g', cap, cur, he, _, _, hn, _⟩
        · cases h
        · cases he; exact hn
      have cJ := joined_any g oc (batQ l) wr (fun j x hx => hcell j (Str x) (by rw [List.getElem?_map, hx]; rfl)) hb2 (by rw [batQ_len, HN.out]; exact hcap) (by rw [batQ_len, HN.out]; omega) (by have := HBL.out; have h2 := HR.out; unfold batE at h2; rw [h2]; omega)
      rw [batQ_len, HN.out] at cJ
      rw [show (batQ l).flatten = R from HR.out] at cJ
      replace cJ := Kp.mk cJ
      clear hcap hcell hO hb1 hb2 hbq
      go_wp2_with fail
      refine cJ.out.mono ?_
      rintro e w5 ⟨rfl, E5⟩
      have F5 := hE.tr E5
      clear hE E5 cJ
      go_wp2
      go_ret2
      exact ⟨rfl, F5⟩
end Go.Proofs.Ytmnpbpfeoackiaa
