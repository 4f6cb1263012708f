/-
  The law FieldBack returns true at every input. No condition but the reach of strings and slices.
-/
import Derived.Test.YteclfeeeaokddaaFldLaws
import Derived.Test.YteclfeeeaokddaaRow
namespace Go.Proofs.Yteclfeeeaokddaa
open Go.RowKit

theorem rNum_put {n most : Nat} (hn : n < 18446744073709551616) (hm : n ≤ most) (r : List UInt8) : rNum (vput n ++ r, 0) most = (n, (r, 0)) := by
  rw [rNum_ok (vtake_vput hn r) hm, List.drop_left]
theorem rText_put {a : List UInt8} (ha : a.length ≤ 200) (r : List UInt8) : rText (fText a ++ r, 0) 200 = (a, (r, 0)) := by
  unfold fText
  rw [List.append_assoc, rText_ok (vtake_vput (by omega) (a ++ r)) (by show _ ≤ 200; exact ha) (by rw [List.drop_left]; simp), List.drop_left, List.take_left, List.drop_left]

/-- The texts' fields, the numbers' fields. -/
def fTexts (l : List (List UInt8)) : List UInt8 := (l.map fText).flatten
def fNums (l : List Int) : List UInt8 := (l.map fun n => vput n.toNat).flatten
theorem fTexts_cons (a : List UInt8) (l) : fTexts (a :: l) = fText a ++ fTexts l := rfl
theorem fNums_cons (a : Int) (l) : fNums (a :: l) = vput a.toNat ++ fNums l := rfl
theorem fTexts_step (l : List (List UInt8)) (k : Nat) (h : k < l.length) : fTexts (l.take (k + 1)) = fTexts (l.take k) ++ fText l[k] := by
  unfold fTexts
  rw [List.take_succ_eq_append_getElem h, List.map_append, List.flatten_append]
  simp
theorem fNums_step (l : List Int) (k : Nat) (h : k < l.length) : fNums (l.take (k + 1)) = fNums (l.take k) ++ vput l[k].toNat := by
  unfold fNums
  rw [List.take_succ_eq_append_getElem h, List.map_append, List.flatten_append]
  simp
theorem fText_len (a : List UInt8) : (fText a).length ≤ a.length + 10 := by
  unfold fText; have := length_vput a.length; simp; omega
theorem fNums_len : ∀ l, (fNums l).length ≤ 10 * l.length
  | [] => by simp [fNums]
  | a :: l => by
    have := fNums_len l; have h := length_vput a.toNat
    rw [fNums_cons, List.length_append, List.length_cons]; omega
theorem fTexts_len : ∀ l, (∀ a ∈ l, a.length ≤ 200) → (fTexts l).length ≤ 210 * l.length
  | [], _ => by simp [fTexts]
  | a :: l, h => by
    have := fTexts_len l (fun x hx => h x (by simp [hx])); have h1 := fText_len a; have h2 := h a (by simp)
    rw [fTexts_cons, List.length_append, List.length_cons]; omega
theorem fTexts_drop (l : List (List UInt8)) (k : Nat) (h : k < l.length) (r : List UInt8) : fTexts (l.drop k) ++ r = fText l[k] ++ (fTexts (l.drop (k + 1)) ++ r) := by
  rw [List.drop_eq_getElem_cons h, fTexts_cons, List.append_assoc]
theorem fNums_drop (l : List Int) (k : Nat) (h : k < l.length) (r : List UInt8) : fNums (l.drop k) ++ r = vput l[k].toNat ++ (fNums (l.drop (k + 1)) ++ r) := by
  rw [List.drop_eq_getElem_cons h, fNums_cons, List.append_assoc]

set_option maxRecDepth 100000 in
set_option maxHeartbeats 4000000 in
theorem fieldBack_walk (v0 : Value) (l : List (List UInt8)) (v1 : Value) (n : List Int) (w : World) (r0 : Rd w w.heap.size 1 v0 l.length (l.map Str)) (_ln : l.length ≤ maxLen) (_lb : ∀ s ∈ l, s.length ≤ maxLen)
    (r1 : Rd w w.heap.size 1 v1 n.length (n.map (Value.int .u64))) (_nn : n.length ≤ maxLen) (nb : ∀ x ∈ n, (Lit.int .u64 x).wf = true) :
    Calls Try.prog 7 #[v0, v1] w fun e w' => e = .returned (.bool true) ∧ Ext w w' := by
  clear _ln _nn
  obtain ⟨A0, c0, rfl, hn0, hlen0, hc0⟩ := r0
  obtain ⟨A1, c1, rfl, hn1, hlen1, hc1⟩ := r1
  have skip : (12 < l.length ∨ 12 < n.length) → Calls Try.prog 7 #[.slice A0 l.length c0, .slice A1 n.length c1] w fun e w' => e = .returned (.bool true) ∧ Ext w w' := by
    intro hor
    clear hc0 hc1 nb _lb
    by_cases h1 : 12 < l.length
    · have d1 : decide ((12 : Int) < l.length) = true := by simp; omega
      go_enter Try.func7, Try.ntmps7
      go_wp2_with fail
      refine (works08_any _).mono ?_
      rintro e w1 ⟨rfl, hE⟩
      go_wp2
      go_ret
      exact ⟨rfl, hE⟩
    · have d1 : decide ((12 : Int) < l.length) = false := by simp; omega
      have d2 : decide ((12 : Int) < n.length) = true := by simp; omega
      go_enter Try.func7, Try.ntmps7
      go_wp2_with fail
      refine (works08_any _).mono ?_
      rintro e w1 ⟨rfl, hE⟩
      go_wp2
      go_ret
      exact ⟨rfl, hE⟩
  by_cases hor : 12 < l.length ∨ 12 < n.length
  · exact skip hor
  clear skip
  have hl : l.length ≤ 12 := by omega
  have hnl : n.length ≤ 12 := by omega
  have d1 : decide ((12 : Int) < l.length) = false := by simp; omega
  have d2 : decide ((12 : Int) < n.length) = false := by simp; omega
  clear hor
  have HC0 := Lib.hid hc0; clear hc0
  have HC1 := Lib.hid hc1; clear hc1
  have NB := Lib.hid nb; clear nb
  have LB := Lib.hid _lb; clear _lb
  go_enter Try.func7, Try.ntmps7
  go_wp2
  go_loopw [5, 6] (fun sv i wr => ∃ k : Nat, ∃ acc : List UInt8, k ≤ l.length ∧ i = .int .i64 k ∧ Ext w wr ∧ sv = .string (ofL acc) ∧ acc = fTexts (l.take k) ∧ (∀ a ∈ l.take k, a.length ≤ 200)) (fun _ i _ => l.length - (intOf i).toNat)
  case atStart => exact ⟨0, [], by simp, rfl, Ext.rfl' _, rfl, rfl, by simp⟩
  case round =>
    obtain ⟨k, acc, hk, rfl, hE, rfl, hacc, hsh⟩ := hrel
    have HACC := Lib.hid hacc; clear hacc
    have HSH := Lib.hid hsh; clear hsh
    by_cases hlt : k < l.length
    · have dk : decide ((k : Int) < l.length) = true := by simp; omega
      obtain ⟨bb, off, rfl, hbb, hc⟩ := HC0.out (by omega)
      have f0 : wr.cell? ⟨bb, off + k, none⟩ = some (.string (ofL l[k])) := ((bcell hE).1 bb _ hbb).trans (hc k _ (by simp [List.getElem?_eq_getElem hlt, Str]))
      generalize hg : l[k] = a at f0
      have HG := Lib.hid hg; clear hg hc
      have e1 : (ofL a).size = a.length := size_ofL a
      by_cases h2 : 200 < a.length
      · have d3 : decide ((200 : Int) < a.length) = true := by simp; omega
        go_wp2_with fail
        refine (works08_any _).mono ?_
        rintro e w1 ⟨rfl, hE1⟩
        go_wp2
        go_ret
        exact ⟨rfl, hE.tr hE1⟩
      · have d3 : decide ((200 : Int) < a.length) = false := by simp; omega
        have SF : ∀ W : World, Ext wr W → W.cell? ⟨bb, off + k, none⟩ = some (.string (ofL a)) := fun W h => ((bcell h).1 _ _ (World.block_lt_of_cell? _ _ f0)).trans f0
        have hla : (ofL a).size ≤ 1000000 := by omega
        have he : toL (ofL a) = a := toL_ofL a
        have tq : (fText a != fText a) = false := by simp
        go_wp2
        clear f0
        go_region_held3 (fun W => W.cell? ⟨bb, off + k, none⟩ = some (.string (ofL a)))
          (first | exact SF _ ((Ext.rfl' _).dr.tr hE1) | exact SF _ (((Ext.rfl' _).dr.tr hE1).tr hE2) | exact SF _ ((Ext.rfl' _).dr.tr hE2) | exact SF _ (((Ext.rfl' _).dr.tr hE2).tr hE1) | exact SF _ (Ext.rfl' _).dr)
          (first | (go_at_call 30; refine (ftext_any _ _ hla).mono ?_; rintro e w1 ⟨rfl, hE1⟩; rw [he]) | (go_at_call 31; refine (r8Text_any _ _ hla).mono ?_; rintro e w2 ⟨rfl, hE2⟩; rw [he]))
        all_goals
          have E12 : (Ext wr w1 ∧ Ext wr w2) ∧ (Ext w1 w2 ∨ Ext w2 w1) := by
            first
              | exact ⟨⟨(Ext.rfl' wr).dr.tr hE1, ((Ext.rfl' wr).dr.tr hE1).tr hE2⟩, .inl hE2⟩
              | exact ⟨⟨((Ext.rfl' wr).dr.tr hE2).tr hE1, (Ext.rfl' wr).dr.tr hE2⟩, .inr hE1⟩
          have g1 := SF w1 E12.1.1
          have g2 := SF w2 E12.1.2
          have z1 : (ofL acc).size = acc.length := size_ofL _
          have z2 : (ofL (fText a)).size = (fText a).length := size_ofL _
          have z3 := fText_len a
          have z4 : acc.length ≤ 210 * 12 := by
            rw [HACC.out]
            have := fTexts_len (l.take k) HSH.out
            have h3 : (l.take k).length ≤ 12 := by simp; omega
            omega
          have eA := hE.tr E12.1.1
          have eB := hE.tr E12.1.2
          clear hE1 hE2 SF E12
          go_wp2_with fail
          refine (ftext_any _ _ hla).mono ?_
          rintro e w9 ⟨rfl, hE9⟩
          rw [he]
          go_wp2
          exact ⟨⟨k + 1, acc ++ fText a, by omega, by go_num, by first | exact eA.tr hE9 | exact eB.tr hE9, by rw [ofL_append], by rw [fTexts_step l k hlt, HG.out, HACC.out], fun b hb => by
            rw [List.take_succ_eq_append_getElem hlt] at hb
            rcases List.mem_append.1 hb with hb | hb
            · exact HSH.out b hb
            · rw [HG.out] at hb; simp at hb; subst hb; omega⟩, by simp [intOf]; omega⟩
    · have dk : decide ((k : Int) < l.length) = false := by simp; omega
      have hk' : k = l.length := by omega
      have hacc : acc = fTexts l := by rw [HACC.out, hk', List.take_length]
      have hsh : ∀ a ∈ l, a.length ≤ 200 := by have := HSH.out; rw [hk', List.take_length] at this; exact this
      have hFl : (fTexts l).length ≤ 2520 := by have := fTexts_len l hsh; omega
      clear HACC HSH LB
      subst hacc
      have HS := Lib.hid hsh; clear hsh
      clear hk'
      go_wp2
      go_loopw [5, 7] (fun sv i wr => ∃ k2 : Nat, ∃ acc : List UInt8, k2 ≤ n.length ∧ i = .int .i64 k2 ∧ Ext w wr ∧ sv = .string (ofL acc) ∧ acc = fTexts l ++ fNums (n.take k2)) (fun _ i _ => n.length - (intOf i).toNat)
      case atStart => exact ⟨0, fTexts l, by simp, rfl, hE, rfl, by simp [fNums]⟩
      case round =>
        obtain ⟨k2, acc, hk2, rfl, hE2, rfl, hacc⟩ := hrel
        have HACC := Lib.hid hacc; clear hacc
        have z4 : acc.length ≤ 2640 := by
          rw [HACC.out]
          have := fNums_len (n.take k2)
          have h3 : (n.take k2).length ≤ 12 := by simp; omega
          simp
          omega
        have z1 : (ofL acc).size = acc.length := size_ofL _
        by_cases hlt2 : k2 < n.length
        · have dk2 : decide ((k2 : Int) < n.length) = true := by simp; omega
          obtain ⟨bb, off, rfl, hbb, hc⟩ := HC1.out (by omega)
          have f0 := ((bcell hE2).1 bb _ hbb).trans (hc k2 (Value.int .u64 n[k2]) (by simp [List.getElem?_eq_getElem hlt2]))
          obtain ⟨m, hm, hm2⟩ := wf_u64 (NB.out n[k2] (List.getElem_mem hlt2))
          rw [hm] at f0
          have SF : ∀ W : World, Ext wr W → W.cell? ⟨bb, off + k2, none⟩ = some (.int .u64 m) := fun W h => ((bcell h).1 _ _ (World.block_lt_of_cell? _ _ f0)).trans f0
          have HM := Lib.hid hm; clear hm
          have tq : (vput m != vput m) = false := by simp
          have z5 := length_vput m
          have z6 : (ofL (vput m)).size = (vput m).length := size_ofL _
          clear hc
          go_wp2
          clear f0
          go_region_held3 (fun W => W.cell? ⟨bb, off + k2, none⟩ = some (.int .u64 m))
            (first | exact SF _ ((Ext.rfl' _).dr.tr hE3) | exact SF _ (((Ext.rfl' _).dr.tr hE3).tr hE4) | exact SF _ ((Ext.rfl' _).dr.tr hE4) | exact SF _ (((Ext.rfl' _).dr.tr hE4).tr hE3) | exact SF _ (Ext.rfl' _).dr)
            (first | (go_at_call 32; refine (fnum_any m _ hm2).mono ?_; rintro e w3 ⟨rfl, hE3⟩) | (go_at_call 33; refine (rvput_all m _ hm2).mono ?_; rintro e w4 ⟨rfl, hE4⟩))
          all_goals
            have E12 : (Ext wr w3 ∧ Ext wr w4) := by
              first
                | exact ⟨(Ext.rfl' wr).dr.tr hE3, ((Ext.rfl' wr).dr.tr hE3).tr hE4⟩
                | exact ⟨((Ext.rfl' wr).dr.tr hE4).tr hE3, (Ext.rfl' wr).dr.tr hE4⟩
            have g1 := SF w3 E12.1
            have g2 := SF w4 E12.2
            have eA := hE2.tr E12.1
            have eB := hE2.tr E12.2
            clear hE3 hE4 SF E12
            go_wp2_with fail
            refine (fnum_any m _ hm2).mono ?_
            rintro e w9 ⟨rfl, hE9⟩
            go_wp2
            exact ⟨⟨k2 + 1, acc ++ vput m, by omega, by go_num, by first | exact eA.tr hE9 | exact eB.tr hE9, by rw [ofL_append], by rw [fNums_step n k2 hlt2, HM.out, HACC.out, Int.toNat_natCast, List.append_assoc]⟩, by simp [intOf]; omega⟩
        · have dk2 : decide ((k2 : Int) < n.length) = false := by simp; omega
          have hacc : acc = fTexts l ++ fNums n := by rw [HACC.out, List.take_of_length_le (by omega)]
          have hNl : (fNums n).length ≤ 120 := by have := fNums_len n; omega
          clear HACC
          subst hacc
          have tz : toL (ofL (fTexts l ++ fNums n) ++ ⟨#[120]⟩) = fTexts l ++ (fNums n ++ [120]) := by rw [toL_append, toL_ofL, List.append_assoc]; rfl
          go_wp2_with fail
          refine (new_any _ _).mono ?_
          rintro e w5 ⟨rfl, h5, hE5⟩
          rw [tz] at h5
          have eN := hE2.tr hE5
          have hgb : w.heap.size ≤ wr.heap.size := hE2.size
          obtain ⟨g, hg⟩ : ∃ g, g = wr.heap.size := ⟨_, rfl⟩
          rw [← hg] at h5 hgb ⊢
          clear tz hg
          have H5 := Lib.hid h5; clear h5
          go_wp2
          go_loopw [9] (fun i wr => ∃ k3 : Nat, k3 ≤ l.length ∧ i = .int .i64 k3 ∧ Ext w wr ∧ Rdr wr g true (fTexts (l.drop k3) ++ (fNums n ++ [120])) 0) (fun i _ => l.length - (intOf i).toNat)
          case atStart => exact ⟨0, by simp, rfl, eN, H5.out⟩
          case round =>
            obtain ⟨k3, hk3, rfl, hE6, hR⟩ := hrel
            by_cases hlt3 : k3 < l.length
            · have dk3 : decide ((k3 : Int) < l.length) = true := by simp; omega
              obtain ⟨bb, off, rfl, hbb, hc⟩ := HC0.out (by omega)
              have f0 : wr.cell? ⟨bb, off + k3, none⟩ = some (.string (ofL l[k3])) := ((bcell hE6).1 bb _ hbb).trans (hc k3 _ (by simp [List.getElem?_eq_getElem hlt3, Str]))
              have hla := HS.out l[k3] (List.getElem_mem hlt3)
              rw [fTexts_drop l k3 hlt3] at hR
              generalize hgn : l[k3] = a at f0 hla hR
              have hrt := rText_put hla (fTexts (l.drop (k3 + 1)) ++ (fNums n ++ [120]))
              have hlen : (fText a ++ (fTexts (l.drop (k3 + 1)) ++ (fNums n ++ [120]))).length ≤ 1000000 := by
                have h1 := fTexts_len (l.drop (k3 + 1)) (fun x hx => HS.out x (List.mem_of_mem_drop hx))
                have h2 := fText_len a
                have h3 : (l.drop (k3 + 1)).length ≤ 12 := by simp; omega
                simp only [List.length_append, List.length_cons, List.length_nil]
                omega
              have ne : bb ≠ g := by omega
              clear hgn hc
              have tq : (a != a) = false := by simp
              go_wp2
              go_region_held3 (fun W => W.cell? ⟨bb, off + k3, none⟩ = some (.string (ofL a)))
                (first | exact f0 | exact hO7.cellAt f0 ne)
                (first | (go_at_call 29; refine (text_any g (fText a ++ (fTexts (l.drop (k3 + 1)) ++ (fNums n ++ [120])), 0) 200 _ (by exact hR) hlen (by decide)).mono ?_; rintro e w7 ⟨rfl, h7, hO7⟩; rw [hrt] at h7 ⊢))
              all_goals
                go_wp2
                exact ⟨⟨k3 + 1, by omega, by go_num, hO7.toExt (by exact hE6.dr) hgb, h7⟩, by simp [intOf]; omega⟩
            · have dk3 : decide ((k3 : Int) < l.length) = false := by simp; omega
              rw [List.drop_of_length_le (by omega), show fTexts [] = [] from rfl, List.nil_append] at hR
              have HR := Lib.hid hR; clear hR
              go_wp2
              go_loopw [10] (fun i wr => ∃ k4 : Nat, k4 ≤ n.length ∧ i = .int .i64 k4 ∧ Ext w wr ∧ Rdr wr g true (fNums (n.drop k4) ++ [120]) 0) (fun i _ => n.length - (intOf i).toNat)
              case atStart => exact ⟨0, by simp, rfl, hE6, HR.out⟩
              case round =>
                obtain ⟨k4, hk4, rfl, hE8, hR⟩ := hrel
                by_cases hlt4 : k4 < n.length
                · have dk4 : decide ((k4 : Int) < n.length) = true := by simp; omega
                  obtain ⟨bb, off, rfl, hbb, hc⟩ := HC1.out (by omega)
                  have f0 := ((bcell hE8).1 bb _ hbb).trans (hc k4 (Value.int .u64 n[k4]) (by simp [List.getElem?_eq_getElem hlt4]))
                  obtain ⟨m, hm, hm2⟩ := wf_u64 (NB.out n[k4] (List.getElem_mem hlt4))
                  rw [hm] at f0
                  rw [fNums_drop n k4 hlt4, hm, Int.toNat_natCast] at hR
                  have hrt := rNum_put hm2 (show m ≤ 18446744073709551615 by omega) (fNums (n.drop (k4 + 1)) ++ [120])
                  have hlen : (vput m ++ (fNums (n.drop (k4 + 1)) ++ [120])).length ≤ 1000000 := by
                    have h1 := fNums_len (n.drop (k4 + 1))
                    have h2 := length_vput m
                    have h3 : (n.drop (k4 + 1)).length ≤ 12 := by simp; omega
                    simp only [List.length_append, List.length_cons, List.length_nil]
                    omega
                  have ne : bb ≠ g := by omega
                  clear hm hc
                  go_wp2
                  go_region_held3 (fun W => W.cell? ⟨bb, off + k4, none⟩ = some (.int .u64 m))
                    (first | exact f0 | exact hO7.cellAt f0 ne)
                    (first | (go_at_call 27; refine (num_any g (vput m ++ (fNums (n.drop (k4 + 1)) ++ [120]), 0) 18446744073709551615 _ (by exact hR) hlen).mono ?_; rintro e w7 ⟨rfl, h7, hO7⟩; rw [hrt] at h7 ⊢))
                  all_goals
                    go_wp2
                    exact ⟨⟨k4 + 1, by omega, by go_num, hO7.toExt (by exact hE8.dr) hgb, h7⟩, by simp [intOf]; omega⟩
                · have dk4 : decide ((k4 : Int) < n.length) = false := by simp; omega
                  rw [List.drop_of_length_le (by omega), show fNums [] = [] from rfl, List.nil_append] at hR
                  go_wp2_with fail
                  refine (left_any _ true _ _ _ hR).mono ?_
                  rintro e w6 ⟨rfl, rfl⟩
                  go_wp2_with fail
                  refine (byte_any _ ([120], 0) _ hR (by decide)).mono ?_
                  rintro e w7 ⟨rfl, k7, hO7⟩
                  rw [show rByte ([120], 0) = (120, ([], 0)) from by decide] at k7 ⊢
                  go_wp2_with fail
                  refine (end_any _ ([], 0) _ k7 (by decide)).mono ?_
                  rintro e w8 ⟨rfl, k8, hO8⟩
                  rw [show rEnd ([], 0) = ([], 0) from by decide]
                  go_wp2_with fail
                  refine (works08_any _).mono ?_
                  rintro e w9 ⟨rfl, hE9⟩
                  go_wp2
                  go_ret
                  exact ⟨rfl, (hO8.toExt (hO7.toExt hE8 hgb) hgb).tr hE9⟩
end Go.Proofs.Yteclfeeeaokddaa
