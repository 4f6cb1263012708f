/-
  porterlaw43.EntryReads: what the law walks. Condition: the number of blocks is a length.
-/
import Derived.Test.YtmnpbpfeoackiaaDoorEn15
import Derived.Test.YtmnpbpfeoackiaaDoorEn18
namespace Go.Proofs.YtmnpbpfeoackiaaDoor
open Go.RowKit

/-- A disk whose first blocks are written. -/
def fillD (bs : List (List UInt8)) (cr : Option (Int × Nat)) (j : Nat) : Dk := ⟨bs.take j ++ List.replicate (bs.length - j) (List.replicate 128 0), cr, j, false⟩
theorem fillD_zero (bs : List (List UInt8)) (cr : Option (Int × Nat)) : fillD bs cr 0 = dk0 bs.length cr := rfl
theorem fillD_len {bs : List (List UInt8)} {cr : Option (Int × Nat)} {j : Nat} (h : j ≤ bs.length) : (fillD bs cr j).bs.length = bs.length := by
  unfold fillD
  dsimp only
  rw [List.length_append, List.length_take, List.length_replicate]
  omega
theorem fillD_all (bs : List (List UInt8)) (cr : Option (Int × Nat)) : fillD bs cr bs.length = ⟨bs, cr, bs.length, false⟩ := by
  unfold fillD
  rw [List.take_length, Nat.sub_self, List.replicate_zero, List.append_nil]
theorem fillD_put {bs : List (List UInt8)} {cr : Option (Int × Nat)} {j k : Nat} {b : List UInt8} (hj : bs[j]? = some b) (hc : crAt cr j = (k, false)) : (fillD bs cr j).put j b = (fillD bs cr (j + 1), 0) := by
  obtain ⟨hl, rfl⟩ := List.getElem?_eq_some_iff.1 hj
  rw [put_ok (d := fillD bs cr j) rfl hc]
  unfold fillD
  dsimp only
  congr 2
  have e : bs.length - j = (bs.length - (j + 1)) + 1 := by omega
  have hm : min j bs.length = j := by omega
  rw [e, List.replicate_succ, List.set_append_right _ _ (by rw [List.length_take]; omega), List.length_take, hm, Nat.sub_self, List.set_cons_zero, List.take_succ_eq_append_getElem hl, List.append_assoc]
  rfl
theorem readE_pos {bs : List (List UInt8)} {fr gen ix : Int} {k : Int} {s : List UInt8} {n : Nat} (h : readE bs fr gen ix = some (k, s, n)) : 0 < n := by
  unfold readE at h
  split at h
  · cases h
  · dsimp only at h
    split at h
    · rename_i hc
      split at h
      · cases h
      · split at h
        · have := congrArg (fun x => x.2.2) (Option.some.inj h)
          dsimp only at this
          omega
        · cases h
    · cases h

set_option maxRecDepth 100000 in
set_option maxHeartbeats 4000000 in
theorem entryReads_walk (bs : List (List UInt8)) (v0 : Value) (a0 a1 a2 : Int) (w : World) (hT : Tab w) (hR : Rd w w.heap.size 1 v0 bs.length (bs.map Str)) (hbs : bs.length ≤ maxLen) :
    Calls Tryd.prog 10 #[v0, .agg #[.int .i64 a0, .int .i64 a1, .int .i64 a2]] w fun e w' => e = .returned (.bool true) ∧ Ext w w' := by
  have hR0 := hR
  obtain ⟨A, c, rfl, -, -, hc⟩ := hR
  obtain ⟨n, hn⟩ : ∃ n, bs.length = n := ⟨_, rfl⟩
  have HR0 := Kp.mk hR0
  rw [hn] at hc hbs
  rw [hn]
  unfold maxLen at hbs
  have HN := Kp.mk hn
  clear hR0
  obtain ⟨w0, hw0, E0, A0⟩ : ∃ w0, w0 = w.alloc (.cells #[.int .i64 a0, .int .i64 a1, .int .i64 a2] 58) ∧ Ext w w0 ∧ Arr w0 w.heap.size 58 [.int .i64 a0, .int .i64 a1, .int .i64 a2] := ⟨_, rfl, (Ext.rfl' w).al _, Arr.new w _ [.int .i64 a0, .int .i64 a1, .int .i64 a2]⟩
  have HW0 := Kp.mk hw0
  clear hw0
  by_cases p1 : n < 1
  · have q1 : decide ((n : Int) < 1) = true := by simp; omega
    clear hn hc
    go_enter Tryd.func10, Tryd.ntmps10
    go_upto_region 1 with fail
    rw [← HW0.out]
    clear HW0
    go_upto_region 2 with fail
    go_wp2_with fail
    refine (works43_any _ (hT.ext E0)).mono ?_
    rintro e w1 ⟨rfl, E1⟩
    go_wp2
    go_ret
    exact ⟨rfl, E0.tr E1⟩
  · have q1 : decide ((n : Int) < 1) = false := by simp; omega
    by_cases p2 : 20 < n
    · have q2 : decide ((20 : Int) < (n : Int)) = true := by simp; omega
      clear hn hc
      go_enter Tryd.func10, Tryd.ntmps10
      go_upto_region 1 with fail
      rw [← HW0.out]
      clear HW0
      go_upto_region 2 with fail
      go_wp2_with fail
      refine (works43_any _ (hT.ext E0)).mono ?_
      rintro e w1 ⟨rfl, E1⟩
      go_wp2
      go_ret
      exact ⟨rfl, E0.tr E1⟩
    · have q2 : decide ((20 : Int) < (n : Int)) = false := by simp; omega
      have h1 : 1 ≤ n := by omega
      have h20 : n ≤ 20 := by omega
      obtain ⟨b, off, rfl, hbw, hcell⟩ := hc (by omega)
      have hcl := Kp.mk (show ∀ (j : Nat) (s : List UInt8), bs[j]? = some s → ∀ W : World, Ext w W → W.cell? ⟨b, off + j, none⟩ = some (.string (ofL s)) from fun j s hj W hW => ((bcell hW).1 b _ (by omega)).trans (hcell j _ (by rw [List.getElem?_map, hj]; rfl)))
      clear hn hc p1 p2 hcell
      go_enter Tryd.func10, Tryd.ntmps10
      go_upto_region 1 with fail
      rw [← HW0.out]
      clear HW0
      go_wp2_with fail
      refine (dnew_any n h1 (by omega) _).mono ?_
      rintro e w4 ⟨p, g, m, rfl, D4, E4⟩
      have hpB := D4.pB; have hgB := D4.gB
      have hs0 := E0.size
      have E04 := E0.tr E4
      have D4' : DkAt w4 w0.heap.size p g m (fillD bs none 0) := by rw [fillD_zero, HN.out]; exact D4
      clear q1 q2 D4
      go_upto_region 5 with fail
      go_loopw [7] (fun i wr => ∃ j : Nat, i = .int .i64 j ∧ j ≤ n ∧ DkAt wr w0.heap.size p g m (fillD bs none j) ∧ Ext w0 wr ∧ Ext w wr) (fun i _ => n - (intOf i).toNat)
      case atStart => exact ⟨0, rfl, Nat.zero_le _, D4', E4, E04⟩
      case round =>
        clear D4' E4 E04
        obtain ⟨j, rfl, hj, D, EW0, EW⟩ := hrel
        by_cases hjn : j < n
        · obtain ⟨s1, hs1⟩ : ∃ s, bs[j]? = some s := ⟨_, List.getElem?_eq_getElem (by rw [HN.out]; exact hjn)⟩
          have c1 := hcl.out j s1 hs1 wr EW
          have hsz : (ofL s1).size = s1.length := size_ofL s1
          by_cases h128 : s1.length = 128
          · have q1 : ((s1.length : Int) != 128) = false := by rw [h128]; rfl
            have hfl := fillD_len (cr := none) (show j ≤ bs.length by rw [HN.out]; omega)
            have cW := Kp.mk (dwrite_any D rfl (i := j) (by rw [hfl, HN.out]; exact hjn) h128 (by show j < 1000000; omega))
            rw [fillD_put hs1 (show crAt none j = (0, false) from rfl)] at cW
            clear hfl D hs1
            go_wp2_with fail
            refine cW.out.mono ?_
            rintro e w5 ⟨rfl, D5, T5⟩
            have F0 := T5.toExt EW0 hpB hgB
            have F1 := T5.toExt EW (by omega) (by omega)
            clear cW T5 EW0 EW c1
            go_wp2_with fail
            go_roundw
            case rel => exact ⟨j + 1, by go_num, hjn, D5, F0, F1⟩
            case measure => simp [intOf]; omega
          · have q1 : ((s1.length : Int) != 128) = true := by simp; omega
            have E0 := EW
            clear D hs1
            go_wp2_with fail
            refine (works43_any _ (hT.ext E0)).mono ?_
            rintro e w1 ⟨rfl, E1⟩
            go_wp2
            go_ret
            exact ⟨rfl, E0.tr E1⟩
        · obtain rfl : j = n := by omega
          have D5 : DkAt wr w0.heap.size p g m ⟨bs, none, bs.length, false⟩ := by
            have := D
            rw [show fillD bs none j = ⟨bs, none, bs.length, false⟩ by rw [← HN.out]; exact fillD_all bs none] at this
            exact this
          have A5 := A0.ext EW0 A0.lt
          have b0 := A5.cell 0; have b1 := A5.cell 1; have b2 := A5.cell 2
          simp only [List.getElem?_cons_zero, List.getElem?_cons_succ] at b0 b1 b2
          have cR := Kp.mk (eread_any D5 rfl (hT.ext EW) a0 a1 a2)
          have cQ := Kp.mk (fun W (hW : Ext w W) => rread_any (rd_at HR0.out hW) (by rw [HN.out]; omega) a0 a1 a2)
          simp only [HN.out] at cQ
          dsimp only at cR
          obtain ⟨R, hRR⟩ : ∃ R, readE bs a0 a1 a2 = R := ⟨_, rfl⟩
          have hpos := fun k s N (h : R = some (k, s, N)) => readE_pos (hRR.trans h)
          rw [hRR] at cR
          simp only [hRR] at cQ
          clear hRR D D5 hcl
          go_wp2_with fail
          refine cR.out.mono ?_
          rintro e w5 ⟨rfl, E5⟩
          have EW5 := EW.tr E5
          have A6 := A5.ext E5 A5.lt
          clear cR b0 b1 b2 A5
          cases R with
          | none =>
            unfold readV
            dsimp only
            go_upto_region 10 with fail
            obtain ⟨V5, hV5, EV5, B5⟩ : ∃ V, w5.alloc (.cells #[.int .i64 0, .string ⟨#[]⟩, .int .i64 0] 61) = V ∧ Ext w5 V ∧ Arr V w5.heap.size 61 [.int .i64 0, .string ⟨#[]⟩, .int .i64 0] := ⟨_, rfl, (Ext.rfl' _).al _, Arr.new w5 _ [.int .i64 0, .string ⟨#[]⟩, .int .i64 0]⟩
            rw [hV5]
            have A7 := A6.ext EV5 A6.lt
            have b0 := A7.cell 0; have b1 := A7.cell 1; have b2 := A7.cell 2
            simp only [List.getElem?_cons_zero, List.getElem?_cons_succ] at b0 b1 b2
            have E6 := EW5.tr EV5
            have cQ5 := Kp.mk (cQ.out V5 E6)
            clear cQ hV5 EV5 A6 EW5
            go_wp2_with fail
            refine cQ5.out.mono ?_
            rintro e w6 ⟨rfl, E7⟩
            unfold refV
            dsimp only
            have B6 := B5.ext E7 B5.lt
            have E0 := E6.tr E7
            have hse := ent_self 0 0 [] w6
            unfold entV at hse
            replace hse : (binOp .eql 61 (.agg #[.int .i64 0, .string ⟨#[]⟩, .int .i64 0]) (.agg #[.int .i64 0, .string ⟨#[]⟩, .int .i64 0])).run Tryd.prog w6 = .ok (.bool true) w6 := hse
            clear b0 b1 b2 A7 cQ5 E6 E7
            have b0 := B6.cell 0; have b1 := B6.cell 1; have b2 := B6.cell 2
            simp only [List.getElem?_cons_zero, List.getElem?_cons_succ] at b0 b1 b2
            clear B6 B5
            go_wp2_with fail
            refine (works43_any _ (hT.ext E0)).mono ?_
            rintro e w1 ⟨rfl, E1⟩
            go_wp2
            go_ret
            exact ⟨rfl, E0.tr E1⟩
          | some r =>
            obtain ⟨k, s, N⟩ := r
            have hN0 := hpos k s N rfl
            have q5 : decide ((0 : Int) < (N : Int)) = true := by simp; exact hN0
            unfold readV
            dsimp only
            go_upto_region 10 with fail
            obtain ⟨V5, hV5, EV5, B5⟩ : ∃ V, w5.alloc (.cells #[.int .i64 k, .string (ofL s), .int .i64 N] 61) = V ∧ Ext w5 V ∧ Arr V w5.heap.size 61 [.int .i64 k, .string (ofL s), .int .i64 N] := ⟨_, rfl, (Ext.rfl' _).al _, Arr.new w5 _ [.int .i64 k, .string (ofL s), .int .i64 N]⟩
            rw [hV5]
            have A7 := A6.ext EV5 A6.lt
            have b0 := A7.cell 0; have b1 := A7.cell 1; have b2 := A7.cell 2
            simp only [List.getElem?_cons_zero, List.getElem?_cons_succ] at b0 b1 b2
            have E6 := EW5.tr EV5
            have cQ5 := Kp.mk (cQ.out V5 E6)
            clear cQ hV5 EV5 A6 EW5
            go_wp2_with fail
            refine cQ5.out.mono ?_
            rintro e w6 ⟨rfl, E7⟩
            unfold refV
            dsimp only
            have B6 := B5.ext E7 B5.lt
            have E0 := E6.tr E7
            have hse := ent_self k N s w6
            unfold entV at hse
            clear b0 b1 b2 A7 cQ5 E6 E7
            have b0 := B6.cell 0; have b1 := B6.cell 1; have b2 := B6.cell 2
            simp only [List.getElem?_cons_zero, List.getElem?_cons_succ] at b0 b1 b2
            clear B6 B5
            go_wp2_with fail
            refine (works43_any _ (hT.ext E0)).mono ?_
            rintro e w1 ⟨rfl, E1⟩
            go_wp2
            go_ret
            exact ⟨rfl, E0.tr E1⟩
end Go.Proofs.YtmnpbpfeoackiaaDoor
