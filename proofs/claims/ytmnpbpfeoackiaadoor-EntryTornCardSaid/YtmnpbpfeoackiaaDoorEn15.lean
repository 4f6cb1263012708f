/-
  porterlaw43.works: a writing, two readings, at a disk of eight blocks. No condition.
-/
import Derived.Test.YtmnpbpfeoackiaaDoorMhD
import Derived.Test.YtmnpbpfeoackiaaDoorEn12
import Derived.Test.YtmnpbpfeoackiaaDoorMhG
namespace Go.Proofs.YtmnpbpfeoackiaaDoor
open Go.RowKit

theorem works43_plain (zero213 : List UInt8) (hl : zero213.length = 213) : ∃ bs', writeE (dk0 8 none) 2 5 1 7 zero213 = (⟨bs', none, 3, false⟩, 0) ∧ readE bs' 2 5 1 = some (7, zero213, 3) ∧ readE bs' 2 6 1 = none := by
  have hb : blkN ((213 : Nat) : Int) = 3 := by decide
  have hc : checkE ((List.replicate 8 (List.replicate 128 (0 : UInt8))).length : Nat) (2 : Nat) 5 (1 : Nat) 7 zero213.length = 0 := by
    rw [hl, List.length_replicate]
    decide
  obtain ⟨bs', h1, h2, h3⟩ := writeE_done (wr := 0) hc
  rw [hl, hb] at h1 h3
  refine ⟨bs', h1, ?_, ?_⟩
  · have hG := check_good hc
    rw [← h2] at hG
    have q := readE_frames hG (fun k hk => by
      rw [hl, hb] at hk
      rw [h3, if_pos ⟨by omega, by omega⟩]
      congr 1
      omega)
    rw [hl, hb] at q
    exact q
  · refine readE_other (fp := 2) (ix := 1) fun b hbq => ?_
    rw [h3, if_pos ⟨by omega, by omega⟩, show 2 + 1 - (2 + 1) = 0 by omega, framesE_get (by rw [length_partsE (by omega), hl, hb]; omega)] at hbq
    have hf := frame_put (check_good hc) (k := 0) (by rw [hl, hb]; omega) (partsE_le zero213 _ (List.getElem_mem (by rw [length_partsE (by omega), hl, hb]; omega : 0 < (partsE zero213).length)))
    have hgt := frGet_put hf.2 (by rw [hf.1])
    rw [hf.1] at hgt
    rw [← Option.some.inj hbq, hgt]
    show markN 5 (((1 : Nat) : Int) + ((0 : Nat) : Int)) (0 == 0) ≠ markN 6 ((1 : Nat) : Int) true
    decide

def entV (k : Int) (s : List UInt8) (n : Int) : Value := .agg #[.int .i64 k, .string (ofL s), .int .i64 n]
set_option maxRecDepth 1000000 in
theorem ent_fields : Tryd.prog.fieldsOf 61 = (match Tryd.prog.underlying 61 with | some (.struct fs) => fs | _ => #[]) := rfl
set_option maxRecDepth 100000 in
theorem ent_self (k n : Int) (s : List UInt8) (W : World) : (binOp .eql 61 (entV k s n) (entV k s n)).run Tryd.prog W = .ok (.bool true) W := by
  have hu : Tryd.prog.underlying 61 = some (.struct (Tryd.prog.fieldsOf 61)) := by rw [ent_fields, Tryd.underlying61]
  have hs : Tryd.prog.underlying 9 = some .string := Tryd.underlying9
  have hi : Tryd.prog.underlying 3 = some (.int .i64) := Tryd.underlying3
  have h1 := fun (W : World) => run_equalIn_string (P := Tryd.prog) W 9998 _ (ofL s) (ofL s) hs
  have h2 := fun (W : World) (a b : Int) => run_equalIn_int (P := Tryd.prog) W 9998 _ .i64 .i64 a b hi
  unfold entV
  rw [run_eql_struct]
  have he : (Op.equalIn 10000 61 (.agg #[.int .i64 k, .string (ofL s), .int .i64 n]) (.agg #[.int .i64 k, .string (ofL s), .int .i64 n])).run Tryd.prog W = .ok true W := by
    rw [run_equalIn_agg W 9999 _ _ _ hu (by kernel_rfl), ent_fields, Tryd.underlying61]
    simp [Op.eqFields, go_sem]
  rw [he]
  rfl

set_option maxRecDepth 100000 in
set_option maxHeartbeats 4000000 in
theorem works43_any (w : World) (hT : Tab w) : Calls Tryd.prog 29 #[] w fun e w' => e = .returned (.bool true) ∧ Ext w w' := by
  obtain ⟨zero213, hz⟩ : ∃ l, List.replicate 213 (0 : UInt8) = l := ⟨_, rfl⟩
  have hzl : zero213.length = 213 := by rw [← hz]; exact List.length_replicate
  obtain ⟨bs', hw, hr1, hr2⟩ := works43_plain zero213 hzl
  have HZ := Kp.mk hz
  have cN := Kp.mk (show Calls Tryd.prog 30 #[.int .i64 8, .slice none 0 0] w fun e w' => ∃ p g m, e = .returned (.tuple #[.pointer (some ⟨p, 0, none⟩), .int .i64 0]) ∧ DkAt w' w.heap.size p g m (dk0 8 none) ∧ Ext w w' from dnew_any 8 (by omega) (by omega) w)
  have HW := Kp.mk hw; have HR1 := Kp.mk hr1; have HR2 := Kp.mk hr2
  clear hw hr1 hr2 hz hzl
  go_enter Tryd.func29, Tryd.ntmps29
  go_wp2_with fail
  refine cN.out.mono ?_
  rintro e w1 ⟨p, g, m, rfl, D1, E1⟩
  clear cN
  go_wp2_with (at_make; refine wpl_make Tryd.elemU8 rfl _ rfl _ _ rfl 213 rfl rfl rfl rfl (by omega) (by omega) ?_)
  intro w2 O2 E2
  have D2 := D1.ext E2
  have E12 := E1.tr E2
  have O2' : w2.ownsRow w1.heap.size 5 1 (.slice (some ⟨w1.heap.size, 0, none⟩) 213 213) 213 (zero213.map U8) := own_eq O2 (by rw [← HZ.out, List.map_replicate]; rfl) rfl
  have hcv := Tryd.str O2'
  have hp1 := D1.box.lt
  have hg1 := D1.row.lt
  have cW := Kp.mk (ewrite_any D2 rfl (by decide) 2 5 1 7 zero213 (hT.ext E12))
  rw [HW.out] at cW
  clear O2 D1 D2 E1 E2
  go_wp2_with fail
  refine cW.out.mono ?_
  rintro e w3 ⟨rfl, D3, T3⟩
  have E3 := T3.toExt E12 D3.pB D3.gB
  have O3 := own_ext O2' (fun k hk hlt => T3.block k hlt (by omega) (by omega))
  have cR1 := Kp.mk (eread_any D3 rfl (hT.ext E3) 2 5 1)
  dsimp only at cR1
  rw [HR1.out] at cR1
  clear cW hcv O2' T3 E12
  go_wp2_with fail
  refine cR1.out.mono ?_
  rintro e w4 ⟨rfl, E4⟩
  unfold readV
  dsimp only
  go_upto_region 5 with fail
  obtain ⟨V5, hV5, EV5, B5⟩ : ∃ V, w4.alloc (.cells #[.int .i64 7, .string (ofL zero213), .int .i64 3] 61) = V ∧ Ext w4 V ∧ Arr V w4.heap.size 61 [.int .i64 7, .string (ofL zero213), .int .i64 3] := ⟨_, rfl, (Ext.rfl' _).al _, Arr.new w4 _ [.int .i64 7, .string (ofL zero213), .int .i64 3]⟩
  rw [hV5]
  have E45 := E4.tr EV5
  have D5 := D3.ext E45
  have E5 := E3.tr E45
  have O5 := own_ext O3 (fun k _ hlt => E45.block k hlt)
  have cR2 := Kp.mk (eread_any D5 rfl (hT.ext E5) 2 6 1)
  dsimp only at cR2
  rw [HR2.out] at cR2
  clear cR1 E45 hV5 EV5 D3 E3 O3 E4 D5
  go_wp2_with fail
  refine cR2.out.mono ?_
  rintro e w6 ⟨rfl, E6⟩
  unfold readV
  dsimp only
  have B6 := B5.ext E6 B5.lt
  have O6 := own_ext O5 (fun k _ hlt => E6.block k hlt)
  have E06 := E5.tr E6
  clear B5 O5 E5 E6 cR2
  go_upto_region 6 with fail
  obtain ⟨V7, hV7, EV7⟩ : ∃ V, w6.alloc (.cells #[.int .i64 0, .string ⟨#[]⟩, .int .i64 0] 61) = V ∧ Ext w6 V := ⟨_, rfl, (Ext.rfl' _).al _⟩
  rw [hV7]
  have B7 := B6.ext EV7 B6.lt
  have O7 := own_ext O6 (fun k _ hlt => EV7.block k hlt)
  have E07 := E06.tr EV7
  have hcv := Tryd.str O7
  have b0 := B7.cell 0; have b1 := B7.cell 1; have b2 := B7.cell 2
  simp only [List.getElem?_cons_zero, List.getElem?_cons_succ] at b0 b1 b2
  have hse := ent_self 7 3 zero213 V7
  unfold entV at hse
  have cB := Kp.mk (show Calls Tryd.prog 35 #[.int .i64 212] V7 fun e w' => e = .returned (.int .i64 2) ∧ w' = V7 from eblocks_any 212 V7)
  have cM := Kp.mk (show Calls Tryd.prog 34 #[.int .i64 5, .int .i64 1, .bool true] V7 fun e w' => e = .returned (.int .i64 10485763) ∧ w' = V7 from emark_any 5 1 true V7)
  clear hV7 EV7 B6 O6 E06
  go_wp2_with fail
  refine cB.out.mono ?_
  rintro e w8 ⟨rfl, rfl⟩
  go_wp2_with fail
  refine cM.out.mono ?_
  rintro e w8 ⟨rfl, rfl⟩
  go_wp2
  go_ret
  exact ⟨rfl, E07⟩
end Go.Proofs.YtmnpbpfeoackiaaDoor
