/-
  Package sha's reference: a step over a block that begins at a place. Conditions: the block lies in the text; the slice holds the 64 constants; at most 1000000 bytes.
-/
import Derived.Test.YtmnpbpfeoackiaaDoorMhC
import Derived.Test.YtmnpbpfeoackiaaDoorGen
namespace Go.Proofs.YtmnpbpfeoackiaaDoor
open Go.RowKit

theorem Tryd.elemU32 : Elem Tryd.prog 151 153 (.int .u32 0) 1 4 := ⟨Tryd.underlying151, info_parts (by kernel_rfl), rfl, by decide⟩
theorem map_get (l : List UInt32) (k : Nat) (h : k < l.length) : (l.map W32)[k]? = some (W32 (l.getD k 0)) := by
  rw [List.getElem?_map, List.getElem?_eq_getElem h, List.getD_eq_getElem?_getD, List.getElem?_eq_getElem h]; rfl
/-- The first k of Z, then what is left of Y. -/
def mixL (Z Y : List UInt32) (k : Nat) : List UInt32 := Z.take k ++ Y.drop k
theorem mix_get (Z Y : List UInt32) (k : Nat) (h : k < 8) (hZ : Z.length = 8) (hY : Y.length = 8) : ((mixL Z Y k).map W32)[k]? = some (W32 (Y.getD k 0)) := by
  unfold mixL
  rw [List.getElem?_map, List.getElem?_append_right (by rw [List.length_take]; omega), List.length_take, show k - min k Z.length = 0 by omega, List.getElem?_drop, Nat.add_zero, List.getD_eq_getElem?_getD, List.getElem?_eq_getElem (by omega)]
  rfl
theorem mix_set (Z Y : List UInt32) (k : Nat) (h : k < 8) (hZ : Z.length = 8) (hY : Y.length = 8) : ((mixL Z Y k).map W32).set k (W32 (Z.getD k 0)) = (mixL Z Y (k + 1)).map W32 := by
  unfold mixL
  rw [← List.map_set, List.set_append_right _ _ (by rw [List.length_take]; omega), List.length_take, show k - min k Z.length = 0 by omega, List.drop_eq_getElem_cons (by omega), List.set_cons_zero,
    List.take_succ_eq_append_getElem (by omega), List.append_assoc, List.getD_eq_getElem?_getD, List.getElem?_eq_getElem (by omega)]
  rfl
theorem Arr.dr1 {w W : World} {g : Nat} {t : TypeId} {xs : List Value} (h : Arr w g t xs) (hW : W = w.drew) : Arr W g t xs := by subst hW; exact h
theorem or_add (A B k p : Nat) (hp : 2 ^ k = p) (h : B < p) : A * p ||| B = A * p + B := by
  subst hp
  rw [← Nat.shiftLeft_eq, Nat.shiftLeft_add_eq_or_of_lt h]
set_option maxRecDepth 100000 in
/-- Four bytes added up are the word. -/
theorem sum_or (A B C D : Nat) (hB : B < 256) (hC : C < 256) (hD : D < 256) : ((A * 16777216 ||| B * 65536) ||| C * 256) ||| D = A * 16777216 + B * 65536 + C * 256 + D := by
  have e1 := or_add A (B * 65536) 24 16777216 (by simp) (Nat.mul_lt_mul_of_pos_right (k := 65536) (show B < 256 from hB) (by decide))
  have e2 := or_add (A * 256 + B) (C * 256) 16 65536 (by simp) (by omega)
  have e3 := or_add (A * 65536 + B * 256 + C) D 8 256 (by simp) (by omega)
  have f2 : (A * 256 + B) * 65536 = A * 16777216 + B * 65536 := by omega
  have f3 : (A * 65536 + B * 256 + C) * 256 = A * 16777216 + B * 65536 + C * 256 := by omega
  rw [f2] at e2
  rw [f3] at e3
  rw [e1, e2, e3]
theorem word_sum (l : List UInt8) : (word4 l).toNat = (l.getD 0 0).toNat * 16777216 + (l.getD 1 0).toNat * 65536 + (l.getD 2 0).toNat * 256 + (l.getD 3 0).toNat := by
  rw [← sum_or _ _ _ _ (l.getD 1 0).toNat_lt (l.getD 2 0).toNat_lt (l.getD 3 0).toNat_lt]
  unfold word4
  rw [UInt32.toNat_or, UInt32.toNat_or, UInt32.toNat_or, shl_nat _ 24 24 (by decide) (by decide), shl_nat _ 16 16 (by decide) (by decide), shl_nat _ 8 8 (by decide) (by decide), u8_32]
theorem block_at (s : List UInt8) (at' t j : Nat) (h : 4 * t + j < 64) : (((s.drop at').take 64).drop (4 * t)).getD j 0 = s.getD (at' + 4 * t + j) 0 := by
  simp only [List.getD_eq_getElem?_getD, List.getElem?_drop]
  rw [List.getElem?_take, if_pos h, List.getElem?_drop, Nat.add_assoc]
theorem slice1 {w : World} {b : Nat} {x0 : Value} (h0 : w.cell? ⟨b, 0, none⟩ = some x0) : ∀ j u, [x0][j]? = some u → w.cell? ((⟨b, 0, none⟩ : Addr).add j) = some u := by
  intro j u hu
  rw [WideShapes.add_plain, Nat.zero_add]
  match j, hu with
  | 0, hu => rw [← Option.some.inj hu]; exact h0

set_option maxRecDepth 100000 in
set_option maxHeartbeats 8000000 in
theorem rstep_any (v : St) (s : List UInt8) (p kb kc : Nat) (w : World) (hp : p + 64 ≤ s.length) (hs : s.length ≤ 1000000) (hkb : kb < w.heap.size) (hk : ∀ i, i < 64 → w.cell? ⟨kb, i, none⟩ = some (W32 (kTab.getD i 0))) :
    Calls Tryd.prog 107 #[stV v, .string (ofL s), .int .i64 p, .slice (some ⟨kb, 0, none⟩) 64 kc] w fun e w' => e = .returned (stV (stepS v ((s.drop p).take 64))) ∧ Ext w w' := by
  obtain ⟨b, hb⟩ : ∃ b, (s.drop p).take 64 = b := ⟨_, rfl⟩
  have hbl : b.length = 64 := by rw [← hb, List.length_take, List.length_drop]; omega
  obtain ⟨S, hS⟩ : ∃ S, schedL b = S := ⟨_, rfl⟩
  have hl : S.length = 64 := by rw [← hS, length_schedL]
  have hr : stepS v b = addS v (roundsS S v 64) := by unfold stepS; rw [if_neg (by omega), hS]
  rw [hb]
  have hszs := size_ofL s
  have HR := Kp.mk hr; have HB := Kp.mk hb; have HS := Kp.mk hS; have HK := Lib.hid hk
  clear hr hb hS hk hbl
  obtain ⟨a, b1, c, d, e, f, g, i⟩ := v
  go_enter Tryd.func107, Tryd.ntmps107
  go_wp2
  go_loopw [9, 10] (fun x9 x10 wr => ∃ t : Nat, ∃ vs : Value, vs = x9 ∧ t ≤ 16 ∧ x10 = .int .i64 t ∧ Ext w wr ∧ Arr wr w.heap.size 154 (stL ⟨a, b1, c, d, e, f, g, i⟩) ∧ Arr wr (w.heap.size + 1) 154 (List.replicate 8 (.int .u32 0)) ∧
    wr.ownsRow (w.heap.size + 2) 153 1 vs t (((firstW b).take t).map W32)) (fun _ x10 _ => 16 - (intOf x10).toNat)
  case atStart =>
    refine ⟨0, _, rfl, by omega, rfl, ((Ext.rfl' _).al _).al _, (Arr.new w 154 (stL ⟨a, b1, c, d, e, f, g, i⟩)).alloc _, ?_, World.ownsRow_nil _ _ _ _⟩
    have h := Arr.new (w.alloc (.cells (stCells ⟨a, b1, c, d, e, f, g, i⟩) 154)) 154 (List.replicate 8 (.int .u32 0))
    rw [show (w.alloc (.cells (stCells ⟨a, b1, c, d, e, f, g, i⟩) 154)).heap.size = w.heap.size + 1 by simp] at h
    exact h
  case round =>
    obtain ⟨t, vs, rfl, ht, rfl, hE, A0, A1, hown⟩ := hrel
    by_cases hlt : t < 16
    · obtain ⟨i0, hi0⟩ : ∃ i0, p + 4 * t = i0 := ⟨_, rfl⟩
      have h40 : (p : Int) + 4 * t = i0 := by omega
      go_upto_region 6 with fail
      clear h40
      have b0 : (i0 : Int) < s.length := by omega
      obtain ⟨i1, hi1⟩ : ∃ i1, i0 + 1 = i1 := ⟨_, rfl⟩
      obtain ⟨i2, hi2⟩ : ∃ i2, i0 + 2 = i2 := ⟨_, rfl⟩
      obtain ⟨i3, hi3⟩ : ∃ i3, i0 + 3 = i3 := ⟨_, rfl⟩
      have b1' : (i1 : Int) < s.length := by omega
      have b2' : (i2 : Int) < s.length := by omega
      have b3' : (i3 : Int) < s.length := by omega
      obtain ⟨a0, ha0⟩ : ∃ a, s.getD i0 0 = a := ⟨_, rfl⟩
      obtain ⟨a1, ha1⟩ : ∃ a, s.getD i1 0 = a := ⟨_, rfl⟩
      obtain ⟨a2, ha2⟩ : ∃ a, s.getD i2 0 = a := ⟨_, rfl⟩
      obtain ⟨a3, ha3⟩ : ∃ a, s.getD i3 0 = a := ⟨_, rfl⟩
      obtain ⟨x, hx⟩ : ∃ x, word4 (b.drop (4 * t)) = x := ⟨_, rfl⟩
      have la0 := a0.toNat_lt; have la1 := a1.toNat_lt; have la2 := a2.toNat_lt; have la3 := a3.toNat_lt
      have hxs : x.toNat = a0.toNat * 16777216 + a1.toNat * 65536 + a2.toNat * 256 + a3.toNat := by
        rw [← hx, word_sum, ← HB.out, block_at s p t 0 (by omega), block_at s p t 1 (by omega), block_at s p t 2 (by omega), block_at s p t 3 (by omega), hi0, hi1, hi2, hi3, Nat.add_zero, ha0, ha1, ha2, ha3]
      obtain ⟨t1, ht1⟩ : ∃ t1 : Int, (a0.toNat : Int) * 16777216 + (a1.toNat : Int) * 65536 = t1 := ⟨_, rfl⟩
      obtain ⟨t2, ht2⟩ : ∃ t2 : Int, t1 + (a2.toNat : Int) * 256 = t2 := ⟨_, rfl⟩
      have g0 : ∀ h, (ofL s)[i0]'h = a0 := fun h => by rw [← ha0, ofL_at]
      have g1 : ∀ h, (ofL s)[i1]'h = a1 := fun h => by rw [← ha1, ofL_at]
      have g2 : ∀ h, (ofL s)[i2]'h = a2 := fun h => by rw [← ha2, ofL_at]
      have g3 : ∀ h, (ofL s)[i3]'h = a3 := fun h => by rw [← ha3, ofL_at]
      have I1 := Lib.hid (show IntKind.i64.wrap ((i0 : Int) + 1) = (i1 : Int) by rw [IntWalk.i64_in _ (by omega)]; omega)
      have I2 := Lib.hid (show IntKind.i64.wrap ((i0 : Int) + 2) = (i2 : Int) by rw [IntWalk.i64_in _ (by omega)]; omega)
      have I3 := Lib.hid (show IntKind.i64.wrap ((i0 : Int) + 3) = (i3 : Int) by rw [IntWalk.i64_in _ (by omega)]; omega)
      have WA := Lib.hid (show IntKind.u32.wrap (a0.toNat : Int) = a0.toNat by show (a0.toNat : Int) % 4294967296 = _; omega)
      have WB := Lib.hid (show IntKind.u32.wrap (a1.toNat : Int) = a1.toNat by show (a1.toNat : Int) % 4294967296 = _; omega)
      have WC := Lib.hid (show IntKind.u32.wrap (a2.toNat : Int) = a2.toNat by show (a2.toNat : Int) % 4294967296 = _; omega)
      have WD := Lib.hid (show IntKind.u32.wrap (a3.toNat : Int) = a3.toNat by show (a3.toNat : Int) % 4294967296 = _; omega)
      have SA := Lib.hid (show IntKind.u32.wrap ((a0.toNat : Int) * 16777216) = (a0.toNat : Int) * 16777216 by show ((a0.toNat : Int) * 16777216) % 4294967296 = _; omega)
      have SB := Lib.hid (show IntKind.u32.wrap ((a1.toNat : Int) * 65536) = (a1.toNat : Int) * 65536 by show ((a1.toNat : Int) * 65536) % 4294967296 = _; omega)
      have SC := Lib.hid (show IntKind.u32.wrap ((a2.toNat : Int) * 256) = (a2.toNat : Int) * 256 by show ((a2.toNat : Int) * 256) % 4294967296 = _; omega)
      have U1 := Lib.hid (show IntKind.u32.wrap ((a0.toNat : Int) * 16777216 + (a1.toNat : Int) * 65536) = t1 by show ((a0.toNat : Int) * 16777216 + (a1.toNat : Int) * 65536) % 4294967296 = _; omega)
      have U2 := Lib.hid (show IntKind.u32.wrap (t1 + (a2.toNat : Int) * 256) = t2 by show (t1 + (a2.toNat : Int) * 256) % 4294967296 = _; omega)
      have U3 := Lib.hid (show IntKind.u32.wrap (t2 + (a3.toNat : Int)) = x.toNat by show (t2 + (a3.toNat : Int)) % 4294967296 = _; omega)
      have G0 := Lib.hid g0; have G1 := Lib.hid g1; have G2 := Lib.hid g2; have G3 := Lib.hid g3
      have HX := Kp.mk hx
      clear g0 g1 g2 g3 ht1 ht2 hxs hx ha0 ha1 ha2 ha3 hi0 hi1 hi2 hi3 la0 la1 la2 la3
      refine wp_region_tails (fun i v W => match i with
        | 0 => v = vs
        | 1 => v = .string (ofL s)
        | 2 => v = .int .i64 i0
        | 3 => v = .int .u8 a0.toNat
        | 4 => v = .int .u32 a0.toNat
        | 5 => v = .int .u32 ((a0.toNat : Int) * 16777216)
        | 6 => v = .string (ofL s)
        | 7 => v = .int .i64 i0
        | 8 => v = .int .i64 i1
        | 9 => v = .int .u8 a1.toNat
        | 10 => v = .int .u32 a1.toNat
        | 11 => v = .int .u32 ((a1.toNat : Int) * 65536)
        | 12 => v = .int .u32 t1
        | 13 => v = .string (ofL s)
        | 14 => v = .int .i64 i0
        | 15 => v = .int .i64 i2
        | 16 => v = .int .u8 a2.toNat
        | 17 => v = .int .u32 a2.toNat
        | 18 => v = .int .u32 ((a2.toNat : Int) * 256)
        | 19 => v = .int .u32 t2
        | 20 => v = .string (ofL s)
        | 21 => v = .int .i64 i0
        | 22 => v = .int .i64 i3
        | 23 => v = .int .u8 a3.toNat
        | 24 => v = .int .u32 a3.toNat
        | 25 => v = W32 x
        | 26 => ∃ b, v = .slice (some ⟨b, 0, none⟩) 1 1 ∧ W.cell? ⟨b, 0, none⟩ = some (W32 x)
        | _ => True) 27 (by kernel_rfl) (by kernel_rfl) (by kernel_rfl) (by decide) (by kernel_rfl) (by kernel_rfl) (by kernel_rfl) ?_ ?_ ?_
      · intro i v W1 W2 e1 e2 h
        match i, h with
        | 0, h => exact h
        | 1, h => exact h
        | 2, h => exact h
        | 3, h => exact h
        | 4, h => exact h
        | 5, h => exact h
        | 6, h => exact h
        | 7, h => exact h
        | 8, h => exact h
        | 9, h => exact h
        | 10, h => exact h
        | 11, h => exact h
        | 12, h => exact h
        | 13, h => exact h
        | 14, h => exact h
        | 15, h => exact h
        | 16, h => exact h
        | 17, h => exact h
        | 18, h => exact h
        | 19, h => exact h
        | 20, h => exact h
        | 21, h => exact h
        | 22, h => exact h
        | 23, h => exact h
        | 24, h => exact h
        | 25, h => exact h
        | 26, ⟨b, h1, h2⟩ => exact ⟨b, h1, ((bcell e2).1 b 0 (World.block_lt_of_cell? _ _ h2)).trans h2⟩
        | (i + 27), h => exact h
      · refine localsR_cons (fun u W hW hd => leaves_val rfl (v := vs) (by go_simp) rfl) ?_
        refine localsR_cons (fun u W hW hd => leaves_val rfl (v := .string (ofL s)) (by go_simp) rfl) ?_
        refine localsR_cons (fun u W hW hd => leaves_val rfl (v := .int .i64 i0) (by go_simp) rfl) ?_
        refine localsR_cons (fun u W hW hd => ?_) ?_
        · have h1 : u 1 = _ := hd 1 (by kernel_rfl)
          have h2 : u 2 = _ := hd 2 (by kernel_rfl)
          have g := G0.out
          exact leaves_val rfl (v := .int .u8 a0.toNat) (by go_simp) rfl
        refine localsR_cons (fun u W hW hd => ?_) ?_
        · have h3 : u 3 = _ := hd 3 (by kernel_rfl)
          have g := WA.out
          exact leaves_val rfl (v := .int .u32 a0.toNat) (by go_simp) rfl
        refine localsR_cons (fun u W hW hd => ?_) ?_
        · have h4 : u 4 = _ := hd 4 (by kernel_rfl)
          have g := SA.out
          exact leaves_val rfl (v := .int .u32 ((a0.toNat : Int) * 16777216)) (by go_simp) rfl
        refine localsR_cons (fun u W hW hd => leaves_val rfl (v := .string (ofL s)) (by go_simp) rfl) ?_
        refine localsR_cons (fun u W hW hd => leaves_val rfl (v := .int .i64 i0) (by go_simp) rfl) ?_
        refine localsR_cons (fun u W hW hd => ?_) ?_
        · have h7 : u 7 = _ := hd 7 (by kernel_rfl)
          have g := I1.out
          exact leaves_val rfl (v := .int .i64 i1) (by go_simp) rfl
        refine localsR_cons (fun u W hW hd => ?_) ?_
        · have h6 : u 6 = _ := hd 6 (by kernel_rfl)
          have h8 : u 8 = _ := hd 8 (by kernel_rfl)
          have g := G1.out
          exact leaves_val rfl (v := .int .u8 a1.toNat) (by go_simp) rfl
        refine localsR_cons (fun u W hW hd => ?_) ?_
        · have h9 : u 9 = _ := hd 9 (by kernel_rfl)
          have g := WB.out
          exact leaves_val rfl (v := .int .u32 a1.toNat) (by go_simp) rfl
        refine localsR_cons (fun u W hW hd => ?_) ?_
        · have h10 : u 10 = _ := hd 10 (by kernel_rfl)
          have g := SB.out
          exact leaves_val rfl (v := .int .u32 ((a1.toNat : Int) * 65536)) (by go_simp) rfl
        refine localsR_cons (fun u W hW hd => ?_) ?_
        · have h5 : u 5 = _ := hd 5 (by kernel_rfl)
          have h11 : u 11 = _ := hd 11 (by kernel_rfl)
          have g := U1.out
          exact leaves_val rfl (v := .int .u32 t1) (by go_simp) rfl
        refine localsR_cons (fun u W hW hd => leaves_val rfl (v := .string (ofL s)) (by go_simp) rfl) ?_
        refine localsR_cons (fun u W hW hd => leaves_val rfl (v := .int .i64 i0) (by go_simp) rfl) ?_
        refine localsR_cons (fun u W hW hd => ?_) ?_
        · have h14 : u 14 = _ := hd 14 (by kernel_rfl)
          have g := I2.out
          exact leaves_val rfl (v := .int .i64 i2) (by go_simp) rfl
        refine localsR_cons (fun u W hW hd => ?_) ?_
        · have h13 : u 13 = _ := hd 13 (by kernel_rfl)
          have h15 : u 15 = _ := hd 15 (by kernel_rfl)
          have g := G2.out
          exact leaves_val rfl (v := .int .u8 a2.toNat) (by go_simp) rfl
        refine localsR_cons (fun u W hW hd => ?_) ?_
        · have h16 : u 16 = _ := hd 16 (by kernel_rfl)
          have g := WC.out
          exact leaves_val rfl (v := .int .u32 a2.toNat) (by go_simp) rfl
        refine localsR_cons (fun u W hW hd => ?_) ?_
        · have h17 : u 17 = _ := hd 17 (by kernel_rfl)
          have g := SC.out
          exact leaves_val rfl (v := .int .u32 ((a2.toNat : Int) * 256)) (by go_simp) rfl
        refine localsR_cons (fun u W hW hd => ?_) ?_
        · have h12 : u 12 = _ := hd 12 (by kernel_rfl)
          have h18 : u 18 = _ := hd 18 (by kernel_rfl)
          have g := U2.out
          exact leaves_val rfl (v := .int .u32 t2) (by go_simp) rfl
        refine localsR_cons (fun u W hW hd => leaves_val rfl (v := .string (ofL s)) (by go_simp) rfl) ?_
        refine localsR_cons (fun u W hW hd => leaves_val rfl (v := .int .i64 i0) (by go_simp) rfl) ?_
        refine localsR_cons (fun u W hW hd => ?_) ?_
        · have h21 : u 21 = _ := hd 21 (by kernel_rfl)
          have g := I3.out
          exact leaves_val rfl (v := .int .i64 i3) (by go_simp) rfl
        refine localsR_cons (fun u W hW hd => ?_) ?_
        · have h20 : u 20 = _ := hd 20 (by kernel_rfl)
          have h22 : u 22 = _ := hd 22 (by kernel_rfl)
          have g := G3.out
          exact leaves_val rfl (v := .int .u8 a3.toNat) (by go_simp) rfl
        refine localsR_cons (fun u W hW hd => ?_) ?_
        · have h23 : u 23 = _ := hd 23 (by kernel_rfl)
          have g := WD.out
          exact leaves_val rfl (v := .int .u32 a3.toNat) (by go_simp) rfl
        refine localsR_cons (fun u W hW hd => ?_) ?_
        · have h19 : u 19 = _ := hd 19 (by kernel_rfl)
          have h24 : u 24 = _ := hd 24 (by kernel_rfl)
          have g := U3.out
          exact leaves_val rfl (v := W32 x) (by go_simp) rfl
        refine localsR_cons (fun u W hW hd => ?_) localsR_nil
        · have h25 : u 25 = _ := hd 25 (by kernel_rfl)
          exact leaves_new rfl (v := .slice (some ⟨W.heap.size, 0, none⟩) 1 1) (by go_simp; rfl) ((Ext.rfl' W).al _) ⟨_, rfl, by simp [go_sem]⟩
      · intro u W hW hV
        have h0 : u 0 = vs := hV 0 (by decide)
        obtain ⟨bb, h26, k0⟩ := hV 26 (by decide)
        clear hV
        have hown2 := own_ext hown (fun j _ hj => hW.block j hj)
        have hcells := slice1 k0
        have hEW := hE.tr hW
        have hAW0 := A0.ext hW A0.lt
        have hAW1 := A1.ext hW A1.lt
        refine wpl_app_at Tryd.elemU32 rfl _ _ rfl hown2 1 (by go_simp) (by go_simp; rfl) rfl hcells (by intro u hu; simp at hu; rw [hu]; rfl) (by omega) (by omega) (by have := hAW1.lt; omega) ?_
        intro v2 w2 hown3 hg3
        have hE3 := hEW.own hg3 hown2 (by omega)
        have hb := hown2.lt
        have hA3 : Arr w2 w.heap.size 154 (stL ⟨a, b1, c, d, e, f, g, i⟩) := (hg3.block w.heap.size hAW0.lt (fun hh => by have := hb _ hh.symm; omega)).trans hAW0
        have hA4 : Arr w2 (w.heap.size + 1) 154 (List.replicate 8 (.int .u32 0)) := (hg3.block (w.heap.size + 1) hAW1.lt (fun hh => by have := hb _ hh.symm; omega)).trans hAW1
        have hown4 := own_eq hown3 (ys := ((firstW b).take (t + 1)).map W32) (m := t + 1) (by rw [take_firstW b t hlt, HX.out, List.map_append]; rfl) rfl
        clear hown3 hg3 hcells k0 hown2 hAW0 hAW1 hEW hW hown hE A0 A1 hb
        go_wp2
        go_roundw
        case rel => exact ⟨t + 1, v2, rfl, by omega, by go_num, hE3, hA3, hA4, hown4⟩
        case measure => simp [intOf]; omega
    · have h16 : t = 16 := by omega
      have hown' := own_eq hown (ys := (firstW b).map W32) (m := 16) (by rw [List.take_of_length_le (by rw [length_firstW]; omega)]) h16
      have HO := Kp.mk hown'
      clear hown hown' h16
      go_wp2
      go_loopw [9, 12] (fun x9 x12 wr => ∃ ws : List UInt32, ∃ vs : Value, vs = x9 ∧ 16 ≤ ws.length ∧ ws.length ≤ 64 ∧ x12 = .int .i64 ws.length ∧ Ext w wr ∧ Arr wr w.heap.size 154 (stL ⟨a, b1, c, d, e, f, g, i⟩) ∧ Arr wr (w.heap.size + 1) 154 (List.replicate 8 (.int .u32 0)) ∧
        wr.ownsRow (w.heap.size + 2) 153 1 vs ws.length (ws.map W32) ∧ moreW (64 - ws.length) ws = S) (fun _ x12 _ => 64 - (intOf x12).toNat)
      case atStart =>
        exact ⟨firstW b, _, rfl, by rw [length_firstW]; omega, by rw [length_firstW]; omega, by rw [length_firstW]; rfl, hE, A0, A1, by rw [length_firstW]; exact HO.out, by rw [length_firstW]; exact HS.out⟩
      case round =>
        clear hE A0 A1 HO hlt ht
        obtain ⟨ws, vs, rfl, h16, h64, rfl, hE, A0, A1, hown, hs0⟩ := hrel
        have HW := Kp.mk hs0; clear hs0
        by_cases hlt : ws.length < 64
        · obtain ⟨t, ht⟩ : ∃ t, ws.length = t := ⟨_, rfl⟩
          obtain ⟨AA, cw, rfl⟩ := own_slice hown
          obtain ⟨gw, rfl, hgb, hgl, hcell⟩ := own_at hown (by omega)
          rw [ht] at h16 h64 hlt hown ⊢
          have hc0 : ∀ j, j < t → ∀ W, Ext wr W → W.cell? ⟨gw, j, none⟩ = some (W32 (ws.getD j 0)) := fun j hj W hW => by
            refine ((bcell hW).1 gw j hgl).trans (hcell j _ ?_)
            rw [List.getElem?_map, List.getElem?_eq_getElem (by omega), List.getD_eq_getElem?_getD, List.getElem?_eq_getElem (by omega)]
            rfl
          have HT := Kp.mk ht; clear ht hcell
          obtain ⟨j15, e15⟩ : ∃ j, t - 15 = j := ⟨_, rfl⟩
          obtain ⟨j2, e2⟩ : ∃ j, t - 2 = j := ⟨_, rfl⟩
          obtain ⟨j7, e7⟩ : ∃ j, t - 7 = j := ⟨_, rfl⟩
          obtain ⟨j16, e16⟩ : ∃ j, t - 16 = j := ⟨_, rfl⟩
          have c15 := hc0 j15 (by omega)
          have c2 := hc0 j2 (by omega)
          have c7 := hc0 j7 (by omega)
          have c16 := hc0 j16 (by omega)
          obtain ⟨x15, hx15⟩ : ∃ x, ws.getD j15 0 = x := ⟨_, rfl⟩
          obtain ⟨x2, hx2⟩ : ∃ x, ws.getD j2 0 = x := ⟨_, rfl⟩
          obtain ⟨x7, hx7⟩ : ∃ x, ws.getD j7 0 = x := ⟨_, rfl⟩
          obtain ⟨x16, hx16⟩ : ∃ x, ws.getD j16 0 = x := ⟨_, rfl⟩
          rw [hx15] at c15; rw [hx2] at c2; rw [hx7] at c7; rw [hx16] at c16
          obtain ⟨s0, hs0⟩ : ∃ s0, ssg0 x15 = s0 := ⟨_, rfl⟩
          obtain ⟨s1, hs1⟩ : ∃ s1, ssg1 x2 = s1 := ⟨_, rfl⟩
          have F0 : bits .xor .u32 (bits .xor .u32 ((rotr x15 7).toNat : Int) (rotr x15 18).toNat) ((x15.toNat : Int) / (8 : Int)) = (s0.toNat : Int) := by
            rw [u32_xor, u32_shr3, u32_xor, ← hs0]; rfl
          have F1 : bits .xor .u32 (bits .xor .u32 ((rotr x2 17).toNat : Int) (rotr x2 19).toNat) ((x2.toNat : Int) / (1024 : Int)) = (s1.toNat : Int) := by
            rw [u32_xor, u32_shr10, u32_xor, ← hs1]; rfl
          obtain ⟨a1, ha1⟩ : ∃ a1, s1 + x7 = a1 := ⟨_, rfl⟩
          obtain ⟨a2, ha2⟩ : ∃ a2, a1 + s0 = a2 := ⟨_, rfl⟩
          obtain ⟨a3, ha3⟩ : ∃ a3, a2 + x16 = a3 := ⟨_, rfl⟩
          have hn : nextW ws = a3 := by
            unfold nextW
            rw [HT.out, e2, e7, e15, e16, hx2, hx7, hx15, hx16, hs0, hs1, ha1, ha2, ha3]
          have k15 : (t : Int) - 15 = j15 := by omega
          have k2 : (t : Int) - 2 = j2 := by omega
          have k7 : (t : Int) - 7 = j7 := by omega
          have k16 : (t : Int) - 16 = j16 := by omega
          have w15 : IntKind.i64.wrap ((t : Int) - 15) = j15 := by rw [IntWalk.i64_in _ (by omega), k15]
          have w2 : IntKind.i64.wrap ((t : Int) - 2) = j2 := by rw [IntWalk.i64_in _ (by omega), k2]
          have I7 := Lib.hid (show IntKind.i64.wrap ((t : Int) - 7) = (j7 : Int) by rw [IntWalk.i64_in _ (by omega), k7])
          have I16 := Lib.hid (show IntKind.i64.wrap ((t : Int) - 16) = (j16 : Int) by rw [IntWalk.i64_in _ (by omega), k16])
          have r15 : (j15 : Int) < t := by omega
          have r2 : (j2 : Int) < t := by omega
          have r7 : (j7 : Int) < t := by omega
          have r16 : (j16 : Int) < t := by omega
          have U1 := Lib.hid (show IntKind.u32.wrap ((s1.toNat : Int) + x7.toNat) = a1.toNat by rw [u32_wadd, ha1])
          have U2 := Lib.hid (show IntKind.u32.wrap ((a1.toNat : Int) + s0.toNat) = a2.toNat by rw [u32_wadd, ha2])
          have U3 := Lib.hid (show IntKind.u32.wrap ((a2.toNat : Int) + x16.toNat) = a3.toNat by rw [u32_wadd, ha3])
          have C7 := Lib.hid c7; have C16 := Lib.hid c16
          have d15 := c15 wr (Ext.rfl' _)
          have d2 := c2 wr (Ext.rfl' _)
          have HN := Kp.mk hn
          clear hs0 hs1 ha1 ha2 ha3 hn hx15 hx2 hx7 hx16 e15 e2 e7 e16 c15 c2 c7 c16 hc0 k15 k2 k7 k16
          go_upto_region 10 with fail
          go_quiet (fail)
          clear d15 d2 w15 w2
          go_upto_region 13 with (first
            | ((with_reducible refine (ror7 _ _).mono ?_); rintro e w' ⟨rfl, rfl⟩)
            | ((with_reducible refine (ror18 _ _).mono ?_); rintro e w' ⟨rfl, rfl⟩)
            | ((with_reducible refine (ror17 _ _).mono ?_); rintro e w' ⟨rfl, rfl⟩)
            | ((with_reducible refine (ror19 _ _).mono ?_); rintro e w' ⟨rfl, rfl⟩))
          clear F0 F1
          have hE' : Ext w (wr.drewN nq) := hE.drN nq
          have B0 := A0.drew nq; have B1 := A1.drew nq
          have hown' : (wr.drewN nq).ownsRow (w.heap.size + 2) 153 1 (.slice (some ⟨gw, 0, none⟩) t cw) t (ws.map W32) := own_ext hown (fun _ _ _ => rfl)
          have C7' := Lib.hid (fun W (hW : Ext (wr.drewN nq) W) => C7.out W (((Ext.rfl' wr).drN nq).tr hW))
          have C16' := Lib.hid (fun W (hW : Ext (wr.drewN nq) W) => C16.out W (((Ext.rfl' wr).drN nq).tr hW))
          clear hE A0 A1 hown C7 C16 hgl
          generalize wr.drewN nq = wq at *
          refine wp_region_tails (fun i v W => match i with
            | 0 => v = .slice (some ⟨gw, 0, none⟩) t cw
            | 1 => v = W32 s1
            | 2 => v = .slice (some ⟨gw, 0, none⟩) t cw
            | 3 => v = .int .i64 t
            | 4 => v = .int .i64 j7
            | 5 => v = .pointer (some ⟨gw, j7, none⟩)
            | 6 => v = W32 x7
            | 7 => v = W32 a1
            | 8 => v = W32 s0
            | 9 => v = W32 a2
            | 10 => v = .slice (some ⟨gw, 0, none⟩) t cw
            | 11 => v = .int .i64 t
            | 12 => v = .int .i64 j16
            | 13 => v = .pointer (some ⟨gw, j16, none⟩)
            | 14 => v = W32 x16
            | 15 => v = W32 a3
            | 16 => ∃ b, v = .slice (some ⟨b, 0, none⟩) 1 1 ∧ W.cell? ⟨b, 0, none⟩ = some (W32 a3)
            | _ => True) 17 (by kernel_rfl) (by kernel_rfl) (by kernel_rfl) (by decide) (by kernel_rfl) (by kernel_rfl) (by kernel_rfl) ?_ ?_ ?_
          · intro i v W1 W2 e1 e2 h
            match i, h with
            | 0, h => exact h
            | 1, h => exact h
            | 2, h => exact h
            | 3, h => exact h
            | 4, h => exact h
            | 5, h => exact h
            | 6, h => exact h
            | 7, h => exact h
            | 8, h => exact h
            | 9, h => exact h
            | 10, h => exact h
            | 11, h => exact h
            | 12, h => exact h
            | 13, h => exact h
            | 14, h => exact h
            | 15, h => exact h
            | 16, ⟨b, h1, h2⟩ => exact ⟨b, h1, ((bcell e2).1 b 0 (World.block_lt_of_cell? _ _ h2)).trans h2⟩
            | (i + 17), h => exact h
          · refine localsR_cons (fun u W hW hd => leaves_val rfl (v := .slice (some ⟨gw, 0, none⟩) t cw) (by go_simp) rfl) ?_
            refine localsR_cons (fun u W hW hd => leaves_val rfl (v := W32 s1) (by go_simp) rfl) ?_
            refine localsR_cons (fun u W hW hd => leaves_val rfl (v := .slice (some ⟨gw, 0, none⟩) t cw) (by go_simp) rfl) ?_
            refine localsR_cons (fun u W hW hd => leaves_val rfl (v := .int .i64 t) (by go_simp) rfl) ?_
            refine localsR_cons (fun u W hW hd => ?_) ?_
            · have h3 : u 3 = _ := hd 3 (by kernel_rfl)
              have g := I7.out
              exact leaves_val rfl (v := .int .i64 j7) (by go_simp) rfl
            refine localsR_cons (fun u W hW hd => ?_) ?_
            · have h2 : u 2 = _ := hd 2 (by kernel_rfl)
              have h4 : u 4 = _ := hd 4 (by kernel_rfl)
              exact leaves_val rfl (v := .pointer (some ⟨gw, j7, none⟩)) (by go_simp) rfl
            refine localsR_cons (fun u W hW hd => ?_) ?_
            · have h5 : u 5 = _ := hd 5 (by kernel_rfl)
              have g := C7'.out W hW
              exact leaves_val rfl (v := W32 x7) (by go_simp) rfl
            refine localsR_cons (fun u W hW hd => ?_) ?_
            · have h1 : u 1 = _ := hd 1 (by kernel_rfl)
              have h6 : u 6 = _ := hd 6 (by kernel_rfl)
              have g := U1.out
              exact leaves_val rfl (v := W32 a1) (by go_simp) rfl
            refine localsR_cons (fun u W hW hd => leaves_val rfl (v := W32 s0) (by go_simp) rfl) ?_
            refine localsR_cons (fun u W hW hd => ?_) ?_
            · have h7 : u 7 = _ := hd 7 (by kernel_rfl)
              have h8 : u 8 = _ := hd 8 (by kernel_rfl)
              have g := U2.out
              exact leaves_val rfl (v := W32 a2) (by go_simp) rfl
            refine localsR_cons (fun u W hW hd => leaves_val rfl (v := .slice (some ⟨gw, 0, none⟩) t cw) (by go_simp) rfl) ?_
            refine localsR_cons (fun u W hW hd => leaves_val rfl (v := .int .i64 t) (by go_simp) rfl) ?_
            refine localsR_cons (fun u W hW hd => ?_) ?_
            · have h11 : u 11 = _ := hd 11 (by kernel_rfl)
              have g := I16.out
              exact leaves_val rfl (v := .int .i64 j16) (by go_simp) rfl
            refine localsR_cons (fun u W hW hd => ?_) ?_
            · have h10 : u 10 = _ := hd 10 (by kernel_rfl)
              have h12 : u 12 = _ := hd 12 (by kernel_rfl)
              exact leaves_val rfl (v := .pointer (some ⟨gw, j16, none⟩)) (by go_simp) rfl
            refine localsR_cons (fun u W hW hd => ?_) ?_
            · have h13 : u 13 = _ := hd 13 (by kernel_rfl)
              have g := C16'.out W hW
              exact leaves_val rfl (v := W32 x16) (by go_simp) rfl
            refine localsR_cons (fun u W hW hd => ?_) ?_
            · have h9 : u 9 = _ := hd 9 (by kernel_rfl)
              have h14 : u 14 = _ := hd 14 (by kernel_rfl)
              have g := U3.out
              exact leaves_val rfl (v := W32 a3) (by go_simp) rfl
            refine localsR_cons (fun u W hW hd => ?_) localsR_nil
            · have h15 : u 15 = _ := hd 15 (by kernel_rfl)
              exact leaves_new rfl (v := .slice (some ⟨W.heap.size, 0, none⟩) 1 1) (by go_simp; rfl) ((Ext.rfl' W).al _) ⟨_, rfl, by simp [go_sem]⟩
          · intro u W hW hV
            have h0 : u 0 = _ := hV 0 (by decide)
            obtain ⟨bb, h16', k0⟩ := hV 16 (by decide)
            clear hV
            have hown2 := own_ext hown' (fun j _ hj => hW.block j hj)
            have hcells := slice1 k0
            have hEW := hE'.tr hW
            have hAW0 := B0.ext hW B0.lt
            have hAW1 := B1.ext hW B1.lt
            refine wpl_app_at Tryd.elemU32 rfl _ _ rfl hown2 1 (by go_simp) (by go_simp; rfl) rfl hcells (by intro u hu; simp at hu; rw [hu]; rfl) (by omega) (by omega) (by have := hAW1.lt; omega) ?_
            intro v2 w2 hown3 hg3
            have hE3 := hEW.own hg3 hown2 (by omega)
            have hb := hown2.lt
            have hA3 : Arr w2 w.heap.size 154 (stL ⟨a, b1, c, d, e, f, g, i⟩) := (hg3.block w.heap.size hAW0.lt (fun hh => by have := hb _ hh.symm; omega)).trans hAW0
            have hA4 : Arr w2 (w.heap.size + 1) 154 (List.replicate 8 (.int .u32 0)) := (hg3.block (w.heap.size + 1) hAW1.lt (fun hh => by have := hb _ hh.symm; omega)).trans hAW1
            have hl2 : (ws ++ [a3]).length = t + 1 := by rw [List.length_append, HT.out]; rfl
            have hown4 := own_eq hown3 (ys := (ws ++ [a3]).map W32) (m := (ws ++ [a3]).length) (by rw [List.map_append]; rfl) (by rw [hl2])
            have h2 := HW.out
            rw [HT.out, show 64 - t = (64 - (t + 1)) + 1 by omega, moreW_succ, HN.out] at h2
            clear hown3 hg3 hcells k0 hown2 hAW0 hAW1 hEW hW hown' hE' B0 B1 hb
            have HZ := Kp.mk h2; have HL2 := Kp.mk hl2; have HO4 := Kp.mk hown4
            clear h2 hl2 hown4 HT HW HN
            go_wp2
            go_roundw
            case rel => exact ⟨ws ++ [a3], v2, rfl, by have := HL2.out; omega, by have := HL2.out; omega, by rw [HL2.out]; go_num, hE3, hA3, hA4, HO4.out, by rw [HL2.out]; exact HZ.out⟩
            case measure => simp [intOf]; omega
        · have hw : ws = S := by
            have h1 := HW.out
            rw [show 64 - ws.length = 0 by omega, moreW_zero] at h1
            exact h1
          subst hw
          clear HW HS
          obtain ⟨wo, rfl⟩ : ∃ wo, wo = wr := ⟨_, rfl⟩
          obtain ⟨AA, cw, rfl⟩ := own_slice hown
          obtain ⟨gw, rfl, hgb, hgl, hcell⟩ := own_at hown (by omega)
          go_upto_region 14 with fail
          refine wp_region_list ?_
          refine wpList_load_row rfl 154 _ rfl w.heap.size rfl _ _ _ _ A0 Tryd.underlying154 rfl (by kernel_rfl) ?_
          go_wp2
          have hEx : Ext w (wo.alloc (.cells (stCells ⟨a, b1, c, d, e, f, g, i⟩) 154)) := hE.al _
          have X0 := A0.alloc (.cells (stCells ⟨a, b1, c, d, e, f, g, i⟩) 154)
          have X1 := A1.alloc (.cells (stCells ⟨a, b1, c, d, e, f, g, i⟩) 154)
          have X2 : Arr (wo.alloc (.cells (stCells ⟨a, b1, c, d, e, f, g, i⟩) 154)) wo.heap.size 154 (stL ⟨a, b1, c, d, e, f, g, i⟩) := Arr.new wo _ _
          have hGx : (wo.alloc (.cells (stCells ⟨a, b1, c, d, e, f, g, i⟩) 154)).heap[gw]? = wo.heap[gw]? := Below.heap_alloc wo _ gw hgl
          have hz : w.heap.size + 1 < wo.heap.size := A1.lt
          have hwl : ws.length = 64 := by omega
          have hSc0 : ∀ j, j < 64 → wo.cell? ⟨gw, j, none⟩ = some (W32 (ws.getD j 0)) := fun j hj => by
            refine hcell j _ ?_
            rw [List.getElem?_map, List.getElem?_eq_getElem (by omega), List.getD_eq_getElem?_getD, List.getElem?_eq_getElem (by omega)]
            rfl
          have HSC := Kp.mk hSc0
          have HWL := Kp.mk hwl
          clear hE A0 A1 hcell hSc0 hown hwl
          obtain ⟨g7, hg7⟩ : ∃ g7, wo.heap.size = g7 := ⟨_, rfl⟩
          rw [hg7] at X2 hz hgl
          rw [hg7]
          clear hg7
          generalize wo.alloc (.cells (stCells ⟨a, b1, c, d, e, f, g, i⟩) 154) = wx at *
          go_loopw [18] (fun x18 wy => ∃ t : Nat, ∃ u : St, t ≤ 64 ∧ x18 = .int .i64 t ∧ roundsS ws ⟨a, b1, c, d, e, f, g, i⟩ t = u ∧ Ext w wy ∧ Arr wy w.heap.size 154 (stL ⟨a, b1, c, d, e, f, g, i⟩) ∧ Arr wy (w.heap.size + 1) 154 (List.replicate 8 (.int .u32 0)) ∧ Arr wy g7 154 (stL u) ∧ wy.heap[gw]? = wo.heap[gw]?) (fun x18 _ => 64 - (intOf x18).toNat)
          case atStart => exact ⟨0, ⟨a, b1, c, d, e, f, g, i⟩, by omega, rfl, rfl, hEx, X0, X1, X2, hGx⟩
          case round =>
            clear hEx X0 X1 X2 hGx
            obtain ⟨t, ⟨ya, yb, yc, yd, ye, yf, yg, yh⟩, ht, rfl, hR0, hE, A0, A1, A2, hG⟩ := hrel
            have HRr := Kp.mk hR0; clear hR0
            by_cases hlt : t < 64
            · have ck0 := ((bcell hE).1 kb t hkb).trans (HK.out t hlt)
              have cs0 := (World.cell?_of_block (a := ⟨gw, t, none⟩) hG).trans (HSC.out t hlt)
              obtain ⟨k, hk⟩ : ∃ k, kTab.getD t 0 = k := ⟨_, rfl⟩
              obtain ⟨x, hx⟩ : ∃ x, ws.getD t 0 = x := ⟨_, rfl⟩
              rw [hk] at ck0; rw [hx] at cs0
              have ht63 : (t : Int) < 64 := by omega
              obtain ⟨s1, h1⟩ : ∃ s1, bsg1 ye = s1 := ⟨_, rfl⟩
              obtain ⟨s0, h0⟩ : ∃ s0, bsg0 ya = s0 := ⟨_, rfl⟩
              obtain ⟨q6, hq6⟩ : ∃ z, rotr ye 6 ^^^ rotr ye 11 = z := ⟨_, rfl⟩
              obtain ⟨q2, hq2⟩ : ∃ z, rotr ya 2 ^^^ rotr ya 13 = z := ⟨_, rfl⟩
              have QX := Kp.mk (show bits .xor .u32 ((rotr ye 6).toNat : Int) (rotr ye 11).toNat = (q6.toNat : Int) by rw [u32_xor, hq6])
              have QY := Kp.mk (show bits .xor .u32 (q6.toNat : Int) (rotr ye 25).toNat = (s1.toNat : Int) by rw [u32_xor, ← hq6, ← h1]; rfl)
              have RX := Kp.mk (show bits .xor .u32 ((rotr ya 2).toNat : Int) (rotr ya 13).toNat = (q2.toNat : Int) by rw [u32_xor, hq2])
              have RY := Kp.mk (show bits .xor .u32 (q2.toNat : Int) (rotr ya 22).toNat = (s0.toNat : Int) by rw [u32_xor, ← hq2, ← h0]; rfl)
              obtain ⟨a1, e1⟩ : ∃ z, yh + s1 = z := ⟨_, rfl⟩
              obtain ⟨ef, e2⟩ : ∃ z, ye &&& yf = z := ⟨_, rfl⟩
              obtain ⟨ne, e3⟩ : ∃ z, ~~~ye = z := ⟨_, rfl⟩
              obtain ⟨neg, e4⟩ : ∃ z, ne &&& yg = z := ⟨_, rfl⟩
              obtain ⟨ch, e5⟩ : ∃ z, ef ^^^ neg = z := ⟨_, rfl⟩
              obtain ⟨a2, e6⟩ : ∃ z, a1 + ch = z := ⟨_, rfl⟩
              obtain ⟨a3, e7⟩ : ∃ z, a2 + k = z := ⟨_, rfl⟩
              obtain ⟨t1, e8⟩ : ∃ z, a3 + x = z := ⟨_, rfl⟩
              obtain ⟨m1, e9⟩ : ∃ z, ya &&& yb = z := ⟨_, rfl⟩
              obtain ⟨m2, e10⟩ : ∃ z, ya &&& yc = z := ⟨_, rfl⟩
              obtain ⟨m3, e11⟩ : ∃ z, m1 ^^^ m2 = z := ⟨_, rfl⟩
              obtain ⟨m4, e12⟩ : ∃ z, yb &&& yc = z := ⟨_, rfl⟩
              obtain ⟨m5, e13⟩ : ∃ z, m3 ^^^ m4 = z := ⟨_, rfl⟩
              obtain ⟨q1, e14⟩ : ∃ z, t1 + s0 = z := ⟨_, rfl⟩
              obtain ⟨na, e15⟩ : ∃ z, q1 + m5 = z := ⟨_, rfl⟩
              obtain ⟨nd, e16⟩ : ∃ z, yd + t1 = z := ⟨_, rfl⟩
              have e17 : t1 + (s0 + m5) = na := by rw [← e15, ← e14, UInt32.add_assoc]
              have hround : roundS ⟨ya, yb, yc, yd, ye, yf, yg, yh⟩ k x = ⟨na, ya, yb, yc, nd, ye, yf, yg⟩ := by
                unfold roundS
                simp only [h0, h1, e1, e2, e3, e4, e5, e6, e7, e8, e9, e10, e11, e12, e13, e16, e17]
              have hnext : roundsS ws ⟨a, b1, c, d, e, f, g, i⟩ (t + 1) = ⟨na, ya, yb, yc, nd, ye, yf, yg⟩ := by
                rw [← hround, ← hk, ← hx, ← HRr.out]; rfl
              have HN := Kp.mk hnext
              have G1 : IntKind.u32.wrap ((yh.toNat : Int) + s1.toNat) = a1.toNat := by rw [u32_wadd, e1]
              have G2 : bits .and .u32 (ye.toNat : Int) yf.toNat = ef.toNat := by rw [u32_and, e2]
              have G3 : bits .xor .u32 (if IntKind.u32.signed = true then (-1 : Int) else IntKind.u32.max) (ye.toNat : Int) = ne.toNat := by rw [← e3]; exact u32_not ye
              have G3' : bits .xor .u32 IntKind.u32.max (ye.toNat : Int) = ne.toNat := by rw [← e3]; exact u32_not ye
              have G3'' : bits .xor .u32 4294967295 (ye.toNat : Int) = ne.toNat := by rw [← e3]; exact u32_not ye
              have G4 : bits .and .u32 (ne.toNat : Int) yg.toNat = neg.toNat := by rw [u32_and, e4]
              have G5 : bits .xor .u32 (ef.toNat : Int) neg.toNat = ch.toNat := by rw [u32_xor, e5]
              have G6 : IntKind.u32.wrap ((a1.toNat : Int) + ch.toNat) = a2.toNat := by rw [u32_wadd, e6]
              have G7 : IntKind.u32.wrap ((a2.toNat : Int) + k.toNat) = a3.toNat := by rw [u32_wadd, e7]
              have G8 : IntKind.u32.wrap ((a3.toNat : Int) + x.toNat) = t1.toNat := by rw [u32_wadd, e8]
              have G9 : bits .and .u32 (ya.toNat : Int) yb.toNat = m1.toNat := by rw [u32_and, e9]
              have G10 : bits .and .u32 (ya.toNat : Int) yc.toNat = m2.toNat := by rw [u32_and, e10]
              have G11 : bits .xor .u32 (m1.toNat : Int) m2.toNat = m3.toNat := by rw [u32_xor, e11]
              have G12 : bits .and .u32 (yb.toNat : Int) yc.toNat = m4.toNat := by rw [u32_and, e12]
              have G13 : bits .xor .u32 (m3.toNat : Int) m4.toNat = m5.toNat := by rw [u32_xor, e13]
              have G14 : ((t1.toNat : Int) + s0.toNat) % 4294967296 = q1.toNat := by rw [u32_add, e14]
              have G15 : ((q1.toNat : Int) + m5.toNat) % 4294967296 = na.toNat := by rw [u32_add, e15]
              have G16 : ((yd.toNat : Int) + t1.toNat) % 4294967296 = nd.toNat := by rw [u32_add, e16]
              clear hk hx h0 h1 hq6 hq2 e1 e2 e3 e4 e5 e6 e7 e8 e9 e10 e11 e12 e13 e14 e15 e16 e17 hround hnext HRr
              go_upto_region 18 with fail
              have HC4 := Kp.mk (fun W (hW : Ext wr W) => ((A2.ext hW A2.lt).cell 4).trans (show [W32 ya, W32 yb, W32 yc, W32 yd, W32 ye, W32 yf, W32 yg, W32 yh][4]? = some (W32 ye) from rfl))
              refine wp_region_locals (fun i v W => match i with
                | 0 => v = .pointer (some ⟨g7, 4, none⟩)
                | 1 => v = W32 ye
                | 2 => v = W32 (rotr ye 6)
                | 3 => v = .pointer (some ⟨g7, 4, none⟩)
                | 4 => v = W32 ye
                | 5 => v = W32 (rotr ye 11)
                | 6 => v = W32 q6
                | 7 => v = .pointer (some ⟨g7, 4, none⟩)
                | 8 => v = W32 ye
                | 9 => v = W32 (rotr ye 25)
                | 10 => v = W32 s1
                | 11 => v = W32 s1
                | _ => True) (by kernel_rfl) (by kernel_rfl) (by kernel_rfl) ?_ ?_ ?_
              · intro i v W1 W2 e1 e2 h
                match i, h with
                | 0, h => exact h
                | 1, h => exact h
                | 2, h => exact h
                | 3, h => exact h
                | 4, h => exact h
                | 5, h => exact h
                | 6, h => exact h
                | 7, h => exact h
                | 8, h => exact h
                | 9, h => exact h
                | 10, h => exact h
                | 11, h => exact h
                | (i + 12), h => exact h
              · refine locals_cons (fun u W hW hd => leaves_val rfl (v := .pointer (some ⟨g7, 4, none⟩)) (by go_simp) rfl) ?_
                refine locals_cons (fun u W hW hd => ?_) ?_
                · have h0 : u 0 = _ := hd 0 (by kernel_rfl)
                  have hc := HC4.out W hW
                  exact leaves_val rfl (v := W32 ye) (by go_simp) rfl
                refine locals_cons (fun u W hW hd => ?_) ?_
                · have h1 : u 1 = _ := hd 1 (by kernel_rfl)
                  exact leaves_call rfl (f := 126) (args := #[.int .u32 ye.toNat, .int .i64 6]) (by go_simp) ((ror6 ye W).mono (by rintro e9 W9 ⟨rfl, rfl⟩; exact ⟨_, rfl, Ext.rfl' _, rfl⟩))
                refine locals_cons (fun u W hW hd => leaves_val rfl (v := .pointer (some ⟨g7, 4, none⟩)) (by go_simp) rfl) ?_
                refine locals_cons (fun u W hW hd => ?_) ?_
                · have h3 : u 3 = _ := hd 3 (by kernel_rfl)
                  have hc := HC4.out W hW
                  exact leaves_val rfl (v := W32 ye) (by go_simp) rfl
                refine locals_cons (fun u W hW hd => ?_) ?_
                · have h4 : u 4 = _ := hd 4 (by kernel_rfl)
                  exact leaves_call rfl (f := 126) (args := #[.int .u32 ye.toNat, .int .i64 11]) (by go_simp) ((ror11 ye W).mono (by rintro e9 W9 ⟨rfl, rfl⟩; exact ⟨_, rfl, Ext.rfl' _, rfl⟩))
                refine locals_cons (fun u W hW hd => ?_) ?_
                · have h2 : u 2 = _ := hd 2 (by kernel_rfl)
                  have h5 : u 5 = _ := hd 5 (by kernel_rfl)
                  have g := QX.out
                  exact leaves_val rfl (v := W32 q6) (by go_simp) rfl
                refine locals_cons (fun u W hW hd => leaves_val rfl (v := .pointer (some ⟨g7, 4, none⟩)) (by go_simp) rfl) ?_
                refine locals_cons (fun u W hW hd => ?_) ?_
                · have h7 : u 7 = _ := hd 7 (by kernel_rfl)
                  have hc := HC4.out W hW
                  exact leaves_val rfl (v := W32 ye) (by go_simp) rfl
                refine locals_cons (fun u W hW hd => ?_) ?_
                · have h8 : u 8 = _ := hd 8 (by kernel_rfl)
                  exact leaves_call rfl (f := 126) (args := #[.int .u32 ye.toNat, .int .i64 25]) (by go_simp) ((ror25 ye W).mono (by rintro e9 W9 ⟨rfl, rfl⟩; exact ⟨_, rfl, Ext.rfl' _, rfl⟩))
                refine locals_cons (fun u W hW hd => ?_) ?_
                · have h6 : u 6 = _ := hd 6 (by kernel_rfl)
                  have h9 : u 9 = _ := hd 9 (by kernel_rfl)
                  have g := QY.out
                  exact leaves_val rfl (v := W32 s1) (by go_simp) rfl
                refine locals_cons (fun u W hW hd => ?_) locals_nil
                · have h10 : u 10 = _ := hd 10 (by kernel_rfl)
                  exact leaves_val rfl (v := W32 s1) (by go_simp) rfl
              · intro u18 W1 hW1 hV
                have r18 : u18 11 = W32 s1 := hV 11 (by decide)
                clear hV HC4
                have hE1 := hE.tr hW1
                have hG1 := (hW1.block gw (by have := A2.lt; omega)).trans hG
                have D0 := A0.ext hW1 A0.lt; have D1 := A1.ext hW1 A1.lt; have D2 := A2.ext hW1 A2.lt
                have ck1 := ((bcell hW1).1 kb t (by have := hE.size; omega)).trans ck0
                have cs1 := ((bcell hW1).1 gw t (by have := A2.lt; omega)).trans cs0
                clear hE hG A0 A1 A2 ck0 cs0
                have c0 := D2.cell 0
                have c1 := D2.cell 1
                have c2 := D2.cell 2
                have c3 := D2.cell 3
                have c4 := D2.cell 4
                have c5 := D2.cell 5
                have c6 := D2.cell 6
                have c7 := D2.cell 7
                simp only [List.getElem?_cons_zero, List.getElem?_cons_succ] at c0 c1 c2 c3 c4 c5 c6 c7
                go_upto_region 20 with fail
                go_quiet (fail)
                have hE2 := hE1.drN nq
                have Q0 := D0.drew nq; have Q1 := D1.drew nq; have Q2 := D2.drew nq
                have hG2 : (W1.drewN nq).heap[gw]? = _ := hG1
                clear c0 c1 c2 c3 c4 c5 c6 c7 hE1 D0 D1 D2 hG1 ck1 cs1
                go_upto_region 21 with fail
                generalize W1.drewN nq = W2 at *
                have HC0 := Kp.mk (fun W (hW : Ext W2 W) => ((Q2.ext hW Q2.lt).cell 0).trans (show [W32 ya, W32 yb, W32 yc, W32 yd, W32 ye, W32 yf, W32 yg, W32 yh][0]? = some (W32 ya) from rfl))
                clear r18
                refine wp_region_locals (fun i v W => match i with
                  | 0 => v = .pointer (some ⟨g7, 0, none⟩)
                  | 1 => v = W32 ya
                  | 2 => v = W32 (rotr ya 2)
                  | 3 => v = .pointer (some ⟨g7, 0, none⟩)
                  | 4 => v = W32 ya
                  | 5 => v = W32 (rotr ya 13)
                  | 6 => v = W32 q2
                  | 7 => v = .pointer (some ⟨g7, 0, none⟩)
                  | 8 => v = W32 ya
                  | 9 => v = W32 (rotr ya 22)
                  | 10 => v = W32 s0
                  | 11 => v = W32 s0
                  | _ => True) (by kernel_rfl) (by kernel_rfl) (by kernel_rfl) ?_ ?_ ?_
                · intro i v W1 W2 e1 e2 h
                  match i, h with
                  | 0, h => exact h
                  | 1, h => exact h
                  | 2, h => exact h
                  | 3, h => exact h
                  | 4, h => exact h
                  | 5, h => exact h
                  | 6, h => exact h
                  | 7, h => exact h
                  | 8, h => exact h
                  | 9, h => exact h
                  | 10, h => exact h
                  | 11, h => exact h
                  | (i + 12), h => exact h
                · refine locals_cons (fun u W hW hd => leaves_val rfl (v := .pointer (some ⟨g7, 0, none⟩)) (by go_simp) rfl) ?_
                  refine locals_cons (fun u W hW hd => ?_) ?_
                  · have h0 : u 0 = _ := hd 0 (by kernel_rfl)
                    have hc := HC0.out W hW
                    exact leaves_val rfl (v := W32 ya) (by go_simp) rfl
                  refine locals_cons (fun u W hW hd => ?_) ?_
                  · have h1 : u 1 = _ := hd 1 (by kernel_rfl)
                    exact leaves_call rfl (f := 126) (args := #[.int .u32 ya.toNat, .int .i64 2]) (by go_simp) ((ror2 ya W).mono (by rintro e9 W9 ⟨rfl, rfl⟩; exact ⟨_, rfl, Ext.rfl' _, rfl⟩))
                  refine locals_cons (fun u W hW hd => leaves_val rfl (v := .pointer (some ⟨g7, 0, none⟩)) (by go_simp) rfl) ?_
                  refine locals_cons (fun u W hW hd => ?_) ?_
                  · have h3 : u 3 = _ := hd 3 (by kernel_rfl)
                    have hc := HC0.out W hW
                    exact leaves_val rfl (v := W32 ya) (by go_simp) rfl
                  refine locals_cons (fun u W hW hd => ?_) ?_
                  · have h4 : u 4 = _ := hd 4 (by kernel_rfl)
                    exact leaves_call rfl (f := 126) (args := #[.int .u32 ya.toNat, .int .i64 13]) (by go_simp) ((ror13 ya W).mono (by rintro e9 W9 ⟨rfl, rfl⟩; exact ⟨_, rfl, Ext.rfl' _, rfl⟩))
                  refine locals_cons (fun u W hW hd => ?_) ?_
                  · have h2 : u 2 = _ := hd 2 (by kernel_rfl)
                    have h5 : u 5 = _ := hd 5 (by kernel_rfl)
                    have g := RX.out
                    exact leaves_val rfl (v := W32 q2) (by go_simp) rfl
                  refine locals_cons (fun u W hW hd => leaves_val rfl (v := .pointer (some ⟨g7, 0, none⟩)) (by go_simp) rfl) ?_
                  refine locals_cons (fun u W hW hd => ?_) ?_
                  · have h7 : u 7 = _ := hd 7 (by kernel_rfl)
                    have hc := HC0.out W hW
                    exact leaves_val rfl (v := W32 ya) (by go_simp) rfl
                  refine locals_cons (fun u W hW hd => ?_) ?_
                  · have h8 : u 8 = _ := hd 8 (by kernel_rfl)
                    exact leaves_call rfl (f := 126) (args := #[.int .u32 ya.toNat, .int .i64 22]) (by go_simp) ((ror22 ya W).mono (by rintro e9 W9 ⟨rfl, rfl⟩; exact ⟨_, rfl, Ext.rfl' _, rfl⟩))
                  refine locals_cons (fun u W hW hd => ?_) ?_
                  · have h6 : u 6 = _ := hd 6 (by kernel_rfl)
                    have h9 : u 9 = _ := hd 9 (by kernel_rfl)
                    have g := RY.out
                    exact leaves_val rfl (v := W32 s0) (by go_simp) rfl
                  refine locals_cons (fun u W hW hd => ?_) locals_nil
                  · have h10 : u 10 = _ := hd 10 (by kernel_rfl)
                    exact leaves_val rfl (v := W32 s0) (by go_simp) rfl
                · intro u21 W3 hW3 hV
                  have r21 : u21 11 = W32 s0 := hV 11 (by decide)
                  clear hV HC0
                  have hE3 := hE2.tr hW3
                  have hG3 := (hW3.block gw (by have := Q2.lt; omega)).trans hG2
                  have D0 := Q0.ext hW3 Q0.lt; have D1 := Q1.ext hW3 Q1.lt; have D2 := Q2.ext hW3 Q2.lt
                  clear hE2 hG2 Q0 Q1 Q2
                  have c0 := D2.cell 0
                  have c1 := D2.cell 1
                  have c2 := D2.cell 2
                  have c3 := D2.cell 3
                  have c4 := D2.cell 4
                  have c5 := D2.cell 5
                  have c6 := D2.cell 6
                  have c7 := D2.cell 7
                  simp only [List.getElem?_cons_zero, List.getElem?_cons_succ] at c0 c1 c2 c3 c4 c5 c6 c7
                  have f0 := D2.frozen 0
                  have f1 := D2.frozen 1
                  have f2 := D2.frozen 2
                  have f3 := D2.frozen 3
                  have f4 := D2.frozen 4
                  have f5 := D2.frozen 5
                  have f6 := D2.frozen 6
                  have f7 := D2.frozen 7
                  go_wp2
                  clear c0 c1 c2 c3 c4 c5 c6 c7 f0 f1 f2 f3 f4 f5 f6 f7
                  go_roundw
                  case rel => exact ⟨t + 1, ⟨na, ya, yb, yc, nd, ye, yf, yg⟩, by omega, by go_num, HN.out, ((((((((hE3.st (p := ⟨g7, 0, none⟩) (show w.heap.size ≤ g7 by omega) (W32 na)).st (p := ⟨g7, 1, none⟩) (show w.heap.size ≤ g7 by omega) (W32 ya)).st (p := ⟨g7, 2, none⟩) (show w.heap.size ≤ g7 by omega) (W32 yb)).st (p := ⟨g7, 3, none⟩) (show w.heap.size ≤ g7 by omega) (W32 yc)).st (p := ⟨g7, 4, none⟩) (show w.heap.size ≤ g7 by omega) (W32 nd)).st (p := ⟨g7, 5, none⟩) (show w.heap.size ≤ g7 by omega) (W32 ye)).st (p := ⟨g7, 6, none⟩) (show w.heap.size ≤ g7 by omega) (W32 yf)).st (p := ⟨g7, 7, none⟩) (show w.heap.size ≤ g7 by omega) (W32 yg)), ((((((((D0.other (g' := g7) (j := 0) (W32 na) (by omega)).other (g' := g7) (j := 1) (W32 ya) (by omega)).other (g' := g7) (j := 2) (W32 yb) (by omega)).other (g' := g7) (j := 3) (W32 yc) (by omega)).other (g' := g7) (j := 4) (W32 nd) (by omega)).other (g' := g7) (j := 5) (W32 ye) (by omega)).other (g' := g7) (j := 6) (W32 yf) (by omega)).other (g' := g7) (j := 7) (W32 yg) (by omega)), ((((((((D1.other (g' := g7) (j := 0) (W32 na) (by omega)).other (g' := g7) (j := 1) (W32 ya) (by omega)).other (g' := g7) (j := 2) (W32 yb) (by omega)).other (g' := g7) (j := 3) (W32 yc) (by omega)).other (g' := g7) (j := 4) (W32 nd) (by omega)).other (g' := g7) (j := 5) (W32 ye) (by omega)).other (g' := g7) (j := 6) (W32 yf) (by omega)).other (g' := g7) (j := 7) (W32 yg) (by omega)), ((((((((D2.set 0 (W32 na)).set 1 (W32 ya)).set 2 (W32 yb)).set 3 (W32 yc)).set 4 (W32 nd)).set 5 (W32 ye)).set 6 (W32 yf)).set 7 (W32 yg)), ((heap_setCell_other _ ⟨g7, 7, none⟩ gw (W32 yg) (show gw ≠ g7 by omega)).trans ((heap_setCell_other _ ⟨g7, 6, none⟩ gw (W32 yf) (show gw ≠ g7 by omega)).trans ((heap_setCell_other _ ⟨g7, 5, none⟩ gw (W32 ye) (show gw ≠ g7 by omega)).trans ((heap_setCell_other _ ⟨g7, 4, none⟩ gw (W32 nd) (show gw ≠ g7 by omega)).trans ((heap_setCell_other _ ⟨g7, 3, none⟩ gw (W32 yc) (show gw ≠ g7 by omega)).trans ((heap_setCell_other _ ⟨g7, 2, none⟩ gw (W32 yb) (show gw ≠ g7 by omega)).trans ((heap_setCell_other _ ⟨g7, 1, none⟩ gw (W32 ya) (show gw ≠ g7 by omega)).trans ((heap_setCell_other _ ⟨g7, 0, none⟩ gw (W32 na) (show gw ≠ g7 by omega)).trans hG3))))))))⟩
                  case measure => simp [intOf]; omega
            · have h64 : t = 64 := by omega
              obtain ⟨z0, hz0⟩ : ∃ z, a + ya = z := ⟨_, rfl⟩
              obtain ⟨z1, hz1⟩ : ∃ z, b1 + yb = z := ⟨_, rfl⟩
              obtain ⟨z2, hz2⟩ : ∃ z, c + yc = z := ⟨_, rfl⟩
              obtain ⟨z3, hz3⟩ : ∃ z, d + yd = z := ⟨_, rfl⟩
              obtain ⟨z4, hz4⟩ : ∃ z, e + ye = z := ⟨_, rfl⟩
              obtain ⟨z5, hz5⟩ : ∃ z, f + yf = z := ⟨_, rfl⟩
              obtain ⟨z6, hz6⟩ : ∃ z, g + yg = z := ⟨_, rfl⟩
              obtain ⟨z7, hz7⟩ : ∃ z, i + yh = z := ⟨_, rfl⟩
              have hr : stepS ⟨a, b1, c, d, e, f, g, i⟩ b = ⟨z0, z1, z2, z3, z4, z5, z6, z7⟩ := by
                have h1 := HRr.out
                rw [h64] at h1
                rw [HR.out, h1]
                unfold addS
                simp only [hz0, hz1, hz2, hz3, hz4, hz5, hz6, hz7]
              have HRR := Kp.mk hr
              obtain ⟨Hl, hH⟩ : ∃ L, [a, b1, c, d, e, f, g, i] = L := ⟨_, rfl⟩
              obtain ⟨Yl, hY⟩ : ∃ L, [ya, yb, yc, yd, ye, yf, yg, yh] = L := ⟨_, rfl⟩
              obtain ⟨Zl, hZ⟩ : ∃ L, [z0, z1, z2, z3, z4, z5, z6, z7] = L := ⟨_, rfl⟩
              have lH : Hl.length = 8 := by rw [← hH]; rfl
              have lY : Yl.length = 8 := by rw [← hY]; rfl
              have lZ : Zl.length = 8 := by rw [← hZ]; rfl
              have hadd : ∀ k, k < 8 → Yl.getD k 0 + Hl.getD k 0 = Zl.getD k 0 := fun k hk => by
                rw [← hH, ← hY, ← hZ, UInt32.add_comm]
                match k, hk with
                | 0, _ => exact hz0
                | 1, _ => exact hz1
                | 2, _ => exact hz2
                | 3, _ => exact hz3
                | 4, _ => exact hz4
                | 5, _ => exact hz5
                | 6, _ => exact hz6
                | 7, _ => exact hz7
              have B0 : Arr wr w.heap.size 154 (Hl.map W32) := by rw [← hH]; exact A0
              have B2 : Arr wr g7 154 ((mixL Zl Yl 0).map W32) := by
                have e : mixL Zl Yl 0 = Yl := rfl
                rw [e, ← hY]
                exact A2
              have HADD := Kp.mk hadd; have HZ := Kp.mk hZ; have LH := Kp.mk lH; have LY := Kp.mk lY; have LZ := Kp.mk lZ
              clear hr hz0 hz1 hz2 hz3 hz4 hz5 hz6 hz7 h64 HRr hG hH hY hZ lH lY lZ hadd A0 A2
              go_wp2
              go_loopw [24] (fun x24 wq => ∃ k : Nat, k ≤ 8 ∧ x24 = .int .i64 k ∧ Ext w wq ∧ Arr wq w.heap.size 154 (Hl.map W32) ∧ Arr wq (w.heap.size + 1) 154 (List.replicate 8 (.int .u32 0)) ∧ Arr wq g7 154 ((mixL Zl Yl k).map W32)) (fun x24 _ => 8 - (intOf x24).toNat)
              case atStart => exact ⟨0, by omega, rfl, hE, B0, A1, B2⟩
              case round =>
                clear hE B0 A1 B2 hlt ht
                obtain ⟨k, hk, rfl, hE, A0, A1, A2⟩ := hrel
                by_cases hlt : k < 8
                · have hS := HADD.out k hlt
                  have c0 : ((mixL Zl Yl k).map W32)[k]? = some (W32 (Yl.getD k 0)) := mix_get _ _ _ hlt LZ.out LY.out
                  have d0 : (Hl.map W32)[k]? = some (W32 (Hl.getD k 0)) := map_get _ _ (by rw [LH.out]; exact hlt)
                  have st := mix_set Zl Yl k hlt LZ.out LY.out
                  obtain ⟨y, hy⟩ : ∃ y, Yl.getD k 0 = y := ⟨_, rfl⟩
                  obtain ⟨h, hh⟩ : ∃ y, Hl.getD k 0 = y := ⟨_, rfl⟩
                  obtain ⟨z, hz⟩ : ∃ y, Zl.getD k 0 = y := ⟨_, rfl⟩
                  rw [hy] at c0 hS; rw [hh] at d0 hS; rw [hz] at st hS
                  have S0 : IntKind.u32.wrap ((y.toNat : Int) + h.toNat) = z.toNat := by rw [u32_wadd, hS]
                  have b8 : (k : Int) < 8 := by omega
                  have C0 := Kp.mk c0; have D0 := Kp.mk d0; have ST := Kp.mk st
                  clear hS hy hh hz c0 d0 st
                  go_upto_region 27 with fail
                  refine wp_still_tail_any 9 (by kernel_rfl) (by kernel_rfl) ?_
                  intro V hV
                  have E0 := A0.dr1 hV
                  have E1 := A1.dr1 hV
                  have E2 := A2.dr1 hV
                  have hEv : Ext w V := by rw [hV]; exact hE.dr
                  clear hV A0 A1 A2 hE
                  have ck := (E2.cell k).trans C0.out
                  have dk := (E0.cell k).trans D0.out
                  have cf := E2.frozen k
                  simp only [List.take_succ_cons, List.take_zero, List.drop_succ_cons, List.drop_zero]
                  repeat still_step
                  refine wpStill_nil ?_
                  go_wp2
                  clear ck dk cf
                  go_roundw
                  case rel =>
                    have h2 := E2.set k (W32 z)
                    rw [ST.out] at h2
                    exact ⟨k + 1, by omega, by go_num, hEv.st (p := ⟨g7, k, none⟩) (show w.heap.size ≤ g7 by omega) (W32 z), E0.other (g' := g7) (j := k) (W32 z) (by omega), E1.other (g' := g7) (j := k) (W32 z) (by omega), h2⟩
                  case measure => simp [intOf]; omega
                · have e8 : mixL Zl Yl k = [z0, z1, z2, z3, z4, z5, z6, z7] := by
                    unfold mixL
                    rw [List.take_of_length_le (by rw [LZ.out]; omega), List.drop_of_length_le (by rw [LY.out]; omega), List.append_nil, HZ.out]
                  rw [e8] at A2
                  have R1 := A1.row [W32 z0, W32 z1, W32 z2, W32 z3, W32 z4, W32 z5, W32 z6, W32 z7]
                  have hEr := hE.row (g := w.heap.size + 1) (by omega) #[W32 z0, W32 z1, W32 z2, W32 z3, W32 z4, W32 z5, W32 z6, W32 z7]
                  clear e8
                  go_upto_region 28 with fail
                  refine wp_region_list ?_
                  refine wpList_load_row rfl 154 _ rfl g7 rfl _ _ _ _ A2 Tryd.underlying154 rfl (by kernel_rfl) ?_
                  refine wpList_store_row rfl 154 _ _ rfl (w.heap.size + 1) _ rfl rfl _ _ A1 (by kernel_rfl) rfl (by simp [Value.oneCell']) ?_
                  go_wp2
                  refine bodyPost_ret (v := stV ⟨z0, z1, z2, z3, z4, z5, z6, z7⟩) (results_cell_row rfl _ _ (w.heap.size + 1) _ _ _ _ rfl R1 Tryd.underlying154 rfl (by kernel_rfl)) rfl ?_
                  exact ⟨by rw [HRR.out], hEr⟩
end Go.Proofs.YtmnpbpfeoackiaaDoor
