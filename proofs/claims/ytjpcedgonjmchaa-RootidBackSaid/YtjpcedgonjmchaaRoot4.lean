/-
  Package rootid's reference: Get. Condition: the text is at most 1000000 bytes.
-/
import Derived.Test.YtjpcedgonjmchaaRoot3
namespace Go.Proofs.Ytjpcedgonjmchaa
open Go.RowKit

theorem RBx.set {w : World} {G : Nat} {x : RS} (h : RBx w G x) (y : RS) : RBx ((w.setCell ⟨G, 0, none⟩ (.string (ofL y.1))).setCell ⟨G, 1, none⟩ (.int .i64 y.2)) G y :=
  heap_setCell_same _ _ 1 _ _ _ (heap_setCell_same w G 0 _ _ _ h)
theorem r_box (w : World) (x : RS) : RBx (w.alloc (.cells #[.string (ofL x.1), .int .i64 x.2] 62)) w.heap.size x := heap_alloc_new w _

set_option maxRecDepth 100000 in
set_option maxHeartbeats 2000000 in
theorem rroot_get (s : List UInt8) (w : World) (hs : s.length ≤ 1000000) :
    Calls Try.prog 13 #[.string (ofL s)] w fun ee w' => ee = .returned (.tuple #[rootV (rootGet s).1, .int .i64 (rootGet s).2]) ∧ Ext w w' := by
  obtain ⟨w1, hw1, hE1, hz1, hb1⟩ := rt_box w (.string (ofL [])) (.int .i64 0) (.int .i64 0) (.int .i64 0)
  have HW1 := Lib.hid hw1; clear hw1
  have L1 := rByte_len (s, 0)
  have B1 : rootBeg s = if (rByte (s, 0)).1 ≠ 1 then rFail (rByte (s, 0)).2 2 else (rByte (s, 0)).2 := rfl
  have N1 : rootName s = if wordL (rText (rootBeg s) 32).1 = true then (rText (rootBeg s) 32).2 else rFail (rText (rootBeg s) 32).2 4 := rfl
  have G1 : rootGet s = if (rEnd (numK (numK (numK (rootName s)).2).2).2).2 ≠ 0 then (⟨[], 0, 0, 0⟩, (rEnd (numK (numK (numK (rootName s)).2).2).2).2)
    else (⟨(rText (rootBeg s) 32).1, (numK (rootName s)).1, (numK (numK (rootName s)).2).1, (numK (numK (numK (rootName s)).2).2).1⟩, 0) := rfl
  have L2 : (rootBeg s).1.length ≤ 1000000 := by
    rw [B1]; split
    · have := rFail_le (rByte (s, 0)).2 2; simp only [] at L1; omega
    · simp only [] at L1; omega
  have L3 : (rootName s).1.length ≤ 1000000 := by
    have := rText_len (rootBeg s) 32
    rw [N1]; split
    · omega
    · have := rFail_le (rText (rootBeg s) 32).2 4; omega
  have L4 := numK_len (rootName s)
  have L5 := numK_len (numK (rootName s)).2
  have L6 := numK_len (numK (numK (rootName s)).2).2
  obtain ⟨c, x, hq⟩ : ∃ c x, rByte (s, 0) = (c, x) := ⟨_, _, rfl⟩
  obtain ⟨x1, hx1⟩ : ∃ x1, rootBeg s = x1 := ⟨_, rfl⟩
  rw [hq, hx1] at B1
  obtain ⟨t, x2, hx2⟩ : ∃ t x2, rText x1 32 = (t, x2) := ⟨_, _, rfl⟩
  obtain ⟨x3, hx3⟩ : ∃ x3, rootName s = x3 := ⟨_, rfl⟩
  rw [hx1, hx2, hx3] at N1
  rw [hx1, hx2, hx3] at G1
  rw [hx1] at L2
  rw [hx3] at L3 L4 L5 L6
  obtain ⟨v1, x4, hx4⟩ : ∃ v1 x4, numK x3 = (v1, x4) := ⟨_, _, rfl⟩
  rw [hx4] at L4 L5 L6 G1
  obtain ⟨v2, x5, hx5⟩ : ∃ v2 x5, numK x4 = (v2, x5) := ⟨_, _, rfl⟩
  simp only [hx5] at L5 L6 G1
  obtain ⟨v3, x6, hx6⟩ : ∃ v3 x6, numK x5 = (v3, x6) := ⟨_, _, rfl⟩
  simp only [hx6] at L6 G1
  obtain ⟨x7, hx7⟩ : ∃ x7, rEnd x6 = x7 := ⟨_, rfl⟩
  rw [hx7] at G1
  have k1 : v1 ≤ 1099511627776 := by have := numK_le x3; rw [hx4] at this; exact this
  have k2 : v2 ≤ 1099511627776 := by have := numK_le x4; rw [hx5] at this; exact this
  have k3 : v3 ≤ 1099511627776 := by have := numK_le x5; rw [hx6] at this; exact this
  have u1 : IntKind.i64.wrap (v1 : Int) = (v1 : Int) := IntWalk.i64_in _ (by omega)
  have u2 : IntKind.i64.wrap (v2 : Int) = (v2 : Int) := IntWalk.i64_in _ (by omega)
  have u3 : IntKind.i64.wrap (v3 : Int) = (v3 : Int) := IntWalk.i64_in _ (by omega)
  simp only [] at L4 L5 L6
  have L4 : x4.1.length ≤ 1000000 := by omega
  have L5 : x5.1.length ≤ 1000000 := by omega
  clear L6 L1 k1 k2 k3
  obtain ⟨G, hG⟩ : ∃ G, rootGet s = G := ⟨_, rfl⟩
  rw [hG] at G1 ⊢
  clear hG
  have HG := Lib.hid G1; clear G1
  have HQ := Lib.hid hq; clear hq
  have HB := Lib.hid B1; clear B1
  have HN := Lib.hid N1; clear N1
  have H2 := Lib.hid hx2; clear hx2
  have H4 := Lib.hid hx4; clear hx4
  have H5 := Lib.hid hx5; clear hx5
  have H6 := Lib.hid hx6; clear hx6
  have H7 := Lib.hid hx7; clear hx7
  clear hx1 hx3
  go_enter Try.func13, Try.ntmps13
  go_wp2_with fail
  rw [show (⟨#[]⟩ : ByteArray) = ofL [] from rfl, ← HW1.out]
  refine (r8byte (s, 0) _ hs).mono ?_
  rintro e w2 ⟨rfl, E2⟩
  rw [HQ.out]
  clear HW1
  obtain ⟨w3, hw3⟩ : ∃ w3, w3 = w2.alloc (.cells #[.string (ofL x.1), .int .i64 x.2] 62) := ⟨_, rfl⟩
  have E3 : Ext w1 w3 := by rw [hw3]; exact E2.al _
  have b3 : RBx w3 w2.heap.size x := by rw [hw3]; exact r_box _ _
  have HW3 := Lib.hid hw3; clear hw3
  have ge2 := E2.size
  go_upto_if 21 with fail
  rw [← HW3.out]
  clear HW3 E2
  obtain ⟨g, hg, hgl⟩ : ∃ g, g = w2.heap.size ∧ w1.heap.size ≤ g := ⟨_, rfl, ge2⟩
  rw [← hg] at b3 ⊢
  clear hg ge2
  go_cut [] (fun wx => Ext w1 wx ∧ RBx wx g x1)
  case first =>
    by_cases hc : c = 1
    · subst hc
      rw [if_neg (by simp)] at HB
      go_wp2_with fail
      go_meet
      exact ⟨E3, by rw [HB.out]; exact b3⟩
    · have tc := rByte_t c hc
      rw [if_pos hc] at HB
      clear hc
      obtain ⟨j0, j1, j2, j3⟩ := b3.cells
      go_wp2_with fail
      refine (r8fail x 2 _).mono ?_
      rintro e w4 ⟨rfl, E4⟩
      rw [← HB.out]
      have b4 := b3.ext E4
      clear j0 j1 j2 j3
      obtain ⟨j0, j1, j2, j3⟩ := b4.cells
      go_wp2_with fail
      go_meet
      exact ⟨((E3.tr E4).st (by simp; omega) _).st (by simp; omega) _, b4.set _⟩
  case rest =>
    obtain ⟨E4, b4⟩ := hcut
    obtain ⟨j0, j1, j2, j3⟩ := b4.cells
    go_wp2_with fail
    refine (r8text x1 32 _ L2 (by decide)).mono ?_
    rintro e w5 ⟨rfl, E5⟩
    rw [H2.out]
    obtain ⟨w6, hw6⟩ : ∃ w6, w6 = w5.alloc (.cells #[.string (ofL x2.1), .int .i64 x2.2] 62) := ⟨_, rfl⟩
    have E6 : Ext w1 w6 := by rw [hw6]; exact (E4.tr E5).al _
    have b6 : RBx w6 w5.heap.size x2 := by rw [hw6]; exact r_box _ _
    have HW6 := Lib.hid hw6; clear hw6
    have ge5 := (E4.tr E5).size
    clear j0 j1 j2 j3 b4 b3 E3 E4 E5
    go_wp2_with fail
    rw [← HW6.out]
    refine (rword_any _ _).mono ?_
    rintro e w7 ⟨rfl, E7⟩
    rw [toL_ofL]
    have b7 := b6.ext E7
    have E7 := E6.tr E7
    clear HW6 b6 E6
    obtain ⟨o, ho, hol⟩ : ∃ o, o = w5.heap.size ∧ w1.heap.size ≤ o := ⟨_, rfl, ge5⟩
    rw [← ho] at b7 ⊢
    clear ho ge5
    go_upto_if 31 with fail
    go_cut [] (fun wx => Ext w1 wx ∧ RBx wx o x3)
    case first =>
      cases hwl : wordL t
      · have HN' := HN.out
        rw [hwl, if_neg (by simp)] at HN'
        have HN := Lib.hid HN'; clear HN'
        obtain ⟨j0, j1, j2, j3⟩ := b7.cells
        go_wp2_with fail
        refine (r8fail x2 4 _).mono ?_
        rintro e w8 ⟨rfl, E8⟩
        rw [← HN.out]
        have b8 := b7.ext E8
        clear j0 j1 j2 j3
        obtain ⟨j0, j1, j2, j3⟩ := b8.cells
        go_wp2_with fail
        go_meet
        exact ⟨((E7.tr E8).st (by simp; omega) _).st (by simp; omega) _, b8.set _⟩
      · have HN' := HN.out
        rw [hwl, if_pos rfl] at HN'
        clear HN
        go_wp2_with fail
        go_meet
        exact ⟨E7, by rw [HN']; exact b7⟩
    case rest =>
      obtain ⟨E8, b8⟩ := hcut
      clear b7 E7
      obtain ⟨j0, j1, j2, j3⟩ := b8.cells
      go_wp2_with fail
      refine (r8num x3 1099511627776 _ L3).mono ?_
      rintro e w9 ⟨rfl, E9⟩
      rw [show rNum x3 1099511627776 = (v1, x4) from H4.out]
      obtain ⟨w10, hw10⟩ : ∃ w10, w10 = w9.alloc (.cells #[.string (ofL x4.1), .int .i64 x4.2] 62) := ⟨_, rfl⟩
      have E10 : Ext w1 w10 := by rw [hw10]; exact (E8.tr E9).al _
      have b10 : RBx w10 w9.heap.size x4 := by rw [hw10]; exact r_box _ _
      have HW10 := Lib.hid hw10; clear hw10
      clear j0 j1 j2 j3 b8 E8 E9
      obtain ⟨j0, j1, j2, j3⟩ := b10.cells
      go_wp2_with fail
      rw [← HW10.out]
      clear HW10
      refine (r8num x4 1099511627776 _ L4).mono ?_
      rintro e w11 ⟨rfl, E11⟩
      rw [show rNum x4 1099511627776 = (v2, x5) from H5.out]
      obtain ⟨w12, hw12⟩ : ∃ w12, w12 = w11.alloc (.cells #[.string (ofL x5.1), .int .i64 x5.2] 62) := ⟨_, rfl⟩
      have E12 : Ext w1 w12 := by rw [hw12]; exact (E10.tr E11).al _
      have b12 : RBx w12 w11.heap.size x5 := by rw [hw12]; exact r_box _ _
      have HW12 := Lib.hid hw12; clear hw12
      clear j0 j1 j2 j3 b10 E10 E11
      obtain ⟨j0, j1, j2, j3⟩ := b12.cells
      go_wp2_with fail
      rw [← HW12.out]
      clear HW12
      refine (r8num x5 1099511627776 _ L5).mono ?_
      rintro e w13 ⟨rfl, E13⟩
      rw [show rNum x5 1099511627776 = (v3, x6) from H6.out]
      obtain ⟨w14, hw14⟩ : ∃ w14, w14 = w13.alloc (.cells #[.string (ofL x6.1), .int .i64 x6.2] 62) := ⟨_, rfl⟩
      have E14 : Ext w1 w14 := by rw [hw14]; exact (E12.tr E13).al _
      have b14 : RBx w14 w13.heap.size x6 := by rw [hw14]; exact r_box _ _
      have HW14 := Lib.hid hw14; clear hw14
      have ge13 := (E12.tr E13).size
      clear j0 j1 j2 j3 b12 E12 E13
      obtain ⟨j0, j1, j2, j3⟩ := b14.cells
      go_wp2_with fail
      rw [← HW14.out]
      clear HW14
      refine (r8end x6 _).mono ?_
      rintro e w15 ⟨rfl, E15⟩
      rw [H7.out]
      have b15 := b14.ext E15
      have E16 := E14.tr E15
      clear j0 j1 j2 j3 b14 E14 E15
      obtain ⟨j0, j1, j2, j3⟩ := b15.cells
      obtain ⟨y, hy, hyl⟩ : ∃ y, y = w13.heap.size ∧ w1.heap.size ≤ y := ⟨_, rfl, ge13⟩
      rw [← hy] at b15 j0 j1 j2 j3 ⊢
      clear hy ge13
      have b17 := b15.set x7
      have E17 := (E16.st (p := ⟨y, 0, none⟩) hyl (.string (ofL x7.1))).st (p := ⟨y, 1, none⟩) hyl (.int .i64 x7.2)
      obtain ⟨w17, hw17⟩ : ∃ w17, w17 = (w15.setCell ⟨y, 0, none⟩ (.string (ofL x7.1))).setCell ⟨y, 1, none⟩ (.int .i64 x7.2) := ⟨_, rfl⟩
      rw [← hw17] at b17 E17
      have HW17 := Lib.hid hw17; clear hw17
      go_upto_region 11 with fail
      rw [← HW17.out]
      clear HW17 j0 j1 j2 j3 b15 E16
      obtain ⟨j0, j1, j2, j3⟩ := b17.cells
      have r17 := hb1.ext E17
      obtain ⟨d0, d1, d2, d3, df⟩ := r17.cells
      by_cases he : x7.2 = 0
      · have te : (x7.2 != 0) = false := by simp [he]
        have hh := HG.out
        rw [if_neg (by simp [he])] at hh
        clear HG he
        go_wp2
        obtain ⟨f0, f1, f2, f3, _⟩ := (set4 r17 (.string (ofL t)) (.int .i64 v1) (.int .i64 v2) (.int .i64 v3)).cells
        refine bodyPost_ret (v := .tuple #[rootV ⟨t, v1, v2, v3⟩, .int .i64 0]) (by simp [results, Try.results13, go_sem, f0, f1, f2, f3]) rfl ?_
        rw [hh]
        exact ⟨rfl, ((((hE1.tr E17).st (by simp) _).st (by simp) _).st (by simp) _).st (by simp) _⟩
      · have te : (x7.2 != 0) = true := bne_int_t he
        have hh := HG.out
        rw [if_pos he] at hh
        clear HG he
        go_wp2
        go_region
        go_wp2
        obtain ⟨f0, f1, f2, f3, _⟩ := (set4 r17 (.string ⟨#[]⟩) (.int .i64 0) (.int .i64 0) (.int .i64 0)).cells
        refine bodyPost_ret (v := .tuple #[rootV ⟨[], 0, 0, 0⟩, .int .i64 x7.2]) (by simp [results, Try.results13, go_sem, cell_set_same d0 (.string ⟨#[]⟩), f0, f1, f2, f3]; rfl) rfl ?_
        rw [hh]
        exact ⟨rfl, (((((hE1.tr E17).st (by simp) _).st (by simp) _).st (by simp) _).st (by simp) _).dr⟩
end Go.Proofs.Ytjpcedgonjmchaa
