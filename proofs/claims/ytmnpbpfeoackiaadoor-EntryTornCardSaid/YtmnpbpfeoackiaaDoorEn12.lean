/-
  Package entry: an entry is read. Condition: the disk is on.
-/
import Derived.Test.YtmnpbpfeoackiaaDoorEn5
import Derived.Test.YtmnpbpfeoackiaaDoorEn10
import Derived.Test.YtmnpbpfeoackiaaDoorMhG
namespace Go.Proofs.YtmnpbpfeoackiaaDoor
open Go.RowKit

theorem ent_box (w : World) : ∃ w2, w2 = w.alloc (.cells #[.int .i64 0, .string ⟨#[]⟩, .int .i64 0] 61) ∧ Ext w w2 ∧ w2.heap.size = w.heap.size + 1 ∧ Arr w2 w.heap.size 61 [.int .i64 0, .string ⟨#[]⟩, .int .i64 0] :=
  ⟨_, rfl, (Ext.rfl' _).al _, by simp, Arr.new w _ [.int .i64 0, .string ⟨#[]⟩, .int .i64 0]⟩
theorem ent_store {w W : World} {b : Nat} {x y z : Value} (hE : Ext w W) (hb : w.heap.size ≤ b) (hA : Arr W b 61 [x, y, z]) (x' y' z' : Value) :
    Ext w (((W.setCell ⟨b, 0, none⟩ x').setCell ⟨b, 1, none⟩ y').setCell ⟨b, 2, none⟩ z') ∧ Arr (((W.setCell ⟨b, 0, none⟩ x').setCell ⟨b, 1, none⟩ y').setCell ⟨b, 2, none⟩ z') b 61 [x', y', z'] :=
  ⟨((hE.st (p := ⟨b, 0, none⟩) hb _).st (p := ⟨b, 1, none⟩) hb _).st (p := ⟨b, 2, none⟩) hb _, ((hA.set 0 _).set 1 _).set 2 _⟩

section
variable {w : World} {B p g m : Nat} {d : Dk}
set_option maxRecDepth 100000 in
set_option maxHeartbeats 4000000 in
theorem eread_any (h : DkAt w B p g m d) (hd : d.dn = false) (hT : Tab w) (fr gen index : Int) : Calls Tryd.prog 39 #[.pointer (some ⟨p, 0, none⟩), .int .i64 fr, .int .i64 gen, .int .i64 index] w fun e w' => e = .returned (readV (readE d.bs fr gen index)) ∧ Ext w w' := by
  obtain ⟨w0, hw0, E0, -, A0⟩ := ent_box w
  have HW0 := Kp.mk hw0; clear hw0
  have D0 := h.ext E0
  have T0 := hT.ext E0
  have hle := h.le
  by_cases hbad : fr < 0 ∨ 4096 < fr ∨ markN gen index true = 0
  · have hr := readE_out (bs := d.bs) (fr := fr) (gen := gen) (index := index) hbad hle
    rw [hr]
    have cM := Kp.mk (emark_any gen index true w0)
    obtain ⟨mk, hmk⟩ : ∃ mk, markN gen index true = mk := ⟨_, rfl⟩
    rw [hmk] at hbad cM
    clear hr D0 T0 h hT hmk
    go_enter Tryd.func39, Tryd.ntmps39
    go_upto_region 1 with fail
    rw [← HW0.out]
    clear HW0
    by_cases h1 : fr < 0
    · have q1 : decide (fr < 0) = true := by simp; exact h1
      go_upto_region 2 with fail
      have c0 := A0.cell 0; have c1 := A0.cell 1; have c2 := A0.cell 2
      have f0 := A0.frozen 0; have f1 := A0.frozen 1; have f2 := A0.frozen 2
      simp only [List.getElem?_cons_zero, List.getElem?_cons_succ] at c0 c1 c2
      go_wp2
      have z := ent_store E0 (Nat.le_refl _) A0 (.int .i64 0) (.string ⟨#[]⟩) (.int .i64 0)
      revert z
      generalize World.setCell _ ⟨w.heap.size, 2, none⟩ (.int .i64 0) = wz
      intro ⟨zE, zA⟩
      have z0 := zA.cell 0; have z1 := zA.cell 1; have z2 := zA.cell 2
      simp only [List.getElem?_cons_zero, List.getElem?_cons_succ] at z0 z1 z2
      refine bodyPost_ret (v := readV none) (by simp [readV, results, Tryd.results39, go_sem, z0, z1, z2]) rfl ?_
      exact ⟨rfl, zE⟩
    · have q1 : decide (fr < 0) = false := by simp; omega
      by_cases h2 : 4096 < fr
      · have q2 : decide (4096 < fr) = true := by simp; exact h2
        go_upto_region 2 with fail
        have c0 := A0.cell 0; have c1 := A0.cell 1; have c2 := A0.cell 2
        have f0 := A0.frozen 0; have f1 := A0.frozen 1; have f2 := A0.frozen 2
        simp only [List.getElem?_cons_zero, List.getElem?_cons_succ] at c0 c1 c2
        go_wp2
        have z := ent_store E0 (Nat.le_refl _) A0 (.int .i64 0) (.string ⟨#[]⟩) (.int .i64 0)
        revert z
        generalize World.setCell _ ⟨w.heap.size, 2, none⟩ (.int .i64 0) = wz
        intro ⟨zE, zA⟩
        have z0 := zA.cell 0; have z1 := zA.cell 1; have z2 := zA.cell 2
        simp only [List.getElem?_cons_zero, List.getElem?_cons_succ] at z0 z1 z2
        refine bodyPost_ret (v := readV none) (by simp [readV, results, Tryd.results39, go_sem, z0, z1, z2]) rfl ?_
        exact ⟨rfl, zE⟩
      · have q2 : decide (4096 < fr) = false := by simp; omega
        obtain rfl : mk = 0 := by omega
        go_wp2_with fail
        refine cM.out.mono ?_
        rintro e w0 ⟨rfl, rfl⟩
        go_upto_region 2 with fail
        have c0 := A0.cell 0; have c1 := A0.cell 1; have c2 := A0.cell 2
        have f0 := A0.frozen 0; have f1 := A0.frozen 1; have f2 := A0.frozen 2
        simp only [List.getElem?_cons_zero, List.getElem?_cons_succ] at c0 c1 c2
        go_wp2
        have z := ent_store E0 (Nat.le_refl _) A0 (.int .i64 0) (.string ⟨#[]⟩) (.int .i64 0)
        revert z
        generalize World.setCell _ ⟨w.heap.size, 2, none⟩ (.int .i64 0) = wz
        intro ⟨zE, zA⟩
        have z0 := zA.cell 0; have z1 := zA.cell 1; have z2 := zA.cell 2
        simp only [List.getElem?_cons_zero, List.getElem?_cons_succ] at z0 z1 z2
        refine bodyPost_ret (v := readV none) (by simp [readV, results, Tryd.results39, go_sem, z0, z1, z2]) rfl ?_
        exact ⟨rfl, zE⟩
  · obtain ⟨mk, hmk⟩ : ∃ mk, markN gen index true = mk := ⟨_, rfl⟩
    rw [hmk] at hbad
    have hi : ¬ (gen < 1 ∨ 1099511627776 < gen ∨ index < 0 ∨ 4095 < index) := fun hb => hbad (.inr (.inr (by rw [← hmk]; exact markN_bad hb)))
    obtain ⟨fp, rfl⟩ : ∃ fp : Nat, fr = fp := ⟨fr.toNat, by omega⟩
    obtain ⟨ix, rfl⟩ : ∃ ix : Nat, index = ix := ⟨index.toNat, by omega⟩
    have hfp : fp ≤ 4096 := by omega
    have hix : ix ≤ 4095 := by omega
    have hm0 : mk ≠ 0 := by omega
    have hg1 : 1 ≤ gen ∧ gen ≤ 1099511627776 := by omega
    have q1 : decide ((fp : Int) < 0) = false := by simp
    have q2 : decide ((4096 : Int) < (fp : Int)) = false := by simp; omega
    have q3 : (mk == 0) = false := by simp; exact hm0
    have cM := Kp.mk (fun W => emark_any gen ix true W)
    rw [hmk] at cM
    have cA := Kp.mk (fun W (hW : Ext w0 W) => eat_any (D0.ext hW) hd ((fp : Int) + ix) mk)
    obtain ⟨⟨⟨fm, fk, ft⟩, ok⟩, hat⟩ : ∃ r, atE d.bs ((fp : Int) + ix) mk = r := ⟨_, rfl⟩
    have hfl := atE_len d.bs ((fp : Int) + ix) mk
    rw [hat] at cA hfl
    dsimp only at cA hfl
    have hat' : atE d.bs ((fp + ix : Nat) : Int) (markN gen ix true) = (⟨fm, fk, ft⟩, ok) := by rw [hmk]; exact hat
    obtain ⟨R, hR⟩ : ∃ R, readE d.bs fp gen ix = R := ⟨_, rfl⟩
    rw [hR]
    have HR := Kp.mk hR; have HM0 := Kp.mk (show markN gen ix true ≠ 0 by rw [hmk]; exact hm0); have HAT := Kp.mk hat'
    have HD0 := Kp.mk D0; have HT0 := Kp.mk T0; have HDN := Kp.mk hd
    clear hat hat' hR hmk hm0 hbad hi h hT D0 T0 hd
    go_enter Tryd.func39, Tryd.ntmps39
    go_upto_region 1 with fail
    rw [← HW0.out]
    clear HW0
    go_wp2_with fail
    refine (cM.out _).mono ?_
    rintro e w0 ⟨rfl, rfl⟩
    go_wp2_with fail
    refine (cM.out _).mono ?_
    rintro e w0 ⟨rfl, rfl⟩
    go_wp2_with fail
    refine (cA.out _ (Ext.rfl' _)).mono ?_
    rintro e w1 ⟨rfl, E1⟩
    have HA0 := Kp.mk A0; have HE0 := Kp.mk E0
    have A1 := A0.ext E1 A0.lt
    have E01 := E0.tr E1
    have HE1 := Kp.mk E1
    have hw0w1 := Kp.mk E1.size
    clear cA A0 E0 E1
    go_upto_region 4 with fail
    obtain ⟨V, hV, EV, FB⟩ : ∃ V, w1.alloc (.cells #[.int .i64 fm, .int .i64 fk, .string (ofL ft)] 120) = V ∧ Ext w1 V ∧ FrB V w1.heap.size ⟨fm, fk, ft⟩ := ⟨_, rfl, (Ext.rfl' _).al _, heap_alloc_new w1 _⟩
    rw [hV]
    have A0 := A1.ext EV A1.lt
    have E0 := E01.tr EV
    have HE2 := Kp.mk (HE1.out.tr EV)
    have hw1V : w1.heap.size < V.heap.size := FB.lt
    obtain ⟨d0, d1, d2, df⟩ := FB.cells
    dsimp only at d0 d1 d2
    have hsz : (ofL ft).size = ft.length := size_ofL ft
    clear hV EV A1 E01 HE1
    by_cases hok : ok = false ∨ ft.length < 8
    · obtain rfl : R = none := by rw [← HR.out]; exact readE_nohead HAT.out hok
      clear HR
      cases ok
      · go_upto_region 5 with fail
        have c0 := A0.cell 0; have c1 := A0.cell 1; have c2 := A0.cell 2
        have f0 := A0.frozen 0; have f1 := A0.frozen 1; have f2 := A0.frozen 2
        simp only [List.getElem?_cons_zero, List.getElem?_cons_succ] at c0 c1 c2
        go_wp2
        have z := ent_store E0 (Nat.le_refl _) A0 (.int .i64 0) (.string ⟨#[]⟩) (.int .i64 0)
        revert z
        generalize World.setCell _ ⟨w.heap.size, 2, none⟩ (.int .i64 0) = wz
        intro ⟨zE, zA⟩
        have z0 := zA.cell 0; have z1 := zA.cell 1; have z2 := zA.cell 2
        simp only [List.getElem?_cons_zero, List.getElem?_cons_succ] at z0 z1 z2
        refine bodyPost_ret (v := readV none) (by simp [readV, results, Tryd.results39, go_sem, z0, z1, z2]) rfl ?_
        exact ⟨rfl, zE⟩
      · have q4 : decide ((ft.length : Int) < 8) = true := by
          rcases hok with h | h
          · cases h
          · simp; omega
        go_upto_region 5 with fail
        have c0 := A0.cell 0; have c1 := A0.cell 1; have c2 := A0.cell 2
        have f0 := A0.frozen 0; have f1 := A0.frozen 1; have f2 := A0.frozen 2
        simp only [List.getElem?_cons_zero, List.getElem?_cons_succ] at c0 c1 c2
        go_wp2
        have z := ent_store E0 (Nat.le_refl _) A0 (.int .i64 0) (.string ⟨#[]⟩) (.int .i64 0)
        revert z
        generalize World.setCell _ ⟨w.heap.size, 2, none⟩ (.int .i64 0) = wz
        intro ⟨zE, zA⟩
        have z0 := zA.cell 0; have z1 := zA.cell 1; have z2 := zA.cell 2
        simp only [List.getElem?_cons_zero, List.getElem?_cons_succ] at z0 z1 z2
        refine bodyPost_ret (v := readV none) (by simp [readV, results, Tryd.results39, go_sem, z0, z1, z2]) rfl ?_
        exact ⟨rfl, zE⟩
    · obtain rfl : ok = true := by
        cases ok
        · exact absurd (.inl rfl) hok
        · rfl
      have h8 : 8 ≤ ft.length := by omega
      have q4 : decide ((ft.length : Int) < 8) = false := by simp; omega
      have hHead := readE_head HM0.out HAT.out h8
      rw [HR.out] at hHead
      dsimp only at hHead
      have hnum := num4_get (T := ft) (by omega)
      obtain ⟨n, hn⟩ : ∃ n, numN (ft.take 4) = n := ⟨_, rfl⟩
      rw [hn] at hHead hnum
      obtain ⟨N, hN⟩ : ∃ N, blkN (n : Int) = N := ⟨_, rfl⟩
      have cB := Kp.mk (show ∀ W : World, Calls Tryd.prog 35 #[.int .i64 n] W fun e w' => e = .returned (.int .i64 N) ∧ Ext W w' from fun W => (eblocks_any (n : Int) W).mono fun e w' ⟨h1, h2⟩ => ⟨by rw [h1, hN], by rw [h2]; exact Ext.rfl' W⟩)
      have hNle : N ≤ 596 := by rw [← hN]; exact blkN_le _
      rw [hN] at hHead
      have HNB := Kp.mk hN
      clear hN
      obtain ⟨x0, hx0⟩ : ∃ c, ft.getD 0 0 = c := ⟨_, rfl⟩
      obtain ⟨x1, hx1⟩ : ∃ c, ft.getD 1 0 = c := ⟨_, rfl⟩
      obtain ⟨x2, hx2⟩ : ∃ c, ft.getD 2 0 = c := ⟨_, rfl⟩
      obtain ⟨x3, hx3⟩ : ∃ c, ft.getD 3 0 = c := ⟨_, rfl⟩
      have g0 : ∀ h, (ofL ft)[0]'h = x0 := fun h => by rw [← hx0, ofL_getD]
      have g1 : ∀ h, (ofL ft)[1]'h = x1 := fun h => by rw [← hx1, ofL_getD]
      have g2 : ∀ h, (ofL ft)[2]'h = x2 := fun h => by rw [← hx2, ofL_getD]
      have g3 : ∀ h, (ofL ft)[3]'h = x3 := fun h => by rw [← hx3, ofL_getD]
      rw [hx0, hx1, hx2, hx3] at hnum
      obtain ⟨y0, hy0, l0⟩ : ∃ y, x0.toNat = y ∧ y < 256 := ⟨_, rfl, x0.toNat_lt⟩
      obtain ⟨y1, hy1, l1⟩ : ∃ y, x1.toNat = y ∧ y < 256 := ⟨_, rfl, x1.toNat_lt⟩
      obtain ⟨y2, hy2, l2⟩ : ∃ y, x2.toNat = y ∧ y < 256 := ⟨_, rfl, x2.toNat_lt⟩
      obtain ⟨y3, hy3, l3⟩ : ∃ y, x3.toNat = y ∧ y < 256 := ⟨_, rfl, x3.toNat_lt⟩
      rw [hy0, hy1, hy2, hy3] at hnum
      obtain ⟨m1, hm1⟩ : ∃ m, y0 + y1 * 256 = m := ⟨_, rfl⟩
      obtain ⟨m2, hm2⟩ : ∃ m, m1 + y2 * 65536 = m := ⟨_, rfl⟩
      have r1 : bits .or .i64 (y0 : Int) ((y1 : Int) * 256) = (m1 : Int) := by rw [← hm1]; exact or32 y0 y1 1 (by omega) l1 (by omega)
      have r2 : bits .or .i64 (m1 : Int) ((y2 : Int) * 65536) = (m2 : Int) := by rw [← hm2]; exact or32 m1 y2 2 (by omega) l2 (by omega)
      have r3 : bits .or .i64 (m2 : Int) ((y3 : Int) * 16777216) = (n : Int) := by rw [show n = m2 + y3 * 16777216 by omega]; exact or32 m2 y3 3 (by omega) l3 (by omega)
      have hn32 : n < 4294967296 := by omega
      have HHEAD := Kp.mk hHead; have HNUM := Kp.mk hn
      have G := Kp.mk (And.intro g0 (And.intro g1 (And.intro g2 g3))); have Y := Kp.mk (And.intro hy0 (And.intro hy1 (And.intro hy2 hy3))); have RR := Kp.mk (And.intro r1 (And.intro r2 r3))
      clear hHead hn hnum hx0 hx1 hx2 hx3 g0 g1 g2 g3 hy0 hy1 hy2 hy3 hm1 hm2 r1 r2 r3 hok HR HAT HM0
      go_upto_region 6 with fail
      clear d0 d1 d2 df q1 q2 q3 q4
      refine wp_region_localsE (fun i v W => match i with
        | 0 => v = .pointer (some ⟨w1.heap.size, 2, none⟩)
        | 1 => v = .string (ofL ft)
        | 2 => v = .int .u8 (y0 : Int)
        | 3 => v = .int .i64 (y0 : Int)
        | 4 => v = .pointer (some ⟨w1.heap.size, 2, none⟩)
        | 5 => v = .string (ofL ft)
        | 6 => v = .int .u8 (y1 : Int)
        | 7 => v = .int .i64 (y1 : Int)
        | 8 => v = .int .i64 ((y1 : Int) * 256)
        | 9 => v = .int .i64 (m1 : Int)
        | 10 => v = .pointer (some ⟨w1.heap.size, 2, none⟩)
        | 11 => v = .string (ofL ft)
        | 12 => v = .int .u8 (y2 : Int)
        | 13 => v = .int .i64 (y2 : Int)
        | 14 => v = .int .i64 ((y2 : Int) * 65536)
        | 15 => v = .int .i64 (m2 : Int)
        | 16 => v = .pointer (some ⟨w1.heap.size, 2, none⟩)
        | 17 => v = .string (ofL ft)
        | 18 => v = .int .u8 (y3 : Int)
        | 19 => v = .int .i64 (y3 : Int)
        | 20 => v = .int .i64 ((y3 : Int) * 16777216)
        | 21 => v = .int .i64 (n : Int)
        | 22 => v = .int .i64 (n : Int)
        | _ => True) (by kernel_rfl) (by kernel_rfl) (by kernel_rfl) (by kernel_rfl) ?_ ?_ ?_
      · intro i v W1 W2 e1 e2 h
        match i, h with
        | 0, h => exact h
        | 1, h => exact h
        | 2, h => exact h
        | 3, h => exact h
        | 4, h => exact h
        | 5, h => exact h
        | 6, h => exact h
        | 7, h => exact h
        | 8, h => exact h
        | 9, h => exact h
        | 10, h => exact h
        | 11, h => exact h
        | 12, h => exact h
        | 13, h => exact h
        | 14, h => exact h
        | 15, h => exact h
        | 16, h => exact h
        | 17, h => exact h
        | 18, h => exact h
        | 19, h => exact h
        | 20, h => exact h
        | 21, h => exact h
        | 22, h => exact h
        | (i + 23), h => exact h
      · intro HF
        refine locals_cons (fun u W hW hd => ?_) ?_
        · refine opLeaves_ev HF rfl fun ev zc zg zf zt => ?_
          have t10 : ev (.tmp 10) = .pointer (some ⟨w1.heap.size, 0, none⟩) := zt 10
          clear zt
          exact ev_val (v := .pointer (some ⟨w1.heap.size, 2, none⟩)) (by go_simp) rfl
        refine locals_cons (fun u W hW hd => ?_) ?_
        · refine opLeaves_ev HF rfl fun ev zc zg zf zt => ?_
          have t51 : ev (.tmp 51) = u 0 := zt 51
          clear zt
          have h0 : u 0 = _ := hd 0 (by kernel_rfl)
          obtain ⟨d0, d1, d2, df⟩ := (FB.ext hW).cells
          dsimp only at d0 d1 d2
          exact ev_val (v := .string (ofL ft)) (by go_simp) rfl
        refine locals_cons (fun u W hW hd => ?_) ?_
        · refine opLeaves_ev HF rfl fun ev zc zg zf zt => ?_
          have t52 : ev (.tmp 52) = u 1 := zt 52
          clear zt
          have h1 : u 1 = _ := hd 1 (by kernel_rfl)
          have g := G.out.1; have y := Y.out.1
          have hb : ft ≠ [] := by rintro rfl; simp at h8
          exact ev_val (v := .int .u8 (y0 : Int)) (by go_simp) rfl
        refine locals_cons (fun u W hW hd => ?_) ?_
        · refine opLeaves_ev HF rfl fun ev zc zg zf zt => ?_
          have t53 : ev (.tmp 53) = u 2 := zt 53
          clear zt
          have h2 : u 2 = _ := hd 2 (by kernel_rfl)
          have hw3 : IntKind.i64.wrap (y0 : Int) = (y0 : Int) := IntWalk.i64_in _ (by omega)
          exact ev_val (v := .int .i64 (y0 : Int)) (by go_simp) rfl
        refine locals_cons (fun u W hW hd => ?_) ?_
        · refine opLeaves_ev HF rfl fun ev zc zg zf zt => ?_
          have t10 : ev (.tmp 10) = .pointer (some ⟨w1.heap.size, 0, none⟩) := zt 10
          clear zt
          exact ev_val (v := .pointer (some ⟨w1.heap.size, 2, none⟩)) (by go_simp) rfl
        refine locals_cons (fun u W hW hd => ?_) ?_
        · refine opLeaves_ev HF rfl fun ev zc zg zf zt => ?_
          have t55 : ev (.tmp 55) = u 4 := zt 55
          clear zt
          have h4 : u 4 = _ := hd 4 (by kernel_rfl)
          obtain ⟨d0, d1, d2, df⟩ := (FB.ext hW).cells
          dsimp only at d0 d1 d2
          exact ev_val (v := .string (ofL ft)) (by go_simp) rfl
        refine locals_cons (fun u W hW hd => ?_) ?_
        · refine opLeaves_ev HF rfl fun ev zc zg zf zt => ?_
          have t56 : ev (.tmp 56) = u 5 := zt 56
          clear zt
          have h5 : u 5 = _ := hd 5 (by kernel_rfl)
          have g := G.out.2.1; have y := Y.out.2.1
          have hb : ¬ ft.length ≤ 1 := by omega
          have hb2 : ¬ (ft.length : Int) ≤ 1 := by omega
          exact ev_val (v := .int .u8 (y1 : Int)) (by go_simp) rfl
        refine locals_cons (fun u W hW hd => ?_) ?_
        · refine opLeaves_ev HF rfl fun ev zc zg zf zt => ?_
          have t57 : ev (.tmp 57) = u 6 := zt 57
          clear zt
          have h6 : u 6 = _ := hd 6 (by kernel_rfl)
          have hw3 : IntKind.i64.wrap (y1 : Int) = (y1 : Int) := IntWalk.i64_in _ (by omega)
          exact ev_val (v := .int .i64 (y1 : Int)) (by go_simp) rfl
        refine locals_cons (fun u W hW hd => ?_) ?_
        · refine opLeaves_ev HF rfl fun ev zc zg zf zt => ?_
          have t58 : ev (.tmp 58) = u 7 := zt 58
          clear zt
          have h7 : u 7 = _ := hd 7 (by kernel_rfl)
          have hw3 : IntKind.i64.wrap ((y1 : Int) * 256) = (y1 : Int) * 256 := IntWalk.i64_in _ (by omega)
          exact ev_val (v := .int .i64 ((y1 : Int) * 256)) (by go_simp) rfl
        refine locals_cons (fun u W hW hd => ?_) ?_
        · refine opLeaves_ev HF rfl fun ev zc zg zf zt => ?_
          have t54 : ev (.tmp 54) = u 3 := zt 54
          have t59 : ev (.tmp 59) = u 8 := zt 59
          clear zt
          have h3 : u 3 = _ := hd 3 (by kernel_rfl)
          have h8 : u 8 = _ := hd 8 (by kernel_rfl)
          have r := RR.out.1
          exact ev_val (v := .int .i64 (m1 : Int)) (by go_simp) rfl
        refine locals_cons (fun u W hW hd => ?_) ?_
        · refine opLeaves_ev HF rfl fun ev zc zg zf zt => ?_
          have t10 : ev (.tmp 10) = .pointer (some ⟨w1.heap.size, 0, none⟩) := zt 10
          clear zt
          exact ev_val (v := .pointer (some ⟨w1.heap.size, 2, none⟩)) (by go_simp) rfl
        refine locals_cons (fun u W hW hd => ?_) ?_
        · refine opLeaves_ev HF rfl fun ev zc zg zf zt => ?_
          have t61 : ev (.tmp 61) = u 10 := zt 61
          clear zt
          have h10 : u 10 = _ := hd 10 (by kernel_rfl)
          obtain ⟨d0, d1, d2, df⟩ := (FB.ext hW).cells
          dsimp only at d0 d1 d2
          exact ev_val (v := .string (ofL ft)) (by go_simp) rfl
        refine locals_cons (fun u W hW hd => ?_) ?_
        · refine opLeaves_ev HF rfl fun ev zc zg zf zt => ?_
          have t62 : ev (.tmp 62) = u 11 := zt 62
          clear zt
          have h11 : u 11 = _ := hd 11 (by kernel_rfl)
          have g := G.out.2.2.1; have y := Y.out.2.2.1
          have hb : ¬ ft.length ≤ 2 := by omega
          have hb2 : ¬ (ft.length : Int) ≤ 2 := by omega
          exact ev_val (v := .int .u8 (y2 : Int)) (by go_simp) rfl
        refine locals_cons (fun u W hW hd => ?_) ?_
        · refine opLeaves_ev HF rfl fun ev zc zg zf zt => ?_
          have t63 : ev (.tmp 63) = u 12 := zt 63
          clear zt
          have h12 : u 12 = _ := hd 12 (by kernel_rfl)
          have hw3 : IntKind.i64.wrap (y2 : Int) = (y2 : Int) := IntWalk.i64_in _ (by omega)
          exact ev_val (v := .int .i64 (y2 : Int)) (by go_simp) rfl
        refine locals_cons (fun u W hW hd => ?_) ?_
        · refine opLeaves_ev HF rfl fun ev zc zg zf zt => ?_
          have t64 : ev (.tmp 64) = u 13 := zt 64
          clear zt
          have h13 : u 13 = _ := hd 13 (by kernel_rfl)
          have hw3 : IntKind.i64.wrap ((y2 : Int) * 65536) = (y2 : Int) * 65536 := IntWalk.i64_in _ (by omega)
          exact ev_val (v := .int .i64 ((y2 : Int) * 65536)) (by go_simp) rfl
        refine locals_cons (fun u W hW hd => ?_) ?_
        · refine opLeaves_ev HF rfl fun ev zc zg zf zt => ?_
          have t60 : ev (.tmp 60) = u 9 := zt 60
          have t65 : ev (.tmp 65) = u 14 := zt 65
          clear zt
          have h9 : u 9 = _ := hd 9 (by kernel_rfl)
          have h14 : u 14 = _ := hd 14 (by kernel_rfl)
          have r := RR.out.2.1
          exact ev_val (v := .int .i64 (m2 : Int)) (by go_simp) rfl
        refine locals_cons (fun u W hW hd => ?_) ?_
        · refine opLeaves_ev HF rfl fun ev zc zg zf zt => ?_
          have t10 : ev (.tmp 10) = .pointer (some ⟨w1.heap.size, 0, none⟩) := zt 10
          clear zt
          exact ev_val (v := .pointer (some ⟨w1.heap.size, 2, none⟩)) (by go_simp) rfl
        refine locals_cons (fun u W hW hd => ?_) ?_
        · refine opLeaves_ev HF rfl fun ev zc zg zf zt => ?_
          have t67 : ev (.tmp 67) = u 16 := zt 67
          clear zt
          have h16 : u 16 = _ := hd 16 (by kernel_rfl)
          obtain ⟨d0, d1, d2, df⟩ := (FB.ext hW).cells
          dsimp only at d0 d1 d2
          exact ev_val (v := .string (ofL ft)) (by go_simp) rfl
        refine locals_cons (fun u W hW hd => ?_) ?_
        · refine opLeaves_ev HF rfl fun ev zc zg zf zt => ?_
          have t68 : ev (.tmp 68) = u 17 := zt 68
          clear zt
          have h17 : u 17 = _ := hd 17 (by kernel_rfl)
          have g := G.out.2.2.2; have y := Y.out.2.2.2
          have hb : ¬ ft.length ≤ 3 := by omega
          have hb2 : ¬ (ft.length : Int) ≤ 3 := by omega
          exact ev_val (v := .int .u8 (y3 : Int)) (by go_simp) rfl
        refine locals_cons (fun u W hW hd => ?_) ?_
        · refine opLeaves_ev HF rfl fun ev zc zg zf zt => ?_
          have t69 : ev (.tmp 69) = u 18 := zt 69
          clear zt
          have h18 : u 18 = _ := hd 18 (by kernel_rfl)
          have hw3 : IntKind.i64.wrap (y3 : Int) = (y3 : Int) := IntWalk.i64_in _ (by omega)
          exact ev_val (v := .int .i64 (y3 : Int)) (by go_simp) rfl
        refine locals_cons (fun u W hW hd => ?_) ?_
        · refine opLeaves_ev HF rfl fun ev zc zg zf zt => ?_
          have t70 : ev (.tmp 70) = u 19 := zt 70
          clear zt
          have h19 : u 19 = _ := hd 19 (by kernel_rfl)
          have hw3 : IntKind.i64.wrap ((y3 : Int) * 16777216) = (y3 : Int) * 16777216 := IntWalk.i64_in _ (by omega)
          exact ev_val (v := .int .i64 ((y3 : Int) * 16777216)) (by go_simp) rfl
        refine locals_cons (fun u W hW hd => ?_) ?_
        · refine opLeaves_ev HF rfl fun ev zc zg zf zt => ?_
          have t66 : ev (.tmp 66) = u 15 := zt 66
          have t71 : ev (.tmp 71) = u 20 := zt 71
          clear zt
          have h15 : u 15 = _ := hd 15 (by kernel_rfl)
          have h20 : u 20 = _ := hd 20 (by kernel_rfl)
          have r := RR.out.2.2
          exact ev_val (v := .int .i64 (n : Int)) (by go_simp) rfl
        refine locals_cons (fun u W hW hd => ?_) locals_nil
        · refine opLeaves_ev HF rfl fun ev zc zg zf zt => ?_
          have t72 : ev (.tmp 72) = u 21 := zt 72
          clear zt
          have h21 : u 21 = _ := hd 21 (by kernel_rfl)
          exact ev_val (v := .int .i64 (n : Int)) (by go_simp) rfl
      · intro u6 W6 hW6 hV
        have h22 : u6 22 = _ := hV 22 (by decide)
        clear hV G Y RR
        go_simp
        go_upto_region 7 with fail
        have FB6 := FB.ext hW6
        have A6 := A0.ext hW6 A0.lt
        have E6 := E0.tr hW6
        have HE6 := Kp.mk (HE2.out.tr hW6)
        have hs6 := hW6.size
        clear hW6 FB A0 E0 HE2
        have hw0 := HA0.out.lt
        have hw01 : w0.heap.size ≤ w1.heap.size := hw0w1.out
        refine wp_region_tailsE (fun i v W => match i with
          | 0 => v = .pointer (some ⟨w1.heap.size, 1, none⟩)
          | 1 => v = .int .i64 fk
          | 2 => v = .pointer (some ⟨w1.heap.size, 2, none⟩)
          | 3 => v = .string (ofL ft)
          | 4 => v = .string (ofL (ft.drop 8))
          | 5 => v = .int .i64 n
          | 6 => v = .int .i64 N
          | 7 => v = .agg #[.int .i64 fk, .string (ofL (ft.drop 8)), .int .i64 N]
          | 8 => ∃ b, v = .pointer (some ⟨b, 0, none⟩) ∧ W6.heap.size ≤ b ∧ Arr W b 61 [.int .i64 0, .string ⟨#[]⟩, .int .i64 0]
          | _ => True) 9 (by kernel_rfl) (by kernel_rfl) (by kernel_rfl) (by decide) (by kernel_rfl) (by kernel_rfl) (by kernel_rfl) (by kernel_rfl) ?_ ?_ ?_
        · intro i v W1 W2 e1 e2 h
          match i, h with
          | 0, h => exact h
          | 1, h => exact h
          | 2, h => exact h
          | 3, h => exact h
          | 4, h => exact h
          | 5, h => exact h
          | 6, h => exact h
          | 7, h => exact h
          | 8, ⟨b, h1, h2, h3⟩ => exact ⟨b, h1, h2, h3.ext e2 h3.lt⟩
          | (i + 9), h => exact h
        · intro HF
          refine localsR_cons (fun u W hW hd => ?_) ?_
          · refine opLeaves_ev HF rfl fun ev zc zg zf zt => ?_
            have t10 : ev (.tmp 10) = .pointer (some ⟨w1.heap.size, 0, none⟩) := zt 10
            clear zt
            exact ev_val (v := .pointer (some ⟨w1.heap.size, 1, none⟩)) (by go_simp) rfl
          refine localsR_cons (fun u W hW hd => ?_) ?_
          · refine opLeaves_ev HF rfl fun ev zc zg zf zt => ?_
            have t73 : ev (.tmp 73) = u 0 := zt 73
            clear zt
            have h0 : u 0 = _ := hd 0 (by kernel_rfl)
            obtain ⟨d0, d1, d2, df⟩ := (FB6.ext hW).cells
            dsimp only at d0 d1 d2
            exact ev_val (v := .int .i64 fk) (by go_simp) rfl
          refine localsR_cons (fun u W hW hd => ?_) ?_
          · refine opLeaves_ev HF rfl fun ev zc zg zf zt => ?_
            have t10 : ev (.tmp 10) = .pointer (some ⟨w1.heap.size, 0, none⟩) := zt 10
            clear zt
            exact ev_val (v := .pointer (some ⟨w1.heap.size, 2, none⟩)) (by go_simp) rfl
          refine localsR_cons (fun u W hW hd => ?_) ?_
          · refine opLeaves_ev HF rfl fun ev zc zg zf zt => ?_
            have t75 : ev (.tmp 75) = u 2 := zt 75
            clear zt
            have h2 : u 2 = _ := hd 2 (by kernel_rfl)
            obtain ⟨d0, d1, d2, df⟩ := (FB6.ext hW).cells
            dsimp only at d0 d1 d2
            exact ev_val (v := .string (ofL ft)) (by go_simp) rfl
          refine localsR_cons (fun u W hW hd => ?_) ?_
          · refine opLeaves_ev HF rfl fun ev zc zg zf zt => ?_
            have t76 : ev (.tmp 76) = u 3 := zt 76
            clear zt
            have h3 : u 3 = _ := hd 3 (by kernel_rfl)
            have x4 : (ofL ft).extract 8 ft.length = ofL (ft.drop 8) := by rw [← size_ofL ft, extract_from, toL_ofL]
            have hb : ¬ (ft.length : Int) < 8 := by omega
            exact ev_val (v := .string (ofL (ft.drop 8))) (by go_simp) rfl
          refine localsR_cons (fun u W hW hd => ?_) ?_
          · refine opLeaves_ev HF rfl fun ev zc zg zf zt => ?_
            have t12 : ev (.tmp 12) = .int .i64 n := zt 12
            clear zt
            exact ev_val (v := .int .i64 n) (by go_simp) rfl
          refine localsR_cons (fun u W hW hd => ?_) ?_
          · refine opLeaves_ev HF rfl fun ev zc zg zf zt => ?_
            have t78 : ev (.tmp 78) = u 5 := zt 78
            clear zt
            have h5 : u 5 = _ := hd 5 (by kernel_rfl)
            exact ev_call (f := 35) (args := #[.int .i64 n]) (by go_simp) ((cB.out W).mono (by rintro e9 W9 ⟨rfl, h9⟩; exact ⟨_, rfl, h9, rfl⟩))
          refine localsR_cons (fun u W hW hd => ?_) ?_
          · refine opLeaves_ev HF rfl fun ev zc zg zf zt => ?_
            have t74 : ev (.tmp 74) = u 1 := zt 74
            have t77 : ev (.tmp 77) = u 4 := zt 77
            have t79 : ev (.tmp 79) = u 6 := zt 79
            clear zt
            have h1 : u 1 = _ := hd 1 (by kernel_rfl)
            have h4 : u 4 = _ := hd 4 (by kernel_rfl)
            have h6 : u 6 = _ := hd 6 (by kernel_rfl)
            exact ev_val (v := .agg #[.int .i64 fk, .string (ofL (ft.drop 8)), .int .i64 N]) (by go_simp) rfl
          refine localsR_cons (fun u W hW hd => ?_) localsR_nil
          · refine opLeaves_ev HF rfl fun ev zc zg zf zt => ?_
            clear zt
            exact ev_new (v := .pointer (some ⟨W.heap.size, 0, none⟩)) (w' := W.alloc (.cells #[.int .i64 0, .string ⟨#[]⟩, .int .i64 0] 61)) (by go_simp) ((Ext.rfl' W).al _) ⟨_, rfl, hW.size, Arr.new W _ [.int .i64 0, .string ⟨#[]⟩, .int .i64 0]⟩
        · intro u7 W7 hW7 hV
          have h7 : u7 7 = _ := hV 7 (by decide)
          obtain ⟨eb, h8e, hbe, AE⟩ := hV 8 (by decide)
          clear hV cB
          have c0 := AE.cell 0; have c1 := AE.cell 1; have c2 := AE.cell 2
          have f0 := AE.frozen 0; have f1 := AE.frozen 1; have f2 := AE.frozen 2
          simp only [List.getElem?_cons_zero, List.getElem?_cons_succ] at c0 c1 c2
          go_simp
          go_upto_region 8 with fail
          obtain ⟨V8, hV8⟩ : ∃ W : World, ((W7.setCell ⟨eb, 0, none⟩ (.int .i64 fk)).setCell ⟨eb, 1, none⟩ (.string (ofL (ft.drop 8)))).setCell ⟨eb, 2, none⟩ (.int .i64 N) = W := ⟨_, rfl⟩
          rw [hV8]
          have hE7 := HE6.out.tr hW7
          have zz := ent_store hE7 (by omega) AE (.int .i64 fk) (.string (ofL (ft.drop 8))) (.int .i64 N)
          rw [hV8] at zz
          obtain ⟨E8, AE8⟩ := zz
          have FB8 : FrB V8 w1.heap.size ⟨fm, fk, ft⟩ := by
            rw [← hV8]
            exact frb_other (frb_other (frb_other (FB6.ext hW7) (by omega) _ _) (by omega) _ _) (by omega) _ _
          obtain ⟨d0, d1, d2, df⟩ := FB8.cells
          dsimp only at d0 d1 d2
          have hs8 := E8.size
          have hwE : w0.heap.size ≤ eb := by omega
          clear hV8 AE c0 c1 c2 f0 f1 f2 hW7 hE7 FB6 A6 E6 HE6 FB8 d0 d1 df h7
          go_upto_region 9 with fail
          obtain ⟨V9, hV9, E9, AE9, O9⟩ : ∃ V, V8.alloc (.cells #[.string (ofL ft)] 9) = V ∧ Ext w0 V ∧ Arr V eb 61 [.int .i64 fk, .string (ofL (ft.drop 8)), .int .i64 N] ∧ V.ownsRow w0.heap.size 9 1 (.slice (some ⟨V8.heap.size, 0, none⟩) 1 1) 1 [Str ft] :=
            ⟨_, rfl, E8.al _, AE8.alloc _, World.ownsRow_lit V8 #[.string (ofL ft)] 1 hs8 (by decide) rfl⟩
          rw [hV9]
          clear hV9 E8 AE8 hs8 d2
          have HF := Kp.mk hfl
          clear h22 h8e
          go_upto_region 10 with fail
          go_loopw [15, 14] (fun i o wr => ∃ (k : Nat) (acc : List (List UInt8)), i = .int .i64 k ∧ acc.length + 1 = k ∧ (k ≤ N ∨ k = 1) ∧ Ext w0 wr ∧ Arr wr eb 61 [.int .i64 fk, .string (ofL (ft.drop 8 ++ acc.flatten)), .int .i64 N] ∧ wr.ownsRow w0.heap.size 9 1 o k ((ft :: acc).map Str) ∧ (ft.drop 8 ++ acc.flatten).length ≤ 110 * k ∧ bodyE d.bs (fp + ix) gen ix 1 (N - 1) = (bodyE d.bs (fp + ix) gen ix k (N - k)).map (acc ++ ·)) (fun i _ _ => N - (intOf i).toNat)
          case atStart => exact ⟨1, [], rfl, rfl, .inr rfl, E9, by simpa using AE9, O9, by simp; omega, by simp⟩
          case round =>
            clear AE9 O9 E9
            obtain ⟨k, acc, rfl, hk, hkN, E, AE, O, htl, hbody⟩ := hrel
            obtain ⟨tx, htx⟩ : ∃ tx, ft.drop 8 ++ acc.flatten = tx := ⟨_, rfl⟩
            rw [htx] at AE htl
            obtain ⟨oA, oc, hov⟩ := own_slice O
            subst hov
            have c0 := AE.cell 0; have c1 := AE.cell 1; have c2 := AE.cell 2
            have f0 := AE.frozen 0; have f1 := AE.frozen 1; have f2 := AE.frozen 2
            simp only [List.getElem?_cons_zero, List.getElem?_cons_succ] at c0 c1 c2
            by_cases hlt : k < N
            · obtain ⟨m2, hm2⟩ : ∃ m, markN gen ((ix : Int) + k) false = m := ⟨_, rfl⟩
              have cM2 := Kp.mk (fun W => emark_any gen ((ix : Int) + k) false W)
              rw [hm2] at cM2
              have cA := Kp.mk (fun W (hW : Ext w0 W) => eat_any (HD0.out.ext hW) HDN.out ((fp : Int) + ix + k) m2)
              obtain ⟨⟨⟨gm, gk, gt⟩, ok⟩, hat⟩ : ∃ r, atE d.bs ((fp : Int) + ix + k) m2 = r := ⟨_, rfl⟩
              have hgl := atE_len d.bs ((fp : Int) + ix + k) m2
              rw [hat] at cA hgl
              dsimp only at cA hgl
              have hat' : atE d.bs ((fp + ix + k : Nat) : Int) (markN gen ((ix : Int) + k) false) = (⟨gm, gk, gt⟩, ok) := by rw [hm2]; exact hat
              have HAT := Kp.mk hat'; have HBD := Kp.mk hbody; have HTX := Kp.mk htx
              clear hat hat' hm2 hbody htx
              go_wp2_with fail
              refine (cM2.out _).mono ?_
              rintro e wr ⟨rfl, rfl⟩
              go_wp2_with fail
              refine (cA.out _ E).mono ?_
              rintro e w10 ⟨rfl, E10⟩
              have AE10 := AE.ext E10 AE.lt
              have O10 := own_ext O (fun i _ hi => E10.block i hi)
              have E010 := E.tr E10
              clear c0 c1 c2 f0 f1 f2 AE O E E10 cA cM2
              go_upto_region 13 with fail
              obtain ⟨V11, hV11, E11, FB11⟩ : ∃ V, w10.alloc (.cells #[.int .i64 gm, .int .i64 gk, .string (ofL gt)] 120) = V ∧ Ext w10 V ∧ FrB V w10.heap.size ⟨gm, gk, gt⟩ := ⟨_, rfl, (Ext.rfl' _).al _, heap_alloc_new w10 _⟩
              rw [hV11]
              obtain ⟨d0, d1, d2, df⟩ := FB11.cells
              dsimp only at d0 d1 d2
              have AE11 := AE10.ext E11 AE10.lt
              have O11 := own_ext O10 (fun i _ hi => E11.block i hi)
              have E011 := E010.tr E11
              have hs10 : w10.heap.size < V11.heap.size := FB11.lt
              have hs010 := E010.size
              have hs0e := AE10.lt
              have hNk : N - k = (N - k - 1) + 1 := by omega
              clear hV11 E11 AE10 O10 E010
              by_cases hok : ok = false ∨ gk ≠ 0
              · obtain rfl : R = none := by
                  rw [HHEAD.out, if_neg (by omega), HBD.out, hNk, bodyE_bad HAT.out hok]
                  rfl
                have A0 := HA0.out.ext E011 HA0.out.lt
                have E0 := HE0.out.tr E011
                clear HHEAD HBD
                cases ok
                · go_upto_region 14 with fail
                  have c0 := A0.cell 0; have c1 := A0.cell 1; have c2 := A0.cell 2
                  have f0 := A0.frozen 0; have f1 := A0.frozen 1; have f2 := A0.frozen 2
                  simp only [List.getElem?_cons_zero, List.getElem?_cons_succ] at c0 c1 c2
                  go_wp2
                  have z := ent_store E0 (Nat.le_refl _) A0 (.int .i64 0) (.string ⟨#[]⟩) (.int .i64 0)
                  revert z
                  generalize World.setCell _ ⟨w.heap.size, 2, none⟩ (.int .i64 0) = wz
                  intro ⟨zE, zA⟩
                  have z0 := zA.cell 0; have z1 := zA.cell 1; have z2 := zA.cell 2
                  simp only [List.getElem?_cons_zero, List.getElem?_cons_succ] at z0 z1 z2
                  refine bodyPost_ret (v := readV none) (by simp [readV, results, Tryd.results39, go_sem, z0, z1, z2]) rfl ?_
                  exact ⟨rfl, zE⟩
                · have q5 : (gk != 0) = true := by
                    rcases hok with h | h
                    · cases h
                    · simpa using h
                  go_upto_region 14 with fail
                  have c0 := A0.cell 0; have c1 := A0.cell 1; have c2 := A0.cell 2
                  have f0 := A0.frozen 0; have f1 := A0.frozen 1; have f2 := A0.frozen 2
                  simp only [List.getElem?_cons_zero, List.getElem?_cons_succ] at c0 c1 c2
                  go_wp2
                  have z := ent_store E0 (Nat.le_refl _) A0 (.int .i64 0) (.string ⟨#[]⟩) (.int .i64 0)
                  revert z
                  generalize World.setCell _ ⟨w.heap.size, 2, none⟩ (.int .i64 0) = wz
                  intro ⟨zE, zA⟩
                  have z0 := zA.cell 0; have z1 := zA.cell 1; have z2 := zA.cell 2
                  simp only [List.getElem?_cons_zero, List.getElem?_cons_succ] at z0 z1 z2
                  refine bodyPost_ret (v := readV none) (by simp [readV, results, Tryd.results39, go_sem, z0, z1, z2]) rfl ?_
                  exact ⟨rfl, zE⟩
              · obtain rfl : ok = true := by
                  cases ok
                  · exact absurd (.inl rfl) hok
                  · rfl
                obtain rfl : gk = 0 := Classical.byContradiction fun h => hok (.inr h)
                have hbody2 := Kp.mk (show bodyE d.bs (fp + ix) gen ix 1 (N - 1) = (bodyE d.bs (fp + ix) gen ix (k + 1) (N - (k + 1))).map ((acc ++ [gt]) ++ ·) by
                  rw [HBD.out, hNk, bodyE_good HAT.out rfl, Option.map_map, show N - (k + 1) = N - k - 1 by omega]
                  congr 1
                  funext x
                  simp)
                have hcat := ofL_append tx gt
                have hcl : tx.length + gt.length ≤ 9223372036854775807 := by omega
                have hacc := Kp.mk (show ft.drop 8 ++ (acc ++ [gt]).flatten = tx ++ gt by rw [← HTX.out]; simp)
                have c0 := AE11.cell 0; have c1 := AE11.cell 1; have c2 := AE11.cell 2
                have f0 := AE11.frozen 0; have f1 := AE11.frozen 1; have f2 := AE11.frozen 2
                simp only [List.getElem?_cons_zero, List.getElem?_cons_succ] at c0 c1 c2
                clear hok HBD HAT
                go_upto_region 16 with fail
                obtain ⟨V12, hV12⟩ : ∃ W : World, V11.setCell ⟨eb, 1, none⟩ (.string (ofL (tx ++ gt))) = W := ⟨_, rfl⟩
                rw [hV12]
                have FB12 : FrB V12 w10.heap.size ⟨gm, 0, gt⟩ := by rw [← hV12]; exact frb_other FB11 (by omega) _ _
                have AE12 : Arr V12 eb 61 [.int .i64 fk, .string (ofL (tx ++ gt)), .int .i64 N] := by rw [← hV12]; exact AE11.set 1 _
                have O12 := own_set_other (j := 1) O11 AE11 (by decide) (.string (ofL (tx ++ gt)))
                have E012 := E011.st (p := ⟨eb, 1, none⟩) hwE (.string (ofL (tx ++ gt)))
                rw [hV12] at O12 E012
                clear hV12 FB11 AE11 O11 E011 c0 c1 c2 f0 f1 f2 d0 d1 d2 df hcat hcl
                obtain ⟨d0, d1, d2, df⟩ := FB12.cells
                dsimp only at d0 d1 d2
                go_wp2_with (at_builtin; refine wpl_app Tryd.elemStr rfl _ _ rfl O12 1 rfl rfl rfl (by intro u hu; simp at hu; rw [hu]; rfl) (by omega) (by omega) E012.size ?_; intro v5 w5 O5 hg5; have F5 := E012.own hg5 O12 (Nat.le_refl _); have A5 := arr_kept_type AE12 O12 (by decide) hg5; clear O12 hg5 E012 AE12 FB12 d0 d1 d2 df)
                go_roundw
                case rel => exact ⟨k + 1, acc ++ [gt], by go_num, by simp; omega, .inl hlt, F5, by rw [hacc.out]; exact A5, own_eq O5 (by simp [Str]) rfl, by rw [hacc.out, List.length_append]; omega, hbody2.out⟩
                case measure => simp [intOf]; omega
            · have A0 := HA0.out.ext E HA0.out.lt
              have E0 := HE0.out.tr E
              have hle2 : N ≤ k := by omega
              by_cases hN0 : N = 0
              · obtain rfl : R = none := by rw [HHEAD.out, if_pos hN0]
                have q6 : ((N : Int) == 0) = true := by simp; exact hN0
                clear hbody HHEAD
                go_upto_region 18 with fail
                clear c0 c1 c2 f0 f1 f2
                have c0 := A0.cell 0; have c1 := A0.cell 1; have c2 := A0.cell 2
                have f0 := A0.frozen 0; have f1 := A0.frozen 1; have f2 := A0.frozen 2
                simp only [List.getElem?_cons_zero, List.getElem?_cons_succ] at c0 c1 c2
                go_wp2
                have z := ent_store E0 (Nat.le_refl _) A0 (.int .i64 0) (.string ⟨#[]⟩) (.int .i64 0)
                revert z
                generalize World.setCell _ ⟨w.heap.size, 2, none⟩ (.int .i64 0) = wz
                intro ⟨zE, zA⟩
                have z0 := zA.cell 0; have z1 := zA.cell 1; have z2 := zA.cell 2
                simp only [List.getElem?_cons_zero, List.getElem?_cons_succ] at z0 z1 z2
                refine bodyPost_ret (v := readV none) (by simp [readV, results, Tryd.results39, go_sem, z0, z1, z2]) rfl ?_
                exact ⟨rfl, zE⟩
              · obtain rfl : k = N := by omega
                have hR2 : R = if tx.length = n ∧ partsE tx = ft :: acc then some (fk, tx, k) else none := by
                  rw [HHEAD.out, if_neg hN0, hbody, Nat.sub_self, show bodyE d.bs (fp + ix) gen ix k 0 = some [] from by cases k <;> rfl, Option.map_some, List.append_nil]
                  unfold tailE
                  dsimp only
                  rw [htx, HNUM.out, HNB.out]
                have hn64 : n ≤ 65536 := by
                  have h9 : ¬ ((n : Int) < 0 ∨ 65536 < (n : Int)) := fun h => hN0 (by rw [← HNB.out]; exact blkN_zero.2 h)
                  omega
                have q6 : ((k : Int) == 0) = false := by simp; exact hN0
                clear hbody HHEAD htx
                by_cases hlen : tx.length = n
                · have q7 : ((tx.length : Int) != (n : Int)) = false := by rw [hlen]; simp
                  have hpll := length_partsE (s := tx) (by omega)
                  have hpb := blkN_le (tx.length : Int)
                  obtain ⟨pl, hpl⟩ : ∃ pl, partsE tx = pl := ⟨_, rfl⟩
                  have cP := Kp.mk (eparts_any tx wr (HT0.out.ext E) (by omega))
                  rw [hpl] at cP hR2 hpll
                  have hsx : (ofL tx).size = tx.length := size_ofL tx
                  clear hpl
                  have hpl1 : pl.length ≤ 1000000 := by omega
                  clear hpll hpb
                  go_wp2_with fail
                  refine cP.out.mono ?_
                  rintro e w13 ⟨v13, rfl, O13, E13⟩
                  have O14 := own_ext O (fun i _ hi => E13.block i hi)
                  obtain ⟨bq, hbq⟩ : ∃ b, decide (pl = ft :: acc) = b := ⟨_, rfl⟩
                  have cQ := Kp.mk (eqs_any O13 (own_eq O14 rfl (show k = (ft :: acc).length by rw [List.length_cons]; omega)) hpl1 (by rw [List.length_cons]; omega))
                  rw [hbq] at cQ
                  clear O13 O14 O cP
                  go_wp2_with fail
                  refine cQ.out.mono ?_
                  rintro e w14 ⟨rfl, E14⟩
                  have E1314 := E13.tr E14
                  have A14 := A0.ext E1314 A0.lt
                  have E014 := E0.tr E1314
                  have AE14 := AE.ext E1314 AE.lt
                  clear E13 E14 cQ c0 c1 c2 f0 f1 f2 A0 E0 AE E
                  cases bq
                  · obtain rfl : R = none := by rw [hR2, if_neg (fun h => by rw [decide_eq_true h.2] at hbq; cases hbq)]
                    clear hR2 hbq
                    have A0 := A14; have E0 := E014
                    go_upto_region 18 with fail
                    have c0 := A0.cell 0; have c1 := A0.cell 1; have c2 := A0.cell 2
                    have f0 := A0.frozen 0; have f1 := A0.frozen 1; have f2 := A0.frozen 2
                    simp only [List.getElem?_cons_zero, List.getElem?_cons_succ] at c0 c1 c2
                    go_wp2
                    have z := ent_store E0 (Nat.le_refl _) A0 (.int .i64 0) (.string ⟨#[]⟩) (.int .i64 0)
                    revert z
                    generalize World.setCell _ ⟨w.heap.size, 2, none⟩ (.int .i64 0) = wz
                    intro ⟨zE, zA⟩
                    have z0 := zA.cell 0; have z1 := zA.cell 1; have z2 := zA.cell 2
                    simp only [List.getElem?_cons_zero, List.getElem?_cons_succ] at z0 z1 z2
                    refine bodyPost_ret (v := readV none) (by simp [readV, results, Tryd.results39, go_sem, z0, z1, z2]) rfl ?_
                    exact ⟨rfl, zE⟩
                  · obtain rfl : R = some (fk, tx, k) := by rw [hR2, if_pos ⟨hlen, of_decide_eq_true hbq⟩]
                    clear hR2 hbq
                    have c0 := A14.cell 0; have c1 := A14.cell 1; have c2 := A14.cell 2
                    have f0 := A14.frozen 0; have f1 := A14.frozen 1; have f2 := A14.frozen 2
                    have e0 := AE14.cell 0; have e1 := AE14.cell 1; have e2 := AE14.cell 2
                    simp only [List.getElem?_cons_zero, List.getElem?_cons_succ] at c0 c1 c2 e0 e1 e2
                    go_wp2
                    have z := ent_store E014 (Nat.le_refl _) A14 (.int .i64 fk) (.string (ofL tx)) (.int .i64 k)
                    revert z
                    generalize World.setCell _ ⟨w.heap.size, 2, none⟩ (.int .i64 (k : Int)) = wz
                    intro ⟨zE, zA⟩
                    have z0 := zA.cell 0; have z1 := zA.cell 1; have z2 := zA.cell 2
                    simp only [List.getElem?_cons_zero, List.getElem?_cons_succ] at z0 z1 z2
                    refine bodyPost_ret (v := readV (some (fk, tx, k))) (by simp [readV, results, Tryd.results39, go_sem, z0, z1, z2]) rfl ?_
                    exact ⟨rfl, zE⟩
                · have q7 : ((tx.length : Int) != (n : Int)) = true := by simp; omega
                  have hsx : (ofL tx).size = tx.length := size_ofL tx
                  obtain rfl : R = none := by rw [hR2, if_neg (fun h => hlen h.1)]
                  clear hR2
                  go_upto_region 18 with fail
                  clear c0 c1 c2 f0 f1 f2
                  have c0 := A0.cell 0; have c1 := A0.cell 1; have c2 := A0.cell 2
                  have f0 := A0.frozen 0; have f1 := A0.frozen 1; have f2 := A0.frozen 2
                  simp only [List.getElem?_cons_zero, List.getElem?_cons_succ] at c0 c1 c2
                  go_wp2
                  have z := ent_store E0 (Nat.le_refl _) A0 (.int .i64 0) (.string ⟨#[]⟩) (.int .i64 0)
                  revert z
                  generalize World.setCell _ ⟨w.heap.size, 2, none⟩ (.int .i64 0) = wz
                  intro ⟨zE, zA⟩
                  have z0 := zA.cell 0; have z1 := zA.cell 1; have z2 := zA.cell 2
                  simp only [List.getElem?_cons_zero, List.getElem?_cons_succ] at z0 z1 z2
                  refine bodyPost_ret (v := readV none) (by simp [readV, results, Tryd.results39, go_sem, z0, z1, z2]) rfl ?_
                  exact ⟨rfl, zE⟩
end
end Go.Proofs.YtmnpbpfeoackiaaDoor
