/-
  Package rootid and its reference: Get. Condition: the text is at most 1000000 bytes.
-/
import Derived.Test.YtjpcedgonjmchaaRoot2
import Derived.Deep.DeepCutAuto
namespace Go.Proofs.Ytjpcedgonjmchaa
open Go.RowKit

theorem set4 {w : World} {b : Nat} {a0 a1 a2 a3 : Value} (h : RtBox w b a0 a1 a2 a3) (c0 c1 c2 c3 : Value) :
    RtBox ((((w.setCell ⟨b, 0, none⟩ c0).setCell ⟨b, 1, none⟩ c1).setCell ⟨b, 2, none⟩ c2).setCell ⟨b, 3, none⟩ c3) b c0 c1 c2 c3 :=
  (((h.set0 c0).set1 c1).set2 c2).set3 c3

theorem rt_box (w : World) (a b c d : Value) : ∃ w2, w2 = w.alloc (.cells #[a, b, c, d] 23) ∧ Ext w w2 ∧ w2.heap.size = w.heap.size + 1 ∧ RtBox w2 w.heap.size a b c d :=
  ⟨_, rfl, (Ext.rfl' _).al _, by simp, heap_alloc_new w _⟩
theorem rByte_t (c : UInt8) (h : c ≠ 1) : (((c.toNat : Nat) : Int) != 1) = true := by
  rw [bne_iff_ne]; intro e; apply h; apply UInt8.toNat_inj.1; have : c.toNat = 1 := by omega
  exact this

set_option maxRecDepth 100000 in
set_option maxHeartbeats 2000000 in
theorem root_get (s : List UInt8) (w : World) (hs : s.length ≤ 1000000) :
    Calls Try.prog 12 #[.string (ofL s)] w fun ee w' => ee = .returned (.tuple #[rootV (rootGet s).1, .int .i64 (rootGet s).2]) ∧ Ext w w' := by
  obtain ⟨w1, hw1, hE1, hz1, hb1⟩ := rt_box w (.string (ofL [])) (.int .i64 0) (.int .i64 0) (.int .i64 0)
  have HW1 := Lib.hid hw1; clear hw1
  have L1 := rByte_len (s, 0)
  have B1 : rootBeg s = if (rByte (s, 0)).1 ≠ 1 then rFail (rByte (s, 0)).2 2 else (rByte (s, 0)).2 := rfl
  have N1 : rootName s = if wordL (rText (rootBeg s) 32).1 = true then (rText (rootBeg s) 32).2 else rFail (rText (rootBeg s) 32).2 4 := rfl
  have G1 : rootGet s = if (rEnd (numK (numK (numK (rootName s)).2).2).2).2 ≠ 0 then (⟨[], 0, 0, 0⟩, (rEnd (numK (numK (numK (rootName s)).2).2).2).2)
    else (⟨(rText (rootBeg s) 32).1, (numK (rootName s)).1, (numK (numK (rootName s)).2).1, (numK (numK (numK (rootName s)).2).2).1⟩, 0) := rfl
  have L2 : (rootBeg s).1.length ≤ 1000000 := by
    rw [B1]; split
    · have := rFail_le (rByte (s, 0)).2 2; simp only [] at L1; omega
    · simp only [] at L1; omega
  have L3 : (rootName s).1.length ≤ 1000000 := by
    have := rText_len (rootBeg s) 32
    rw [N1]; split
    · omega
    · have := rFail_le (rText (rootBeg s) 32).2 4; omega
  have L4 := numK_len (rootName s)
  have L5 := numK_len (numK (rootName s)).2
  have L6 := numK_len (numK (numK (rootName s)).2).2
  obtain ⟨c, x, hq⟩ : ∃ c x, rByte (s, 0) = (c, x) := ⟨_, _, rfl⟩
  obtain ⟨x1, hx1⟩ : ∃ x1, rootBeg s = x1 := ⟨_, rfl⟩
  rw [hq, hx1] at B1
  obtain ⟨t, x2, hx2⟩ : ∃ t x2, rText x1 32 = (t, x2) := ⟨_, _, rfl⟩
  obtain ⟨x3, hx3⟩ : ∃ x3, rootName s = x3 := ⟨_, rfl⟩
  rw [hx1, hx2, hx3] at N1
  rw [hx1, hx2, hx3] at G1
  rw [hx1] at L2
  rw [hx3] at L3 L4 L5 L6
  obtain ⟨x6, hx6⟩ : ∃ x6, (numK (numK (numK x3).2).2).2 = x6 := ⟨_, rfl⟩
  rw [hx6] at L6 G1
  obtain ⟨v1, hv1⟩ : ∃ v1, (numK x3).1 = v1 := ⟨_, rfl⟩
  obtain ⟨v2, hv2⟩ : ∃ v2, (numK (numK x3).2).1 = v2 := ⟨_, rfl⟩
  obtain ⟨v3, hv3⟩ : ∃ v3, (numK (numK (numK x3).2).2).1 = v3 := ⟨_, rfl⟩
  rw [hv1, hv2, hv3] at G1
  obtain ⟨er, her⟩ : ∃ er, (rEnd x6).2 = er := ⟨_, rfl⟩
  rw [her] at G1
  have L7 : x6.1.length ≤ 1000000 := by omega
  clear L4 L5 L6 L1
  obtain ⟨G, hG⟩ : ∃ G, rootGet s = G := ⟨_, rfl⟩
  rw [hG] at G1 ⊢
  clear hG
  have HG := Lib.hid G1; clear G1
  have HQ := Lib.hid hq; clear hq
  have HB := Lib.hid B1; clear B1
  have HN := Lib.hid N1; clear N1
  have H2 := Lib.hid hx2; clear hx2
  have H6 := Lib.hid hx6; clear hx6
  have V1 := Lib.hid hv1; clear hv1
  have V2 := Lib.hid hv2; clear hv2
  have V3 := Lib.hid hv3; clear hv3
  have HR := Lib.hid her; clear her
  clear hx1 hx3
  go_enter Try.func12, Try.ntmps12
  go_wp2_with fail
  rw [show (⟨#[]⟩ : ByteArray) = ofL [] from rfl, ← HW1.out]
  refine (new_any _ _).mono ?_
  rintro e w2 ⟨rfl, h2, E2⟩
  rw [toL_ofL] at h2
  obtain ⟨g, hg, hgl⟩ : ∃ g, g = w.heap.size + 1 ∧ w1.heap.size ≤ g := ⟨_, rfl, by omega⟩
  rw [hz1, ← hg] at h2 ⊢
  clear hg
  clear HW1
  go_wp2_with fail
  refine (byte_any g (s, 0) _ h2 hs).mono ?_
  rintro e w3 ⟨rfl, h3, O3⟩
  rw [HQ.out] at h3 ⊢
  have E3 : Ext w1 w3 := O3.toExt E2 (by omega)
  clear h2 O3 E2
  go_upto_if 11 with fail
  go_cut [] (fun wx => Ext w1 wx ∧ Rdr wx g true x1.1 x1.2)
  case first =>
    by_cases hc : c = 1
    · subst hc
      rw [if_neg (by simp)] at HB
      go_wp2_with fail
      go_meet
      exact ⟨E3, by rw [HB.out]; exact h3⟩
    · have tc := rByte_t c hc
      rw [if_pos hc] at HB
      clear hc
      go_wp2_with fail
      refine (fail_any g x 2 _ (by exact h3)).mono ?_
      rintro e w4 ⟨rfl, h4, O4⟩
      go_wp2_with fail
      go_meet
      exact ⟨O4.toExt E3 (by omega), by rw [HB.out]; exact h4⟩
  case rest =>
    obtain ⟨E4, h4⟩ := hcut
    obtain ⟨w5, hw5, E5, z5, b5⟩ := rt_box wc (.string (ofL [])) (.int .i64 0) (.int .i64 0) (.int .i64 0)
    have lt4 := h4.lt
    have ge4 := E4.size
    have h5 := h4.ext E5
    have E5' := E4.tr E5
    have HW5 := Lib.hid hw5; clear hw5
    obtain ⟨o, ho, hol⟩ : ∃ o, o = wc.heap.size ∧ wc.heap.size ≤ o := ⟨_, rfl, Nat.le_refl _⟩
    rw [← ho] at b5
    go_wp2_with fail
    rw [show (⟨#[]⟩ : ByteArray) = ofL [] from rfl, ← HW5.out, ← ho]
    clear ho
    refine (text_any g x1 32 _ h5 L2 (by decide)).mono ?_
    rintro e w6 ⟨rfl, h6, O6⟩
    rw [H2.out] at h6 ⊢
    have b6 := O6.rt b5 (by omega)
    have E6 := O6.toExt E5' (by omega)
    have hgo : o ≠ g := by omega
    clear HW5 h5 b5 E5' h4 E5 E4 O6
    obtain ⟨c0, c1, c2, c3, cf⟩ := b6.cells
    go_wp2_with fail
    obtain ⟨w7, hw7⟩ : ∃ w7, w7 = w6.setCell ⟨o, 0, none⟩ (.string (ofL t)) := ⟨_, rfl⟩
    rw [← hw7]
    have E7 : Ext w1 w7 := by rw [hw7]; exact E6.st (by simp; omega) _
    have h7 : Rdr w7 g true x2.1 x2.2 := by rw [hw7]; exact h6.stNew (by exact fun e => hgo e.symm) _
    have b7 : RtBox w7 o (.string (ofL t)) (.int .i64 0) (.int .i64 0) (.int .i64 0) := by rw [hw7]; exact b6.set0 _
    clear hw7 c0 c1 c2 c3 cf b6 h6 E6
    refine (word_any _ _).mono ?_
    rintro e w8 ⟨rfl, E8⟩
    rw [toL_ofL]
    have h8 := h7.ext E8
    have b8 := b7.ext E8
    have E8 := E7.tr E8
    clear h7 b7 E7
    go_upto_if 20 with fail
    go_cut [] (fun wx => Ext w1 wx ∧ Rdr wx g true x3.1 x3.2 ∧ RtBox wx o (.string (ofL t)) (.int .i64 0) (.int .i64 0) (.int .i64 0))
    case first =>
      cases hwl : wordL t
      · have HN' := HN.out
        rw [hwl, if_neg (by simp)] at HN'
        clear HN
        go_wp2_with fail
        refine (fail_any g x2 4 _ (by exact h8)).mono ?_
        rintro e w9 ⟨rfl, h9, O9⟩
        go_wp2_with fail
        go_meet
        exact ⟨O9.toExt E8 (by omega), by rw [HN']; exact h9, O9.rt b8 hgo⟩
      · have HN' := HN.out
        rw [hwl, if_pos rfl] at HN'
        clear HN
        go_wp2_with fail
        go_meet
        exact ⟨E8, by rw [HN']; exact h8, b8⟩
    case rest =>
      obtain ⟨E9, h9, b9⟩ := hcut
      clear h8 b8 E8
      have lt9 := b9.lt
      go_wp2_with fail
      refine (numbers_any g o wc.heap.size x3 _ _ _ _ w1 _ (E9.al _) hgl (by omega) hgo (by omega) (by have := h9.lt; omega) (h9.ext ((Ext.rfl' _).al _)) L3 (b9.ext ((Ext.rfl' _).al _)) ?_ ?_ ?_).mono ?_
      · simp [go_sem]
      · simp [go_sem]
      · simp [go_sem]
      rintro e w10 ⟨rfl, E10, h10, b10⟩
      rw [H6.out] at h10
      rw [V1.out, V2.out, V3.out] at b10
      clear h9 b9 E9
      go_wp2_with fail
      refine (end_any g x6 _ h10 L7).mono ?_
      rintro e w11 ⟨rfl, h11, O11⟩
      rw [HR.out]
      have E11 := O11.toExt E10 hgl
      have b11 := O11.rt b10 hgo
      have r11 := hb1.ext E11
      clear h10 b10 E10 O11 hb1
      obtain ⟨c0, c1, c2, c3, cf⟩ := b11.cells
      obtain ⟨d0, d1, d2, d3, df⟩ := r11.cells
      by_cases he : er = 0
      · subst he
        go_wp2
        obtain ⟨f0, f1, f2, f3, _⟩ := (set4 r11 (.string (ofL t)) (.int .i64 v1) (.int .i64 v2) (.int .i64 v3)).cells
        refine bodyPost_ret (v := .tuple #[rootV ⟨t, v1, v2, v3⟩, .int .i64 0]) (by simp [results, Try.results12, go_sem, f0, f1, f2, f3]) rfl ?_
        have hh := HG.out
        rw [if_neg (by simp)] at hh
        rw [hh]
        exact ⟨rfl, ((((hE1.tr E11).st (by simp) _).st (by simp) _).st (by simp) _).st (by simp) _⟩
      · have te : (er != 0) = true := bne_int_t he
        go_wp2
        have z4 := set4 r11 (.string ⟨#[]⟩) (.int .i64 0) (.int .i64 0) (.int .i64 0)
        have zE := ((((hE1.tr E11).st (p := ⟨w.heap.size, 0, none⟩) (by simp) (.string ⟨#[]⟩)).st (p := ⟨w.heap.size, 1, none⟩) (by simp) (.int .i64 0)).st (p := ⟨w.heap.size, 2, none⟩) (by simp) (.int .i64 0)).st (p := ⟨w.heap.size, 3, none⟩) (by simp) (.int .i64 0)
        revert z4 zE
        generalize (((w11.setCell ⟨w.heap.size, 0, none⟩ (.string ⟨#[]⟩)).setCell ⟨w.heap.size, 1, none⟩ (.int .i64 0)).setCell ⟨w.heap.size, 2, none⟩ (.int .i64 0)).setCell ⟨w.heap.size, 3, none⟩ (.int .i64 0) = wz
        intro z4 zE
        obtain ⟨f0, f1, f2, f3, _⟩ := z4.cells
        refine bodyPost_ret (v := .tuple #[rootV ⟨[], 0, 0, 0⟩, .int .i64 er]) (by simp [results, Try.results12, go_sem, f0, f1, f2, f3]; rfl) rfl ?_
        have hh := HG.out
        rw [if_pos he] at hh
        rw [hh]
        exact ⟨rfl, zE⟩
end Go.Proofs.Ytjpcedgonjmchaa
