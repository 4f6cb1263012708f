/-
  Package frame: Get of a block. Condition: the block has 128 bytes.
-/
import Derived.Test.YtjpcedgonjmchaaFrameGet
import Derived.Test.YtjpcedgonjmchaaInv3
namespace Go.Proofs.Ytjpcedgonjmchaa
open Go.RowKit

set_option maxRecDepth 100000 in
set_option maxHeartbeats 2000000 in
theorem fget_long (s : List UInt8) (w : World) (hs : s.length = 128) :
    Calls Try.prog 17 #[.string (ofL s)] w fun e w' => e = .returned (.tuple #[frV (frGet s).1, .bool (frGet s).2]) ∧ Ext w w' := by
  have hsz : (ofL s).size = 128 := by rw [size_ofL]; exact hs
  obtain ⟨w1, hw1, hE1, hz1, b1⟩ := fr_box w ⟨0, 0, []⟩
  have HW1 := Lib.hid hw1; clear hw1 hz1
  obtain ⟨c9, hc9⟩ : ∃ c, s.getD 9 0 = c := ⟨_, rfl⟩
  obtain ⟨c8, hc8⟩ : ∃ c, s.getD 8 0 = c := ⟨_, rfl⟩
  have g9 : ∀ h, (ofL s)[9]'h = c9 := fun h => by rw [← hc9, ofL_getD]
  have g8 : ∀ h, (ofL s)[8]'h = c8 := fun h => by rw [← hc8, ofL_getD]
  obtain ⟨n9, hn9⟩ : ∃ n, min c9.toNat 110 = n := ⟨_, rfl⟩
  have hn : n9 ≤ 110 := by omega
  have hc9' := c9.toNat_lt
  have hc8' := c8.toNat_lt
  have x8 : (ofL s).extract 0 8 = ofL (s.take 8) := by rw [ofL_extract]; rfl
  have xt : (ofL s).extract 10 (10 + n9) = ofL ((s.drop 10).take n9) := by rw [ofL_extract, show 10 + n9 - 10 = n9 by omega]
  have l8 : (s.take 8).length = 8 := by rw [List.length_take, hs]; rfl
  have hF : frRaw s = ⟨wrap64 ((numN (s.take 8) : Nat) : Int), (c8.toNat : Int), (s.drop 10).take n9⟩ := by
    unfold frRaw; rw [hc9, hc8, hn9]
  obtain ⟨q, hq⟩ : ∃ q, 10 + n9 = q := ⟨_, rfl⟩
  rw [hq] at xt
  have d6 : (10 : Int) + (n9 : Int) = (q : Int) := by omega
  have d1 : (0 : Int) ≤ (q : Int) := by omega
  have d2 : (10 : Int) ≤ (q : Int) := by omega
  have d3 : (q : Int) ≤ 128 := by omega
  have d7 : 10 ≤ q := by omega
  have d8 : q ≤ 128 := by omega
  have e1 : -9223372036854775808 ≤ (c9.toNat : Int) ∧ (c9.toNat : Int) ≤ 9223372036854775807 := by omega
  have e2 : -9223372036854775808 ≤ (c8.toNat : Int) ∧ (c8.toNat : Int) ≤ 9223372036854775807 := by omega
  have e3 : -9223372036854775808 ≤ 10 + (n9 : Int) ∧ 10 + (n9 : Int) ≤ 9223372036854775807 := by omega
  have e4 : min (c9.toNat : Int) 110 = (n9 : Int) := by omega
  have w8 : wrap64 (c8.toNat : Int) = (c8.toNat : Int) := IntWalk.wrap64_in _ e2
  have hmin : min (wrap64 (c9.toNat : Int)) 110 = (n9 : Int) := by rw [IntWalk.wrap64_in _ e1]; exact e4
  have d4 : wrap64 (10 + (n9 : Int)) = (q : Int) := by rw [IntWalk.wrap64_in _ e3]; exact d6
  have d5 : IntKind.i64.wrap (10 + (n9 : Int)) = (q : Int) := by rw [IntWalk.i64_in _ e3]; exact d6
  have w8i : IntKind.i64.wrap (c8.toNat : Int) = (c8.toNat : Int) := IntWalk.i64_in _ e2
  have wqi : IntKind.i64.wrap (q : Int) = (q : Int) := by rw [← d6]; exact IntWalk.i64_in _ e3
  clear hq hn9 e1 e2 e3 e4 hc9' hc8'
  obtain ⟨T, hT⟩ : ∃ T, (s.drop 10).take n9 = T := ⟨_, rfl⟩
  obtain ⟨M, hM⟩ : ∃ M, wrap64 ((numN (s.take 8) : Nat) : Int) = M := ⟨_, rfl⟩
  rw [hT] at xt hF
  have HM := Lib.hid hM
  rw [hM] at hF
  clear hM hT
  go_enter Try.func17, Try.ntmps17
  go_upto_region 1 with fail
  rw [show (⟨#[]⟩ : ByteArray) = ofL [] from rfl, ← HW1.out]
  clear HW1
  go_upto_region 4 with fail
  obtain ⟨B, hB⟩ : ∃ B, B = w1.drew.alloc (.cells (frCells ⟨0, 0, []⟩) 33) := ⟨_, rfl⟩
  have EB : Ext w1 B := by rw [hB]; exact (Ext.rfl' w1).dr.al _
  have bB : FrB B w1.heap.size ⟨0, 0, []⟩ := by rw [hB]; exact heap_alloc_new w1.drew _
  obtain ⟨C, hC⟩ : ∃ C, C = ((B.setCell ⟨w1.heap.size, 0, none⟩ (.int .i64 M)).setCell ⟨w1.heap.size, 1, none⟩ (.int .i64 c8.toNat)).setCell ⟨w1.heap.size, 2, none⟩ (.string (ofL T)) := ⟨_, rfl⟩
  have EC : Ext w1 C := by rw [hC]; exact ((EB.st (by simp) _).st (by simp) _).st (by simp) _
  have bC : FrB C w1.heap.size ⟨M, c8.toNat, T⟩ := by rw [hC]; exact fset3 bB ⟨M, c8.toNat, T⟩
  obtain ⟨wOf, q0, q1, q2, qn⟩ : ∃ wOf : (Nat → Bool) → World, (∀ L, L 11 = false → wOf L = w1.drew) ∧ (∀ L, L 11 = true → L 12 = false → wOf L = B) ∧ (∀ L, L 11 = true → L 12 = true → wOf L = C) ∧ (∀ L i, i ≠ 11 → i ≠ 12 → wOf (setL L i) = wOf L) := by
    refine ⟨fun L => if L 11 = false then w1.drew else if L 12 = false then B else C, fun L h => if_pos h, fun L h h2 => ?_, fun L h h2 => ?_, fun L i h h2 => ?_⟩
    · dsimp only; rw [if_neg (by rw [h]; simp), if_pos h2]
    · dsimp only; rw [if_neg (by rw [h]; simp), if_neg (by rw [h2]; simp)]
    · dsimp only; rw [setL_ne (Ne.symm h), setL_ne (Ne.symm h2)]
  refine wp_region_states (fun k => match k with
    | 0 => (.string (ofL s))
    | 1 => (.string (ofL (s.take 8)))
    | 2 => (.int .i64 M)
    | 3 => (.string (ofL s))
    | 4 => (.int .u8 c8.toNat)
    | 5 => (.int .i64 c8.toNat)
    | 6 => (.string (ofL s))
    | 7 => (.int .i64 n9)
    | 8 => (.int .i64 q)
    | 9 => (.string (ofL T))
    | 10 => (frV ⟨M, c8.toNat, T⟩)
    | 11 => (.pointer (some ⟨w1.heap.size, 0, none⟩))
    | 12 => undef
    | _ => undef) wOf (by kernel_rfl) (by kernel_rfl) (by kernel_rfl) (q0 _ rfl) ?_ ?_
  · refine localsS_cons (fun u L h0 hcl hd => ⟨rfl, ?_⟩) ?_
    · left
      rw [qn L 0 (by decide) (by decide)]
      refine Eq.trans (b := .ok (.value (.string (ofL s))) (wOf L)) ?_ rfl
      generalize wOf L = W
      clear hcl hd q0 q1 q2 qn
      go_simp
    refine localsS_cons (fun u L h0 hcl hd => ⟨rfl, ?_⟩) ?_
    · left
      rw [qn L 1 (by decide) (by decide)]
      have h1 : u 0 = _ := (hd 0 (by kernel_rfl)).2
      refine Eq.trans (b := .ok (.value (.string (ofL (s.take 8)))) (wOf L)) ?_ rfl
      generalize wOf L = W
      clear hcl hd q0 q1 q2 qn
      go_simp
    refine localsS_cons (fun u L h0 hcl hd => ⟨rfl, ?_⟩) ?_
    · right; right
      rw [qn L 2 (by decide) (by decide)]
      have h2 : u 1 = _ := (hd 1 (by kernel_rfl)).2
      refine ⟨46, #[.string (ofL (s.take 8))], by go_simp, (number_any (s.take 8) _ l8).mono ?_⟩
      rintro e9 W9 ⟨rfl, rfl⟩
      exact ⟨by rw [HM.out]; rfl, rfl⟩
    refine localsS_cons (fun u L h0 hcl hd => ⟨rfl, ?_⟩) ?_
    · left
      rw [qn L 3 (by decide) (by decide)]
      refine Eq.trans (b := .ok (.value (.string (ofL s))) (wOf L)) ?_ rfl
      generalize wOf L = W
      clear hcl hd q0 q1 q2 qn
      go_simp
    refine localsS_cons (fun u L h0 hcl hd => ⟨rfl, ?_⟩) ?_
    · left
      rw [qn L 4 (by decide) (by decide)]
      have h4 : u 3 = _ := (hd 3 (by kernel_rfl)).2
      refine Eq.trans (b := .ok (.value (.int .u8 c8.toNat)) (wOf L)) ?_ rfl
      generalize wOf L = W
      clear hcl hd q0 q1 q2 qn
      go_simp
    refine localsS_cons (fun u L h0 hcl hd => ⟨rfl, ?_⟩) ?_
    · left
      rw [qn L 5 (by decide) (by decide)]
      have h5 : u 4 = _ := (hd 4 (by kernel_rfl)).2
      refine Eq.trans (b := .ok (.value (.int .i64 c8.toNat)) (wOf L)) ?_ rfl
      generalize wOf L = W
      clear hcl hd q0 q1 q2 qn
      go_simp
    refine localsS_cons (fun u L h0 hcl hd => ⟨rfl, ?_⟩) ?_
    · left
      rw [qn L 6 (by decide) (by decide)]
      refine Eq.trans (b := .ok (.value (.string (ofL s))) (wOf L)) ?_ rfl
      generalize wOf L = W
      clear hcl hd q0 q1 q2 qn
      go_simp
    refine localsS_cons (fun u L h0 hcl hd => ⟨rfl, ?_⟩) ?_
    · left
      rw [qn L 7 (by decide) (by decide)]
      refine Eq.trans (b := .ok (.value (.int .i64 n9)) (wOf L)) ?_ rfl
      generalize wOf L = W
      clear hcl hd q0 q1 q2 qn
      go_simp
    refine localsS_cons (fun u L h0 hcl hd => ⟨rfl, ?_⟩) ?_
    · left
      rw [qn L 8 (by decide) (by decide)]
      have h8 : u 7 = _ := (hd 7 (by kernel_rfl)).2
      refine Eq.trans (b := .ok (.value (.int .i64 q)) (wOf L)) ?_ rfl
      generalize wOf L = W
      clear hcl hd q0 q1 q2 qn
      go_simp
    refine localsS_cons (fun u L h0 hcl hd => ⟨rfl, ?_⟩) ?_
    · left
      rw [qn L 9 (by decide) (by decide)]
      have h7 : u 6 = _ := (hd 6 (by kernel_rfl)).2
      have h9 : u 8 = _ := (hd 8 (by kernel_rfl)).2
      refine Eq.trans (b := .ok (.value (.string (ofL T))) (wOf L)) ?_ rfl
      generalize wOf L = W
      clear hcl hd q0 q1 q2 qn
      go_simp
    refine localsS_cons (fun u L h0 hcl hd => ⟨rfl, ?_⟩) ?_
    · left
      rw [qn L 10 (by decide) (by decide)]
      have h3 : u 2 = _ := (hd 2 (by kernel_rfl)).2
      have h6 : u 5 = _ := (hd 5 (by kernel_rfl)).2
      have h10 : u 9 = _ := (hd 9 (by kernel_rfl)).2
      refine Eq.trans (b := .ok (.value (frV ⟨M, c8.toNat, T⟩)) (wOf L)) ?_ rfl
      generalize wOf L = W
      clear hcl hd q0 q1 q2 qn
      go_simp
    refine localsS_cons (fun u L h0 hcl hd => ⟨rfl, ?_⟩) ?_
    · left
      have n12 : L 12 = false := by
        cases h : L 12 with
        | false => rfl
        | true => rw [hcl 12 11 h (by kernel_rfl)] at h0; cases h0
      rw [q0 L h0, q1 (setL L 11) setL_eq (by rw [setL_ne (by decide)]; exact n12), hB]
      refine Eq.trans (b := .ok (.value (.pointer (some ⟨w1.heap.size, 0, none⟩))) (w1.drew.alloc (.cells (frCells ⟨0, 0, []⟩) 33))) ?_ rfl
      go_simp
      rfl
    refine localsS_cons (fun u L h0 hcl hd => ⟨rfl, ?_⟩) localsS_nil
    · right; left
      refine ⟨rfl, ?_⟩
      have h11 : u 11 = _ := (hd 11 (by kernel_rfl)).2
      have h10 : u 10 = _ := (hd 10 (by kernel_rfl)).2
      have y11 := (hd 11 (by kernel_rfl)).1
      rw [q1 L y11 h0, q2 (setL L 12) (by rw [setL_ne (by decide)]; exact y11) setL_eq, hC]
      obtain ⟨k0, k1, k2, kf⟩ := bB.cells
      clear hcl hd q0 q1 q2 qn hB hC
      go_simp
  · intro u L hV
    have h11 : u 11 = _ := (hV 11 (by decide)).2
    have hL : wOf L = C := q2 L (hV 11 (by decide)).1 (hV 12 (by decide)).1
    rw [hL]
    have lt1 := b1.lt
    have bR := b1.ext EC
    have ER := hE1.tr EC
    clear hV hL q0 q1 q2 qn hB hC EB bB EC hE1 b1
    have hb := frRaw_bad hs
    have hr := frRaw_good (s := s)
    have hp : frGood s → frPut (frOf s) = (s, 0) := frPut_of
    have hmk : frGood s → (frOf s).m ≠ 0 := fun h => by unfold frOf; dsimp only; have := h.2.2.2.2.2; omega
    rw [hF] at hb hr
    obtain ⟨F, hFF⟩ : ∃ F : Frm, (⟨M, (c8.toNat : Int), T⟩ : Frm) = F := ⟨_, rfl⟩
    have hFm : F.m < 9223372036854775808 := by
      rw [← hFF, ← HM.out]
      dsimp only
      unfold wrap64
      omega
    rw [hFF] at hb hr bC
    clear hF d1 d2 d3 d4 d5 d6 d7 d8 w8 w8i wqi hmin xt x8 g8 g9 l8 HM hFF
    obtain ⟨k0, k1, k2, kf⟩ := bC.cells
    by_cases hg : frGood s
    · have hG : frGet s = (frOf s, true) := if_pos hg
      have hr := hr hg
      have hp := hp hg
      have hmk := hmk hg
      rw [← hr] at hp hmk hG
      have HG := Lib.hid hG
      clear hb hr hg hG
      have HP := Lib.hid hp; clear hp
      go_upto_region 5 with fail
      go_wp2_with fail
      refine (fput F _ hFm).mono ?_
      rintro e w3 ⟨rfl, E3⟩
      rw [HP.out]
      have bC := bC.ext E3
      have bR := bR.ext E3
      have ER := ER.tr E3
      clear k0 k1 k2 kf
      obtain ⟨k0, k1, k2, kf⟩ := bC.cells
      obtain ⟨r0, r1, r2, rf⟩ := bR.cells
      dsimp only at r0 r1 r2
      have hn := fun W => fr_neq F ⟨0, 0, []⟩ W
      rw [show frEq F ⟨0, 0, []⟩ = false from by
        cases h : frEq F ⟨0, 0, []⟩ with
        | false => rfl
        | true => exact (hmk (congrArg Frm.m ((frEq_iff _ _).1 h))).elim] at hn
      have e1 : (ofL s == ofL s) = true := by rw [beq_toListBytes]; simp
      have e2 : (ofL s != ofL s) = false := by rw [bne, e1]; rfl
      go_upto_region 8 with fail
      go_region
      have z4 := fset3 bR F
      have zE := ((ER.st (p := ⟨w.heap.size, 0, none⟩) (by simp) (.int .i64 F.m)).st (p := ⟨w.heap.size, 1, none⟩) (by simp) (.int .i64 F.k)).st (p := ⟨w.heap.size, 2, none⟩) (by simp) (.string (ofL F.t))
      go_wp2
      revert z4 zE
      generalize ((w3.setCell ⟨w.heap.size, 0, none⟩ (.int .i64 F.m)).setCell ⟨w.heap.size, 1, none⟩ (.int .i64 F.k)).setCell ⟨w.heap.size, 2, none⟩ (.string (ofL F.t)) = wz
      intro z4 zE
      have z5 : FrB wz.drew w.heap.size F := z4
      obtain ⟨f0, f1, f2, _⟩ := z5.cells
      refine bodyPost_ret (v := .tuple #[frV F, .bool true]) (by simp [results, Try.results17, go_sem, f0, f1, f2]) rfl ?_
      rw [HG.out]
      exact ⟨rfl, zE.dr⟩
    · have HG := Lib.hid (show frGet s = (⟨0, 0, []⟩, false) from if_neg hg)
      have hb := hb hg
      clear hr hp hmk hg
      obtain ⟨p, er, hpe⟩ : ∃ p er, frPut F = (p, er) := ⟨_, _, rfl⟩
      rw [hpe] at hb
      have HP := Lib.hid hpe; clear hpe
      go_upto_region 5 with fail
      go_wp2_with fail
      refine (fput F _ hFm).mono ?_
      rintro e w3 ⟨rfl, E3⟩
      rw [HP.out]
      have bC := bC.ext E3
      have bR := bR.ext E3
      have ER := ER.tr E3
      clear k0 k1 k2 kf
      obtain ⟨r0, r1, r2, rf⟩ := bR.cells
      dsimp only at r0 r1 r2 hb
      have z4 := fset3 bR ⟨0, 0, []⟩
      have zE := ((ER.st (p := ⟨w.heap.size, 0, none⟩) (by simp) (.int .i64 0)).st (p := ⟨w.heap.size, 1, none⟩) (by simp) (.int .i64 0)).st (p := ⟨w.heap.size, 2, none⟩) (by simp) (.string ⟨#[]⟩)
      rw [show (.string (ofL (⟨0, 0, []⟩ : Frm).t) : Value) = .string ⟨#[]⟩ from rfl] at z4
      have case2 : (er == 0) = false ∨ ((er == 0) = true ∧ (ofL p == ofL s) = false ∧ (p == s) = false) := by
        rcases hb with h | h
        · exact .inl (ieq_f h)
        · by_cases he : er = 0
          · right
            refine ⟨by simp [he], ?_, ?_⟩
            · rw [beq_toListBytes, toList_eq_toL, toList_eq_toL, toL_ofL, toL_ofL]
              simpa using h
            · simpa using h
          · exact .inl (ieq_f he)
      clear hb
      rcases case2 with t1 | ⟨t1, t2, t3⟩
      · have t1' : (er != 0) = true := by rw [bne, t1]; rfl
        go_wp2
        revert z4 zE
        generalize ((w3.setCell ⟨w.heap.size, 0, none⟩ (.int .i64 0)).setCell ⟨w.heap.size, 1, none⟩ (.int .i64 0)).setCell ⟨w.heap.size, 2, none⟩ (.string ⟨#[]⟩) = wz
        intro z4 zE
        obtain ⟨f0, f1, f2, _⟩ := z4.cells
        refine bodyPost_ret (v := .tuple #[frV ⟨0, 0, []⟩, .bool false]) (by simp [results, Try.results17, go_sem, f0, f1, f2]) rfl ?_
        rw [HG.out]
        exact ⟨rfl, zE⟩
      · have t1' : (er != 0) = false := by rw [bne, t1]; rfl
        have t2' : (ofL p != ofL s) = true := by rw [bne, t2]; rfl
        go_wp2
        revert z4 zE
        generalize ((w3.setCell ⟨w.heap.size, 0, none⟩ (.int .i64 0)).setCell ⟨w.heap.size, 1, none⟩ (.int .i64 0)).setCell ⟨w.heap.size, 2, none⟩ (.string ⟨#[]⟩) = wz
        intro z4 zE
        obtain ⟨f0, f1, f2, _⟩ := z4.cells
        refine bodyPost_ret (v := .tuple #[frV ⟨0, 0, []⟩, .bool false]) (by simp [results, Try.results17, go_sem, f0, f1, f2]) rfl ?_
        rw [HG.out]
        exact ⟨rfl, zE⟩
end Go.Proofs.Ytjpcedgonjmchaa
