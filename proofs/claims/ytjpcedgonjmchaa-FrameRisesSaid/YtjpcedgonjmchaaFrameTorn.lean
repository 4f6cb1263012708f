/-
  The law FrameTorn returns true at every input; and what a torn write leaves, as plain lists. No condition but the reach of strings and structs.
-/
import Derived.Test.YtjpcedgonjmchaaFrameWalk2
namespace Go.Proofs.Ytjpcedgonjmchaa
open Go.RowKit Go.ChangeShapes Go.WideShapes

def tornL (a b : List UInt8) (k : Nat) : List UInt8 := a.take k ++ b.drop k
theorem torn_low {a b : List UInt8} {k : Nat} (ha : a.length = 128) (hk : k ≤ 120) : (tornL a b k).drop 120 = b.drop 120 := by
  unfold tornL
  rw [List.drop_append, List.drop_of_length_le (by rw [List.length_take]; omega), List.nil_append, List.drop_drop, List.length_take]
  congr 1; omega
theorem torn_high {a b : List UInt8} {k : Nat} (ha : a.length = 128) (hk : 120 ≤ k) (hk2 : k ≤ 128) : (tornL a b k).drop 120 = (a.drop 120).take (k - 120) ++ (b.drop 120).drop (k - 120) := by
  unfold tornL
  rw [List.drop_append_of_le_length (by rw [List.length_take]; omega), List.drop_take, List.drop_drop]
  congr 2; omega
theorem torn_whole {a b : List UInt8} {k : Nat} (_ha : a.length = 128) (hk : 120 ≤ k) (hk2 : k ≤ 128) (h : (b.drop 120).drop (k - 120) = (a.drop 120).drop (k - 120)) : tornL a b k = a := by
  rw [List.drop_drop, List.drop_drop, show 120 + (k - 120) = k by omega] at h
  unfold tornL
  rw [h, List.take_append_drop]
theorem torn_len {a b : List UInt8} {k : Nat} (ha : a.length = 128) (hb : b.length = 128) (hk : k ≤ 128) : (tornL a b k).length = 128 := by
  unfold tornL; rw [List.length_append, List.length_take, List.length_drop]; omega

theorem torn_law {f : Frm} {a b : List UInt8} {k : Nat} (hb : b.length = 128) (hk : k ≤ 128) (ha : frGet a = (f, true)) (hn : a.drop 120 ≠ b.drop 120)
    (ht : (frGet (tornL a b k)).2 = true) (hm : (frGet (tornL a b k)).1.m = f.m) : tornL a b k = a := by
  have ga : frGood a := by
    unfold frGet at ha; split at ha
    · assumption
    · simp at ha
  have gt : frGood (tornL a b k) := by
    unfold frGet at ht; split at ht
    · assumption
    · cases ht
  have hl := ga.1
  have fa : frOf a = f := by unfold frGet at ha; rw [if_pos ga] at ha; exact congrArg Prod.fst ha
  have ft : (frOf (tornL a b k)).m = f.m := by unfold frGet at hm; rw [if_pos gt] at hm; exact hm
  rw [← fa] at ft
  unfold frOf at ft
  dsimp only at ft
  have e1 : (tornL a b k).take 8 = a.take 8 := numN_inj (by rw [List.length_take, List.length_take, torn_len hl hb hk, hl]) (by omega)
  rw [gt.2.1, ga.2.1] at e1
  by_cases hk1 : k ≤ 120
  · rw [torn_low hl hk1] at e1
    exact absurd e1.symm hn
  · rw [torn_high hl (by omega) hk] at e1
    have e2 := (List.take_append_drop (k - 120) (a.drop 120)).symm
    exact torn_whole hl (by omega) hk (List.append_cancel_left (e1.trans e2))

set_option maxRecDepth 100000 in
set_option maxHeartbeats 4000000 in
theorem frameTorn_walk (f : Frm) (old : ByteArray) (n : Int) (W : World) (hf : -9223372036854775808 ≤ f.m ∧ f.m ≤ 9223372036854775807) (_ho : old.size ≤ maxLen) (hn : (Lit.int .u8 n).wf = true) :
    Calls Try.prog 7 #[frV f, .string old, .int .u8 n] W fun e W' => e = .returned (.bool true) ∧ Ext W W' := by
  obtain ⟨n, rfl, hn⟩ : ∃ m : Nat, n = m ∧ m < 256 := by
    have h1 : IntKind.u8.min = 0 := rfl
    have h2 : IntKind.u8.max = 255 := rfl
    simp only [Lit.wf, Bool.and_eq_true, decide_eq_true_eq] at hn
    exact ⟨n.toNat, by omega, by omega⟩
  obtain ⟨w1, hw1, E1, z1, b1⟩ := fr_box W f
  have HW1 := Lib.hid hw1; clear hw1 z1
  have hm : f.m < 9223372036854775808 := by omega
  obtain ⟨k0, k1, k2, kf⟩ := b1.cells
  obtain ⟨old, rfl⟩ : ∃ l, old = ofL l := ⟨toL old, (ofL_toL old).symm⟩
  by_cases hlo : old.length = 128
  · have hso : (ofL old).size = 128 := by rw [size_ofL]; exact hlo
    have ga : (frPut f).2 = 0 → frGet (frPut f).1 = (f, true) := frGet_put hm
    have gl : (frPut f).2 = 0 → (frPut f).1.length = 128 := frPut_len
    obtain ⟨a, ea, ha⟩ : ∃ a ea, frPut f = (a, ea) := ⟨_, _, rfl⟩
    rw [ha] at ga gl
    simp only [] at ga gl
    have HA := Lib.hid ha; clear ha
    have xo : (ofL old).extract 120 128 = ofL (old.drop 120) := by
      rw [ofL_extract, List.take_of_length_le (by rw [List.length_drop]; omega)]
    by_cases he : ea = 0
    · subst he
      have hg := ga rfl
      have hl := gl rfl
      clear ga gl
      have hsa : (ofL a).size = 128 := by rw [size_ofL]; exact hl
      have xa : (ofL a).extract 120 128 = ofL (a.drop 120) := by
        rw [ofL_extract, List.take_of_length_le (by rw [List.length_drop]; omega)]
      by_cases hab : a.drop 120 = old.drop 120
      · have e1 : (ofL (a.drop 120) == ofL (old.drop 120)) = true := by rw [hab, beq_toListBytes]; simp
        have e3 : (a.drop 120 == old.drop 120) = true := by rw [hab]; simp
        clear hab hg hl hlo
        go_enter Try.func7, Try.ntmps7
        go_wp2_with fail
        rw [← HW1.out]
        refine (fput f _ hm).mono ?_
        rintro e w2 ⟨rfl, E2⟩
        rw [HA.out]
        go_upto_region 4 with fail
        go_quiet (fail)
        go_wp2
        go_ret
        exact ⟨rfl, (E1.tr E2).drN _⟩
      · have e3 : (a.drop 120 == old.drop 120) = false := by simpa using hab
        have e1 : (ofL (a.drop 120) == ofL (old.drop 120)) = false := by rw [beq_toListBytes, toList_eq_toL, toList_eq_toL, toL_ofL, toL_ofL]; exact e3
        obtain ⟨k, hk⟩ : ∃ k, n % 129 = k := ⟨_, rfl⟩
        have hk2 : k ≤ 128 := by omega
        have q1 : (n : Int) % 129 = (k : Int) := by omega
        have q2 : (k : Int) ≤ 128 := by omega
        have q3 : (0 : Int) ≤ (k : Int) := by omega
        have hlt : (tornL a old k).length = 128 := torn_len hl hlo hk2
        have y1 : (ofL a).extract 0 k = ofL (a.take k) := by rw [ofL_extract]; rfl
        have y2 : (ofL old).extract k 128 = ofL (old.drop k) := by rw [ofL_extract, List.take_of_length_le (by rw [List.length_drop]; omega)]
        have y3 : ofL (a.take k) ++ ofL (old.drop k) = ofL (tornL a old k) := ofL_append _ _
        have y4 : (ofL (a.take k)).size = k := by rw [size_ofL, List.length_take]; omega
        have y5 : (ofL (old.drop k)).size = 128 - k := by rw [size_ofL, List.length_drop]; omega
        have law := torn_law (f := f) hlo hk2 hg hab
        have e8 : -9223372036854775808 ≤ (n : Int) ∧ (n : Int) ≤ 9223372036854775807 := by omega
        have w8 : Value.int .i64 (wrap64 (n : Int)) = .int .i64 n := by rw [IntWalk.wrap64_in _ e8]
        have w8i : Value.int .i64 (IntKind.i64.wrap (n : Int)) = .int .i64 n := by rw [IntWalk.i64_in _ e8]
        obtain ⟨T, hT⟩ : ∃ T, tornL a old k = T := ⟨_, rfl⟩
        rw [hT] at y3 law hlt
        obtain ⟨q, is, hq⟩ : ∃ q is, frGet T = (q, is) := ⟨_, _, rfl⟩
        rw [hq] at law
        dsimp only at law
        have hfq : T = a → q = f := fun h => by
          rw [h, hg] at hq
          exact (congrArg Prod.fst hq).symm
        have HQ := Lib.hid hq; clear hq
        have LAW := Lib.hid law; clear law
        have FQ := Lib.hid hfq; clear hfq
        clear hab hg hl hlo e8 hk hT hlt hn
        go_enter Try.func7, Try.ntmps7
        go_wp2_with fail
        rw [← HW1.out]
        refine (fput f _ hm).mono ?_
        rintro e w2 ⟨rfl, E2⟩
        rw [HA.out]
        have b1 := b1.ext E2
        have E2 := E1.tr E2
        clear k0 k1 k2 kf HW1 E1
        go_upto_region 4 with fail
        go_quiet (fail)
        go_upto_region 7 with fail
        go_quiet (fail)
        go_wp2_with fail
        refine (fget T _).mono ?_
        rintro e w5 ⟨rfl, E5⟩
        rw [HQ.out]
        have E5 := ((Ext.rfl' w2).drN _).tr E5
        have b1 := b1.ext E5
        obtain ⟨w6, hw6, E6, z6, b6⟩ := fr_box w5 q
        have b1 := b1.ext E6
        have HW6 := Lib.hid hw6; clear hw6 z6
        obtain ⟨k0, k1, k2, kf⟩ := b1.cells
        obtain ⟨i0, i1, i2, kf2⟩ := b6.cells
        have E7 := (E2.tr E5).tr E6
        go_upto_region 9 with fail
        rw [← HW6.out]
        clear HW6
        cases is with
        | false =>
          go_wp2_with fail
          refine (works42_any _).mono ?_
          rintro e w8 ⟨rfl, E10⟩
          go_wp2
          go_ret
          exact ⟨rfl, E7.tr E10⟩
        | true =>
          by_cases hqm : q.m = f.m
          · have hTa := LAW.out rfl hqm
            have hqf := FQ.out hTa
            have he := fun W => fr_eql f f W
            rw [frEq_self] at he
            clear LAW FQ hqm
            subst hqf
            subst hTa
            have s1 : (ofL T == ofL T) = true := by rw [beq_toListBytes]; simp
            go_wp2_with fail
            refine (works42_any _).mono ?_
            rintro e w8 ⟨rfl, E10⟩
            go_wp2
            go_ret
            exact ⟨rfl, E7.tr E10⟩
          · have t1 : (q.m != f.m) = true := bne_iff_ne.2 hqm
            have t2 : (q.m == f.m) = false := ieq_f hqm
            clear LAW FQ hqm
            go_wp2_with fail
            refine (works42_any _).mono ?_
            rintro e w8 ⟨rfl, E10⟩
            go_wp2
            go_ret
            exact ⟨rfl, E7.tr E10⟩
    · have t1 : (ea == 0) = false := ieq_f he
      have t2 : (ea != 0) = true := by rw [bne, t1]; rfl
      clear he ga gl hlo
      go_enter Try.func7, Try.ntmps7
      go_wp2_with fail
      rw [← HW1.out]
      refine (fput f _ hm).mono ?_
      rintro e w2 ⟨rfl, E2⟩
      rw [HA.out]
      go_upto_region 4 with fail
      go_quiet (fail)
      go_wp2_with fail
      refine (works42_any _).mono ?_
      rintro e w8 ⟨rfl, E10⟩
      go_wp2
      go_ret
      exact ⟨rfl, ((E1.tr E2).drN _).tr E10⟩
  · have hso : (ofL old).size = old.length := size_ofL _
    have t : ((old.length : Int) != 128) = true := by rw [bne_iff_ne]; omega
    clear hlo
    go_enter Try.func7, Try.ntmps7
    go_wp2_with fail
    rw [← HW1.out]
    refine (works42_any _).mono ?_
    rintro e w2 ⟨rfl, E2⟩
    go_wp2
    go_ret
    exact ⟨rfl, E1.tr E2⟩
end Go.Proofs.Ytjpcedgonjmchaa
