/-
  The law FrameRises returns true at every input. No condition but the reach of strings and structs.
-/
import Derived.Test.YtjpcedgonjmchaaFrameTorn
namespace Go.Proofs.Ytjpcedgonjmchaa
open Go.RowKit Go.ChangeShapes Go.WideShapes

theorem num_split (l : List UInt8) (j : Nat) (hj : j ≤ l.length) : numN l = numN (l.take j) + 256 ^ j * numN (l.drop j) := by
  have h := numN_append (l.take j) (l.drop j)
  rw [List.take_append_drop, List.length_take, Nat.min_eq_left hj] at h
  exact h
theorem num_take_lt (l : List UInt8) (j : Nat) (hj : j ≤ l.length) : numN (l.take j) < 256 ^ j := by
  have h := numN_lt (l.take j)
  rwa [List.length_take, Nat.min_eq_left hj] at h

/-- A torn tail is not above, and equals only if whole or if it was so before. -/
theorem rise_law {a b : List UInt8} {k : Nat} (ha : a.length = 128) (hb : b.length = 128) (hk : k ≤ 128) (h : numN (b.drop 120) ≤ numN (a.drop 120)) :
    numN ((tornL a b k).drop 120) ≤ numN (a.drop 120) ∧ (numN ((tornL a b k).drop 120) = numN (a.drop 120) → numN (b.drop 120) = numN (a.drop 120) ∨ tornL a b k = a) := by
  by_cases hk1 : k ≤ 120
  · rw [torn_low ha hk1]
    exact ⟨h, fun e => .inl e⟩
  · rw [torn_high ha (by omega) hk]
    obtain ⟨j, hj⟩ : ∃ j, k - 120 = j := ⟨_, rfl⟩
    have hlA : (a.drop 120).length = 8 := by rw [List.length_drop]; omega
    have hlB : (b.drop 120).length = 8 := by rw [List.length_drop]; omega
    have hw : (b.drop 120).drop j = (a.drop 120).drop j → tornL a b k = a := fun e => torn_whole ha (by omega) hk (by rw [hj]; exact e)
    rw [hj]
    generalize a.drop 120 = A at *
    generalize b.drop 120 = B at *
    have hj8 : j ≤ 8 := by omega
    have sA := num_split A j (by omega)
    have sB := num_split B j (by omega)
    have lA := num_take_lt A j (by omega)
    have sT := numN_append (A.take j) (B.drop j)
    rw [List.length_take, Nat.min_eq_left (by omega)] at sT
    rw [sT]
    have hle : numN (B.drop j) ≤ numN (A.drop j) := by
      rcases Nat.lt_or_ge (numN (A.drop j)) (numN (B.drop j)) with hlt | hge
      · exfalso
        have h1 : 256 ^ j * (numN (A.drop j) + 1) ≤ 256 ^ j * numN (B.drop j) := Nat.mul_le_mul_left _ hlt
        rw [Nat.mul_add, Nat.mul_one] at h1
        omega
      · exact hge
    have hmul := Nat.mul_le_mul_left (256 ^ j) hle
    refine ⟨by omega, fun e => .inr (hw ?_)⟩
    have e2 : 256 ^ j * numN (B.drop j) = 256 ^ j * numN (A.drop j) := by omega
    exact numN_inj (by rw [List.length_drop, List.length_drop]; omega) (Nat.eq_of_mul_eq_mul_left (Nat.pow_pos (by omega)) e2)

theorem tail_ok {l : List UInt8} (hl : l.length = 128) (h7 : (l.getD 127 0).toNat ≤ 127) : frTail l = (((numN (l.drop 120) : Nat) : Int), true) ∧ numN (l.drop 120) < 9223372036854775808 ∧ ((l.drop 120).getD 7 0).toNat ≤ 127 := by
  have hd : (l.drop 120).getD 7 0 = l.getD 127 0 := by simp [List.getD_eq_getElem?_getD, List.getElem?_drop]
  have h8 : numN (l.drop 120) < 9223372036854775808 := (num8_small (by rw [List.length_drop]; omega)).2 (by rw [hd]; exact h7)
  refine ⟨?_, h8, by rw [hd]; exact h7⟩
  have hw : wrap64 ((numN (l.drop 120) : Nat) : Int) = ((numN (l.drop 120) : Nat) : Int) := IntWalk.wrap64_in _ (by omega)
  unfold frTail
  rw [if_neg (by omega), hw, if_neg (by omega)]
theorem tail_bad {l : List UInt8} (h : ¬ (l.length = 128 ∧ (l.getD 127 0).toNat ≤ 127)) : (frTail l).2 = false := by
  unfold frTail
  by_cases hl : l.length = 128
  · rw [if_neg (by omega)]
    have hd : (l.drop 120).getD 7 0 = l.getD 127 0 := by simp [List.getD_eq_getElem?_getD, List.getElem?_drop]
    have h8 : ¬ numN (l.drop 120) < 9223372036854775808 := fun h' => h ⟨hl, by
      have := (num8_small (by rw [List.length_drop]; omega)).1 h'
      rwa [hd] at this⟩
    have hlt := numN_lt (l.drop 120)
    rw [List.length_drop, hl] at hlt
    have hlt : numN (l.drop 120) < 18446744073709551616 := hlt
    rw [if_pos (by unfold wrap64; omega)]
  · rw [if_pos hl]
theorem torn_127 {a b : List UInt8} {k : Nat} (ha : a.length = 128) (hb : b.length = 128) (hk : k ≤ 128) (h1 : (a.getD 127 0).toNat ≤ 127) (h2 : (b.getD 127 0).toNat ≤ 127) : ((tornL a b k).getD 127 0).toNat ≤ 127 := by
  by_cases h : k = 128
  · have : tornL a b k = a := by unfold tornL; rw [h, List.take_of_length_le (by omega), List.drop_of_length_le (by omega), List.append_nil]
    rw [this]; exact h1
  · have : (tornL a b k).getD 127 0 = b.getD 127 0 := by
      unfold tornL
      rw [List.getD_eq_getElem?_getD, List.getElem?_append_right (by rw [List.length_take]; omega), List.getElem?_drop, List.length_take, List.getD_eq_getElem?_getD]
      congr 2
      omega
    rw [this]; exact h2
theorem put_tail {f : Frm} (hm : f.m < 9223372036854775808) (h : (frPut f).2 = 0) : ((frPut f).1.getD 127 0).toNat ≤ 127 ∧ ((numN ((frPut f).1.drop 120) : Nat) : Int) = f.m := by
  have hg := frGet_put hm h
  have hl := frPut_len h
  have gg : frGood (frPut f).1 := by
    unfold frGet at hg; split at hg
    · assumption
    · simp at hg
  have fm : frOf (frPut f).1 = f := by unfold frGet at hg; rw [if_pos gg] at hg; exact congrArg Prod.fst hg
  have e : ((numN ((frPut f).1.take 8) : Nat) : Int) = f.m := by
    have := congrArg Frm.m fm
    exact this
  have hd : ((frPut f).1.drop 120).getD 7 0 = (frPut f).1.getD 127 0 := by simp [List.getD_eq_getElem?_getD, List.getElem?_drop]
  refine ⟨?_, by rw [← gg.2.1]; exact e⟩
  rw [← hd]
  exact (num8_small (by rw [List.length_drop]; omega)).1 (by rw [← gg.2.1]; omega)

set_option maxRecDepth 100000 in
set_option maxHeartbeats 4000000 in
theorem frameRises_walk (f : Frm) (old : ByteArray) (n : Int) (W : World) (hf : -9223372036854775808 ≤ f.m ∧ f.m ≤ 9223372036854775807) (_ho : old.size ≤ maxLen) (hn : (Lit.int .u8 n).wf = true) :
    Calls Try.prog 8 #[frV f, .string old, .int .u8 n] W fun e W' => e = .returned (.bool true) ∧ Ext W W' := by
  obtain ⟨n, rfl, hn⟩ : ∃ m : Nat, n = m ∧ m < 256 := by
    have h1 : IntKind.u8.min = 0 := rfl
    have h2 : IntKind.u8.max = 255 := rfl
    simp only [Lit.wf, Bool.and_eq_true, decide_eq_true_eq] at hn
    exact ⟨n.toNat, by omega, by omega⟩
  obtain ⟨w1, hw1, E1, z1, b1⟩ := fr_box W f
  have HW1 := Lib.hid hw1; clear hw1 z1
  have hm : f.m < 9223372036854775808 := by omega
  obtain ⟨k0, k1, k2, kf⟩ := b1.cells
  obtain ⟨old, rfl⟩ : ∃ l, old = ofL l := ⟨toL old, (ofL_toL old).symm⟩
  obtain ⟨c, hc⟩ : ∃ c, old.getD 127 0 = c := ⟨_, rfl⟩
  have gc : ∀ h, (ofL old)[127]'h = c := fun h => by rw [← hc, ofL_getD]
  by_cases hlo : old.length = 128
  · have hso : (ofL old).size = 128 := by rw [size_ofL]; exact hlo
    by_cases h127 : c.toNat ≤ 127
    · have d0 : decide ((127 : Int) < c.toNat) = false := by simp; omega
      have ga : (frPut f).2 = 0 → ((frPut f).1.getD 127 0).toNat ≤ 127 ∧ ((numN ((frPut f).1.drop 120) : Nat) : Int) = f.m := put_tail hm
      have gl : (frPut f).2 = 0 → (frPut f).1.length = 128 := frPut_len
      obtain ⟨a, ea, ha⟩ : ∃ a ea, frPut f = (a, ea) := ⟨_, _, rfl⟩
      rw [ha] at ga gl
      simp only [] at ga gl
      have HA := Lib.hid ha; clear ha
      by_cases he : ea = 0
      · subst he
        obtain ⟨ga1, ga2⟩ := ga rfl
        have hl := gl rfl
        clear ga gl
        have hsa : (ofL a).size = 128 := by rw [size_ofL]; exact hl
        obtain ⟨k, hk⟩ : ∃ k, n % 129 = k := ⟨_, rfl⟩
        have hk2 : k ≤ 128 := by omega
        have q1 : (n : Int) % 129 = (k : Int) := by omega
        have q2 : (k : Int) ≤ 128 := by omega
        have q3 : (0 : Int) ≤ (k : Int) := by omega
        have hlt : (tornL a old k).length = 128 := torn_len hl hlo hk2
        have h7 := torn_127 hl hlo hk2 ga1 (by rw [hc]; exact h127)
        obtain ⟨to1, to2, to3⟩ := tail_ok hlo (by rw [hc]; exact h127)
        obtain ⟨tt1, tt2, tt3⟩ := tail_ok hlt h7
        have law := rise_law (k := k) hl hlo hk2
        have y1 : (ofL a).extract 0 k = ofL (a.take k) := by rw [ofL_extract]; rfl
        have y2 : (ofL old).extract k 128 = ofL (old.drop k) := by rw [ofL_extract, List.take_of_length_le (by rw [List.length_drop]; omega)]
        have y3 : ofL (a.take k) ++ ofL (old.drop k) = ofL (tornL a old k) := ofL_append _ _
        have y4 : (ofL (a.take k)).size = k := by rw [size_ofL, List.length_take]; omega
        have y5 : (ofL (old.drop k)).size = 128 - k := by rw [size_ofL, List.length_drop]; omega
        have e8 : -9223372036854775808 ≤ (n : Int) ∧ (n : Int) ≤ 9223372036854775807 := by omega
        have w8 : Value.int .i64 (wrap64 (n : Int)) = .int .i64 n := by rw [IntWalk.wrap64_in _ e8]
        have w8i : Value.int .i64 (IntKind.i64.wrap (n : Int)) = .int .i64 n := by rw [IntWalk.i64_in _ e8]
        obtain ⟨T, hT⟩ : ∃ T, tornL a old k = T := ⟨_, rfl⟩
        rw [hT] at y3 law hlt tt1 tt2 tt3
        have hsT : (ofL T).size = 128 := by rw [size_ofL]; exact hlt
        have x1 : (ofL old).extract 120 128 = ofL (old.drop 120) := by
          rw [ofL_extract, List.take_of_length_le (by rw [List.length_drop]; omega)]
        have x2 : (ofL T).extract 120 128 = ofL (T.drop 120) := by
          rw [ofL_extract, List.take_of_length_le (by rw [List.length_drop]; omega)]
        have l1 : (old.drop 120).length = 8 := by rw [List.length_drop]; omega
        have l2 : (T.drop 120).length = 8 := by rw [List.length_drop]; omega
        obtain ⟨N1, hN1⟩ : ∃ N, numN (T.drop 120) = N := ⟨_, rfl⟩
        obtain ⟨N2, hN2⟩ : ∃ N, numN (old.drop 120) = N := ⟨_, rfl⟩
        rw [hN1] at law tt1
        rw [hN2] at law to1
        have R1 := Lib.hid hN1
        have R2 := Lib.hid hN2
        have T1 := Lib.hid to1
        have T2 := Lib.hid tt1
        have law2 : (N2 : Int) ≤ f.m → (N1 : Int) ≤ f.m ∧ ((N1 : Int) = f.m → (N2 : Int) = f.m ∨ T = a) := by
          intro h
          rw [← ga2] at h ⊢
          obtain ⟨p1, p2⟩ := law (by omega)
          exact ⟨by omega, fun e => by
            rcases p2 (by omega) with h1 | h1
            · exact .inl (by omega)
            · exact .inr h1⟩
        have LAW := Lib.hid law2
        have L1 := Lib.hid l1
        have L2 := Lib.hid l2
        have O3 := Lib.hid to3
        have T3 := Lib.hid tt3
        clear hT hk e8 hlt hl hlo h7 ga1 ga2 law law2 to1 to2 to3 tt1 tt2 tt3 hN1 hN2 l1 l2 hn hc h127
        go_enter Try.func8, Try.ntmps8
        go_wp2_with fail
        rw [← HW1.out]
        refine (fput f _ hm).mono ?_
        rintro e w2 ⟨rfl, E2⟩
        rw [HA.out]
        have b1 := b1.ext E2
        have E2 := E1.tr E2
        clear k0 k1 k2 kf HW1 E1
        go_upto_region 8 with fail
        go_quiet (fail)
        go_wp2_with fail
        refine (ftail T _).mono ?_
        rintro e w5 ⟨rfl, rfl⟩
        rw [T2.out]
        go_wp2_with fail
        refine (ftail old _).mono ?_
        rintro e w5 ⟨rfl, rfl⟩
        rw [T1.out]
        go_wp2_with fail
        refine (rNumber_any (T.drop 120) _ L2.out T3.out).mono ?_
        rintro e w5 ⟨rfl, rfl⟩
        rw [R1.out]
        go_wp2_with fail
        refine (rNumber_any (old.drop 120) _ L1.out O3.out).mono ?_
        rintro e w5 ⟨rfl, rfl⟩
        rw [R2.out]
        have b5 := b1.ext ((Ext.rfl' _).drN nq)
        obtain ⟨k0, k1, k2, kf⟩ := b5.cells
        have E5 := E2.drN nq
        by_cases hw : f.m < (N2 : Int)
        · have d1 : decide (f.m < (N2 : Int)) = true := by simpa using hw
          clear hw LAW
          go_wp2_with fail
          refine (works42_any _).mono ?_
          rintro e w8 ⟨rfl, E10⟩
          go_wp2
          go_ret
          exact ⟨rfl, E5.tr E10⟩
        · have d1 : decide (f.m < (N2 : Int)) = false := by simpa using hw
          obtain ⟨p1, p2⟩ := LAW.out (by omega)
          have d2 : decide ((N1 : Int) ≤ f.m) = true := by simpa using p1
          clear hw LAW p1
          by_cases hN : (N1 : Int) = f.m
          · have t1 : ((N1 : Int) != f.m) = false := by simp [hN]
            by_cases hN2 : (N2 : Int) = f.m
            · have t2 : ((N2 : Int) == f.m) = true := by simp [hN2]
              clear p2 hN hN2
              go_wp2_with fail
              refine (works42_any _).mono ?_
              rintro e w8 ⟨rfl, E10⟩
              go_wp2
              go_ret
              exact ⟨rfl, E5.tr E10⟩
            · have t2 : ((N2 : Int) == f.m) = false := ieq_f hN2
              have hTa : T = a := (p2 hN).resolve_left hN2
              clear p2 hN hN2
              subst hTa
              have s1 : (ofL T == ofL T) = true := by rw [beq_toListBytes]; simp
              go_wp2_with fail
              refine (works42_any _).mono ?_
              rintro e w8 ⟨rfl, E10⟩
              go_wp2
              go_ret
              exact ⟨rfl, E5.tr E10⟩
          · have t1 : ((N1 : Int) != f.m) = true := bne_iff_ne.2 hN
            clear p2 hN
            go_wp2_with fail
            refine (works42_any _).mono ?_
            rintro e w8 ⟨rfl, E10⟩
            go_wp2
            go_ret
            exact ⟨rfl, E5.tr E10⟩
      · have t1 : (ea == 0) = false := ieq_f he
        have t2 : (ea != 0) = true := by rw [bne, t1]; rfl
        clear he ga gl hlo hc h127
        go_enter Try.func8, Try.ntmps8
        go_wp2_with fail
        rw [← HW1.out]
        refine (fput f _ hm).mono ?_
        rintro e w2 ⟨rfl, E2⟩
        rw [HA.out]
        go_wp2_with fail
        refine (works42_any _).mono ?_
        rintro e w8 ⟨rfl, E10⟩
        go_wp2
        go_ret
        exact ⟨rfl, (E1.tr E2).tr E10⟩
    · have d0 : decide ((127 : Int) < c.toNat) = true := by simp; omega
      obtain ⟨t, is, ht⟩ : ∃ t is, frTail old = (t, is) := ⟨_, _, rfl⟩
      have hb : is = false := by
        have := tail_bad (l := old) (by rw [hc]; omega)
        rw [ht] at this; exact this
      have HT := Lib.hid ht
      subst hb
      clear hlo hc h127 ht
      go_enter Try.func8, Try.ntmps8
      go_wp2_with fail
      rw [← HW1.out]
      refine (ftail old _).mono ?_
      rintro e w2 ⟨rfl, rfl⟩
      rw [HT.out]
      go_wp2_with fail
      refine (works42_any _).mono ?_
      rintro e w8 ⟨rfl, E10⟩
      go_wp2
      go_ret
      exact ⟨rfl, E1.tr E10⟩
  · have hso : (ofL old).size = old.length := size_ofL _
    have t0 : ((old.length : Int) != 128) = true := by rw [bne_iff_ne]; omega
    obtain ⟨t, is, ht⟩ : ∃ t is, frTail old = (t, is) := ⟨_, _, rfl⟩
    have hb : is = false := by
      have := tail_bad (l := old) (fun h => hlo h.1)
      rw [ht] at this; exact this
    have HT := Lib.hid ht
    subst hb
    clear hlo hc ht gc
    go_enter Try.func8, Try.ntmps8
    go_wp2_with fail
    rw [← HW1.out]
    refine (ftail old _).mono ?_
    rintro e w2 ⟨rfl, rfl⟩
    rw [HT.out]
    go_wp2_with fail
    refine (works42_any _).mono ?_
    rintro e w8 ⟨rfl, E10⟩
    go_wp2
    go_ret
    exact ⟨rfl, E1.tr E10⟩
end Go.Proofs.Ytjpcedgonjmchaa
