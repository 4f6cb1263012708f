/-
  Package rootid: Get inverts Put, and what Get accepts is what Put writes. Plain lists: no program in sight.
-/
import Derived.Test.YtjpcedgonjmchaaRoot4
namespace Go.Proofs.Ytjpcedgonjmchaa
open Go.RowKit

theorem rNum_put {n most : Nat} (hn : n < 18446744073709551616) (hm : n ≤ most) (r : List UInt8) : rNum (vput n ++ r, 0) most = (n, (r, 0)) := by
  rw [rNum_ok (vtake_vput hn r) hm, List.drop_left]
theorem rText_put {a : List UInt8} {m : Nat} (ha : a.length ≤ m) (hm : m < 18446744073709551616) (r : List UInt8) : rText (fText a ++ r, 0) (m : Int) = (a, (r, 0)) := by
  unfold fText
  rw [List.append_assoc, rText_ok (vtake_vput (by omega) (a ++ r)) (by rw [Int.toNat_natCast]; exact ha) (by rw [List.drop_left]; simp), List.drop_left, List.take_left, List.drop_left]

/-- A number that is read well is there as it is put. -/
theorem rNum_good {x : RS} {m : Nat} (h : (rNum x m).2.2 = 0) : x.2 = 0 ∧ x.1 = vput (rNum x m).1 ++ (rNum x m).2.1 ∧ (rNum x m).1 ≤ m ∧ (rNum x m).1 < 18446744073709551616 := by
  by_cases h0 : x.2 = 0
  · refine ⟨h0, ?_⟩
    rcases hv : vtake x.1 with ⟨n, k, er⟩
    unfold rNum at h ⊢
    rw [if_neg (by simp [h0]), hv] at h
    rw [if_neg (by simp [h0]), hv]
    by_cases he : er = 0
    · subst he
      by_cases hm : m < n
      · simp [hm] at h
      · have hk := vtake_ok hv
        simp only [ne_eq, hm, if_false]
        simp
        exact ⟨by rw [← hk.2.1, List.take_append_drop], by omega, hk.1⟩
    · simp [he] at h
  · rw [rNum_bad m h0] at h
    exact absurd h h0
theorem rText_good {x : RS} {m : Nat} (h : (rText x (m : Int)).2.2 = 0) : x.2 = 0 ∧ x.1 = fText (rText x (m : Int)).1 ++ (rText x (m : Int)).2.1 ∧ (rText x (m : Int)).1.length ≤ m := by
  rw [rText_eq, Int.toNat_natCast] at h ⊢
  by_cases h0 : (rNum x m).2.2 = 0
  · have hg := rNum_good h0
    rw [if_neg (by simp [h0])] at h ⊢
    by_cases hl : (rNum x m).2.1.length < (rNum x m).1
    · rw [if_pos hl] at h; simp at h
    · rw [if_neg hl]
      refine ⟨hg.1, ?_, ?_⟩
      · simp only []
        unfold fText
        rw [List.length_take, Nat.min_eq_left (by omega), List.append_assoc, List.take_append_drop]
        exact hg.2.1
      · simp only [List.length_take]
        have := hg.2.2.1
        omega
  · rw [if_pos h0] at h
    exact absurd h h0
theorem rFail_good {x : RS} {e : Int} (he : e ≠ 0) (h : (rFail x e).2 = 0) : False := by
  unfold rFail at h
  split at h
  · rename_i h1; rcases h1 with h1 | h1
    · exact h1 h
    · exact he h1
  · exact he h
theorem rEnd_good {x : RS} (h : (rEnd x).2 = 0) : x = ([], 0) := by
  unfold rEnd at h
  split at h
  · exact (rFail_good (by decide) h).elim
  · rename_i h1
    simp at h1
    exact Prod.ext h1 h
theorem rByte_good {x : RS} (h : (rByte x).2.2 = 0) : x.2 = 0 ∧ x.1 = (rByte x).1 :: (rByte x).2.1 := by
  unfold rByte at h ⊢
  by_cases h0 : x.2 = 0
  · rw [if_neg (by simp [h0])] at h ⊢
    obtain ⟨s, e⟩ := x
    cases s with
    | nil => simp at h
    | cons c r => exact ⟨h0, by simp⟩
  · rw [if_pos h0] at h
    exact absurd h h0

theorem rootGet_put {r : Root} (h : (rootPut r).2 = 0) : rootGet (rootPut r).1 = (r, 0) := by
  obtain ⟨t, k, e, n⟩ := r
  by_cases hw : wordL t = true
  · by_cases hn : (numOk k && (numOk e && numOk n)) = true
    · rw [rootPut_ok hw hn]
      have hn' := hn
      simp only [Bool.and_eq_true] at hn'
      obtain ⟨n1, n2, n3⟩ := hn'
      obtain ⟨k, rfl, hk⟩ := numOk_of n1
      obtain ⟨e, rfl, he⟩ := numOk_of n2
      obtain ⟨n, rfl, hnn⟩ := numOk_of n3
      simp only [Int.toNat_natCast]
      have b1 : rootBeg (1 :: (fText t ++ (vput k ++ (vput e ++ vput n)))) = (fText t ++ (vput k ++ (vput e ++ vput n)), 0) := by
        have : rByte (1 :: (fText t ++ (vput k ++ (vput e ++ vput n))), 0) = (1, (fText t ++ (vput k ++ (vput e ++ vput n)), 0)) := rByte_ok (by simp)
        unfold rootBeg
        rw [this, if_neg (by simp)]
      have b2 := rText_put (a := t) (m := 32) (wordL_len hw).2 (by decide) (vput k ++ (vput e ++ vput n))
      have b2' : rText (fText t ++ (vput k ++ (vput e ++ vput n)), 0) 32 = (t, (vput k ++ (vput e ++ vput n), 0)) := b2
      have b3 : rootName (1 :: (fText t ++ (vput k ++ (vput e ++ vput n)))) = (vput k ++ (vput e ++ vput n), 0) := by
        unfold rootName
        rw [b1, b2', if_pos hw]
      have q1 : numK (vput k ++ (vput e ++ vput n), 0) = (k, (vput e ++ vput n, 0)) := rNum_put (by omega) hk _
      have q2 : numK (vput e ++ vput n, 0) = (e, (vput n, 0)) := rNum_put (by omega) he _
      have q3 : numK (vput n, 0) = (n, ([], 0)) := by
        have := rNum_put (n := n) (by omega) hnn []
        rwa [List.append_nil] at this
      unfold rootGet
      rw [b3, q1, b1, b2']
      simp only [q2, q3]
      rfl
    · have hn : (numOk k && (numOk e && numOk n)) = false := by simpa using hn
      rw [rootPut_limit hw hn] at h
      exact absurd h (by decide)
  · have hw : wordL t = false := by simpa using hw
    rw [rootPut_name hw] at h
    exact absurd h (by decide)

theorem rootPut_get {s : List UInt8} (h : (rootGet s).2 = 0) : rootPut (rootGet s).1 = (s, 0) := by
  unfold rootGet at h ⊢
  by_cases hE : (rEnd (numK (numK (numK (rootName s)).2).2).2).2 = 0
  · rw [if_neg (by simp [hE])]
    have e0 := rEnd_good hE
    have g3 := rNum_good (x := (numK (numK (rootName s)).2).2) (m := 1099511627776) (by show (numK _).2.2 = 0; rw [e0])
    have g2 := rNum_good (x := (numK (rootName s)).2) (m := 1099511627776) g3.1
    have g1 := rNum_good (x := rootName s) (m := 1099511627776) g2.1
    have w0 : wordL (rText (rootBeg s) 32).1 = true := by
      cases hw : wordL (rText (rootBeg s) 32).1 with
      | true => rfl
      | false =>
        exfalso
        have : rootName s = rFail (rText (rootBeg s) 32).2 4 := if_neg (by rw [hw]; simp)
        exact rFail_good (by decide) (this ▸ g1.1)
    have hN : rootName s = (rText (rootBeg s) 32).2 := if_pos w0
    have gt := rText_good (x := rootBeg s) (m := 32) (by rw [hN] at g1; exact g1.1)
    have c1 : (rByte (s, 0)).1 = 1 := by
      by_cases hc : (rByte (s, 0)).1 = 1
      · exact hc
      · exfalso
        have : rootBeg s = rFail (rByte (s, 0)).2 2 := if_pos hc
        exact rFail_good (by decide) (this ▸ gt.1)
    have hB : rootBeg s = (rByte (s, 0)).2 := if_neg (by simp [c1])
    have gb := rByte_good (x := (s, 0)) (by rw [hB] at gt; exact gt.1)
    have hn : (numOk ((numK (rootName s)).1 : Int) && (numOk ((numK (numK (rootName s)).2).1 : Int) && numOk ((numK (numK (numK (rootName s)).2).2).1 : Int))) = true := by
      simp only [Bool.and_eq_true]
      exact ⟨numOk_yes (by omega) (by have := g1.2.2.1; show ((rNum (rootName s) 1099511627776).1 : Int) ≤ _; omega), numOk_yes (by omega) (by have := g2.2.2.1; show ((rNum (numK (rootName s)).2 1099511627776).1 : Int) ≤ _; omega), numOk_yes (by omega) (by have := g3.2.2.1; show ((rNum (numK (numK (rootName s)).2).2 1099511627776).1 : Int) ≤ _; omega)⟩
    rw [rootPut_ok w0 hn]
    simp only [Int.toNat_natCast]
    refine Prod.ext ?_ rfl
    have s1 : s = 1 :: (rootBeg s).1 := by rw [hB, ← c1]; exact gb.2
    have s2 : (rootBeg s).1 = fText (rText (rootBeg s) 32).1 ++ (rootName s).1 := by rw [hN]; exact gt.2.1
    have s3 : (rootName s).1 = vput (numK (rootName s)).1 ++ (numK (rootName s)).2.1 := g1.2.1
    have s4 : (numK (rootName s)).2.1 = vput (numK (numK (rootName s)).2).1 ++ (numK (numK (rootName s)).2).2.1 := g2.2.1
    have s5 : (numK (numK (rootName s)).2).2.1 = vput (numK (numK (numK (rootName s)).2).2).1 ++ (numK (numK (numK (rootName s)).2).2).2.1 := g3.2.1
    rw [e0, List.append_nil] at s5
    rw [s5] at s4
    rw [s4] at s3
    rw [s3] at s2
    rw [s2] at s1
    exact s1.symm
  · rw [if_pos hE] at h
    exact absurd h hE
end Go.Proofs.Ytjpcedgonjmchaa
