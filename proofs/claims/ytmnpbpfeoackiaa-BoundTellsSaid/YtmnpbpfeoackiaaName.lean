/-
  Package name's Word and the reference's: both answer wordL. No condition.
-/
import Derived.Test.YtmnpbpfeoackiaaOct
namespace Go.Proofs.Ytmnpbpfeoackiaa
open Go.RowKit

def wordAt (first : Bool) (n : Nat) : Bool := (decide (97 ≤ n) && decide (n ≤ 122)) || (!first && (n == 45 || (decide (48 ≤ n) && decide (n ≤ 57))))
def wordL (l : List UInt8) : Bool := decide (0 < l.length ∧ l.length ≤ 32 ∧ ∀ j, j < l.length → wordAt (j == 0) (l.getD j 0).toNat = true)
theorem wordL_no {l : List UInt8} {j : Nat} (h : j < l.length) (hb : wordAt (j == 0) (l.getD j 0).toNat = false) : wordL l = false := by
  unfold wordL
  rw [decide_eq_false_iff_not]
  intro h2
  have := h2.2.2 j h
  rw [hb] at this
  cases this
theorem wordL_yes {l : List UInt8} (h0 : 0 < l.length) (h1 : l.length ≤ 32) (h : ∀ j, j < l.length → wordAt (j == 0) (l.getD j 0).toNat = true) : wordL l = true := decide_eq_true ⟨h0, h1, h⟩
theorem wordL_out {l : List UInt8} (h : l.length = 0 ∨ 32 < l.length) : wordL l = false := by
  unfold wordL
  rw [decide_eq_false_iff_not]
  intro h2; omega
theorem wordL_len {l : List UInt8} (h : wordL l = true) : 0 < l.length ∧ l.length ≤ 32 := by
  have := of_decide_eq_true h
  exact ⟨this.1, this.2.1⟩
theorem toL_getD (s : ByteArray) (k : Nat) (h : k < s.size) : ((toL s).getD k 0) = s[k] := by
  rw [List.getD_eq_getElem?_getD, List.getElem?_eq_getElem (by rw [length_toL]; exact h), toL_get s k h]; rfl
theorem wordAt_small {f : Bool} {n : Nat} (h1 : 97 ≤ n) (h2 : n ≤ 122) : wordAt f n = true := by simp [wordAt, h1, h2]
theorem wordAt_digit {n : Nat} (h1 : 48 ≤ n) (h2 : n ≤ 57) : wordAt false n = true := by simp [wordAt, h1, h2]
theorem wordAt_first {n : Nat} (h : ¬ (97 ≤ n ∧ n ≤ 122)) : wordAt true n = false := by
  have : (decide (97 ≤ n) && decide (n ≤ 122)) = false := by
    rw [← Bool.decide_and]; exact decide_eq_false h
  simp [wordAt, this]
theorem wordAt_no {f : Bool} {n : Nat} (h : ¬ (97 ≤ n ∧ n ≤ 122)) (h2 : ¬ (48 ≤ n ∧ n ≤ 57)) (h3 : n ≠ 45) : wordAt f n = false := by
  have e1 : (decide (97 ≤ n) && decide (n ≤ 122)) = false := by
    rw [← Bool.decide_and]; exact decide_eq_false h
  have e2 : (decide (48 ≤ n) && decide (n ≤ 57)) = false := by
    rw [← Bool.decide_and]; exact decide_eq_false h2
  simp [wordAt, e1, e2, h3]
theorem beq_zero_false {k : Nat} (h : k ≠ 0) : (k == 0) = false := by simpa using h

set_option maxHeartbeats 400000 in
theorem digit_yes (n : Nat) (w : World) (h1 : 48 ≤ n) (h2 : n ≤ 57) : Calls Try.prog 61 #[.int .i32 n] w fun e w' => e = .returned (.bool true) ∧ w' = w := by
  have d1 : decide ((48 : Int) ≤ n) = true := by simp; omega
  have d2 : decide ((n : Int) ≤ 57) = true := by simp; omega
  clear h1 h2
  go_enter Try.func61, Try.ntmps61
  go_wp2
  go_ret
  exact ⟨rfl, rfl⟩
set_option maxHeartbeats 400000 in
theorem digit_no (n : Nat) (w : World) (h : ¬ (48 ≤ n ∧ n ≤ 57)) : Calls Try.prog 61 #[.int .i32 n] w fun e w' => e = .returned (.bool false) ∧ w' = w := by
  by_cases h1 : 48 ≤ n
  · have d1 : decide ((48 : Int) ≤ n) = true := by simp; omega
    have d2 : decide ((n : Int) ≤ 57) = false := by simp; omega
    clear h1 h
    go_enter Try.func61, Try.ntmps61
    go_wp2
    go_ret
    exact ⟨rfl, rfl⟩
  · have d1 : decide ((48 : Int) ≤ n) = false := by simp; omega
    clear h1 h
    go_enter Try.func61, Try.ntmps61
    go_wp2
    go_ret
    exact ⟨rfl, rfl⟩

set_option maxRecDepth 100000 in
set_option maxHeartbeats 2000000 in
theorem word_any (s : ByteArray) (w : World) : Calls Try.prog 45 #[.string s] w fun e w' => e = .returned (.bool (wordL (toL s))) ∧ Ext w w' := by
  by_cases hz : s = ⟨#[]⟩
  · subst hz
    rw [wordL_out (Or.inl rfl)]
    go_enter Try.func45, Try.ntmps45
    go_wp2
    go_ret
    exact ⟨rfl, Ext.rfl' _⟩
  have hpos : 0 < s.size := by
    rcases Nat.eq_zero_or_pos s.size with h | h
    · exact absurd (toL_inj (List.eq_nil_of_length_eq_zero (by rw [length_toL]; exact h))) hz
    · exact h
  have t0 : (toL s).isEmpty = false := by
    cases hq : toL s with
    | nil => exact absurd (toL_inj hq) hz
    | cons a r => rfl
  by_cases hbig : 32 < s.size
  · have d0 : decide ((32 : Int) < s.size) = true := by simp; omega
    rw [wordL_out (Or.inr (by rw [length_toL]; exact hbig))]
    clear hz hpos hbig
    go_enter Try.func45, Try.ntmps45
    go_wp2
    go_ret
    exact ⟨rfl, Ext.rfl' _⟩
  have d0 : decide ((32 : Int) < s.size) = false := by simp; omega
  clear hz
  go_enter Try.func45, Try.ntmps45
  go_wp2
  go_loopw [] (fun w' => ∃ k : Nat, w' = w.iter s k ∧ k ≤ s.size ∧ ∀ j, j < k → wordAt (j == 0) ((toL s).getD j 0).toNat = true) (fun w' => s.size - w'.iterPos w.heap.size)
  case atStart => exact ⟨0, rfl, by omega, fun j hj => absurd hj (by omega)⟩
  case round =>
    obtain ⟨k, rfl, hks, hgood⟩ := hrel
    have HG := Lib.hid hgood; clear hgood
    by_cases hk : k < s.size
    · have hg := toL_getD s k hk
      by_cases ha : s[k].toNat < 128
      · have hnx : ∀ ty, (Instr.next (.pointer (some ⟨w.heap.size, 0, none⟩)) true ty).run Try.prog (w.iter s k) = _ := fun ty => run_next_ascii (P := Try.prog) w s k ty hk ha
        obtain ⟨n, hn⟩ : ∃ n, s[k].toNat = n := ⟨_, rfl⟩
        rw [hn] at hnx
        by_cases hs : 97 ≤ n ∧ n ≤ 122
        · have d1 : decide ((97 : Int) ≤ n) = true := by simp; omega
          have d2 : decide ((n : Int) ≤ 122) = true := by simp; omega
          go_wp2
          refine ⟨⟨k + 1, rfl, by omega, fun j hj => ?_⟩, by simp; omega⟩
          rcases Nat.lt_succ_iff_lt_or_eq.1 hj with hj | rfl
          · exact HG.out j hj
          · rw [hg]; rw [hn]; exact wordAt_small hs.1 hs.2
        · have hd : (decide ((97 : Int) ≤ n) = true ∧ decide ((n : Int) ≤ 122) = false) ∨ decide ((97 : Int) ≤ n) = false := by
            by_cases h97 : 97 ≤ n
            · exact Or.inl ⟨by simp; omega, by simp; omega⟩
            · exact Or.inr (by simp; omega)
          rcases hd with ⟨d1, d2⟩ | d1
          · by_cases hk0 : k = 0
            · subst hk0
              go_wp2
              go_ret
              exact ⟨by rw [wordL_no (j := _) (by rw [length_toL]; exact hk) (by rw [hg]; rw [hn]; exact wordAt_first hs)]; rfl, (Ext.rfl' w).al _⟩
            · have t1 : ((k : Int) == 0) = false := by simp; omega
              by_cases hdg : 48 ≤ n ∧ n ≤ 57
              · go_wp2_with fail
                refine (digit_yes n _ hdg.1 hdg.2).mono ?_
                rintro e w1 ⟨rfl, rfl⟩
                go_wp2
                refine ⟨⟨k + 1, rfl, by omega, fun j hj => ?_⟩, by simp; omega⟩
                rcases Nat.lt_succ_iff_lt_or_eq.1 hj with hj | rfl
                · exact HG.out j hj
                · rw [hg]; rw [hn, beq_zero_false hk0]; exact wordAt_digit hdg.1 hdg.2
              · by_cases h45 : n = 45
                · subst h45
                  go_wp2_with fail
                  refine (digit_no 45 _ hdg).mono ?_
                  rintro e w1 ⟨rfl, rfl⟩
                  go_wp2
                  refine ⟨⟨k + 1, rfl, by omega, fun j hj => ?_⟩, by simp; omega⟩
                  rcases Nat.lt_succ_iff_lt_or_eq.1 hj with hj | rfl
                  · exact HG.out j hj
                  · rw [hg]; rw [hn, beq_zero_false hk0]; rfl
                · have t2 : ((n : Int) != 45) = true := by simp; omega
                  go_wp2_with fail
                  refine (digit_no n _ hdg).mono ?_
                  rintro e w1 ⟨rfl, rfl⟩
                  go_wp2
                  go_ret
                  exact ⟨by rw [wordL_no (j := _) (by rw [length_toL]; exact hk) (by rw [hg]; rw [hn]; exact wordAt_no hs hdg h45)]; rfl, (Ext.rfl' w).al _⟩
          · by_cases hk0 : k = 0
            · subst hk0
              go_wp2
              go_ret
              exact ⟨by rw [wordL_no (j := _) (by rw [length_toL]; exact hk) (by rw [hg]; rw [hn]; exact wordAt_first hs)]; rfl, (Ext.rfl' w).al _⟩
            · have t1 : ((k : Int) == 0) = false := by simp; omega
              by_cases hdg : 48 ≤ n ∧ n ≤ 57
              · go_wp2_with fail
                refine (digit_yes n _ hdg.1 hdg.2).mono ?_
                rintro e w1 ⟨rfl, rfl⟩
                go_wp2
                refine ⟨⟨k + 1, rfl, by omega, fun j hj => ?_⟩, by simp; omega⟩
                rcases Nat.lt_succ_iff_lt_or_eq.1 hj with hj | rfl
                · exact HG.out j hj
                · rw [hg]; rw [hn, beq_zero_false hk0]; exact wordAt_digit hdg.1 hdg.2
              · by_cases h45 : n = 45
                · subst h45
                  go_wp2_with fail
                  refine (digit_no 45 _ hdg).mono ?_
                  rintro e w1 ⟨rfl, rfl⟩
                  go_wp2
                  refine ⟨⟨k + 1, rfl, by omega, fun j hj => ?_⟩, by simp; omega⟩
                  rcases Nat.lt_succ_iff_lt_or_eq.1 hj with hj | rfl
                  · exact HG.out j hj
                  · rw [hg]; rw [hn, beq_zero_false hk0]; rfl
                · have t2 : ((n : Int) != 45) = true := by simp; omega
                  go_wp2_with fail
                  refine (digit_no n _ hdg).mono ?_
                  rintro e w1 ⟨rfl, rfl⟩
                  go_wp2
                  go_ret
                  exact ⟨by rw [wordL_no (j := _) (by rw [length_toL]; exact hk) (by rw [hg]; rw [hn]; exact wordAt_no hs hdg h45)]; rfl, (Ext.rfl' w).al _⟩
      · have hnx : ∀ ty, (Instr.next (.pointer (some ⟨w.heap.size, 0, none⟩)) true ty).run Try.prog (w.iter s k) = _ := fun ty => run_next_any (P := Try.prog) w s k ty hk
        have hh := decode_high s k hk (by omega)
        obtain ⟨n, hn⟩ : ∃ n, (Utf8.decode s k).1 = n := ⟨_, rfl⟩
        rw [hn] at hnx hh
        have hn128 : 128 ≤ n := hh.1
        have d1 : decide ((97 : Int) ≤ n) = true := by simp; omega
        have d2 : decide ((n : Int) ≤ 122) = false := by simp; omega
        have hbad : ∀ f, wordAt f s[k].toNat = false := fun f => wordAt_no (by omega) (by omega) (by omega)
        by_cases hk0 : k = 0
        · subst hk0
          go_wp2
          go_ret
          exact ⟨by rw [wordL_no (j := _) (by rw [length_toL]; exact hk) (by rw [hg]; exact hbad _)]; rfl, (Ext.rfl' w).al _⟩
        · have t1 : ((k : Int) == 0) = false := by simp; omega
          have t2 : ((n : Int) != 45) = true := by simp; omega
          go_wp2_with fail
          refine (digit_no n _ (by omega)).mono ?_
          rintro e w1 ⟨rfl, rfl⟩
          go_wp2
          go_ret
          exact ⟨by rw [wordL_no (j := _) (by rw [length_toL]; exact hk) (by rw [hg]; exact hbad _)]; rfl, (Ext.rfl' w).al _⟩
    · have hnx : ∀ ty, (Instr.next (.pointer (some ⟨w.heap.size, 0, none⟩)) true ty).run Try.prog (w.iter s k) = _ := fun ty => run_next_end (P := Try.prog) w s k ty hk
      have hke : k = s.size := by omega
      have hy : wordL (toL s) = true := wordL_yes (by rw [length_toL]; exact hpos) (by rw [length_toL]; omega) (fun j hj => HG.out j (by rw [length_toL] at hj; omega))
      have HY := Lib.hid hy
      clear hke hy
      go_wp2
      go_ret
      exact ⟨by rw [HY.out]; rfl, (Ext.rfl' w).al _⟩


set_option maxRecDepth 100000 in
set_option maxHeartbeats 2000000 in
theorem rword_any (s : ByteArray) (w : World) : Calls Try.prog 57 #[.string s] w fun e w' => e = .returned (.bool (wordL (toL s))) ∧ Ext w w' := by
  by_cases hpos : s.size < 1
  · have d0 : decide ((s.size : Int) < 1) = true := by simp; omega
    rw [wordL_out (Or.inl (by rw [length_toL]; omega))]
    clear hpos
    go_enter Try.func57, Try.ntmps57
    go_wp2
    go_ret
    exact ⟨rfl, Ext.rfl' _⟩
  have d00 : decide ((s.size : Int) < 1) = false := by simp; omega
  by_cases hbig : 32 < s.size
  · have d0 : decide ((32 : Int) < s.size) = true := by simp; omega
    rw [wordL_out (Or.inr (by rw [length_toL]; exact hbig))]
    clear hpos hbig
    go_enter Try.func57, Try.ntmps57
    go_wp2
    go_ret
    exact ⟨rfl, Ext.rfl' _⟩
  have d0 : decide ((32 : Int) < s.size) = false := by simp; omega
  go_enter Try.func57, Try.ntmps57
  go_wp2
  go_loop [3] (fun i => ∃ k : Nat, i = .int .i64 k ∧ k ≤ s.size ∧ ∀ j, j < k → wordAt (j == 0) ((toL s).getD j 0).toNat = true) (fun i => s.size - (intOf i).toNat)
  case atStart => exact ⟨0, rfl, by omega, fun j hj => absurd hj (by omega)⟩
  case round =>
    obtain ⟨k, rfl, hks, hgood⟩ := hrel
    have HG := Lib.hid hgood; clear hgood
    by_cases hk : k < s.size
    · have hg := toL_getD s k hk
      have dk : decide ((k : Int) < s.size) = true := by simp; omega
      obtain ⟨n, hn⟩ : ∃ n, s[k].toNat = n := ⟨_, rfl⟩
      have hnI : ((s[k].toNat : Nat) : Int) = n := by rw [hn]
      by_cases hA : 97 ≤ n ∧ n ≤ 122
      · obtain ⟨h97, h122⟩ := hA
        have d1 : decide ((97 : Int) ≤ n) = true := by simp <;> omega
        have d2 : decide ((n : Int) ≤ 122) = true := by simp <;> omega
        have d3 : ((n : Int) == 45) = false := by simp <;> omega
        have d4 : decide ((48 : Int) ≤ n) = true := by simp <;> omega
        have d5 : decide ((n : Int) ≤ 57) = false := by simp <;> omega
        go_wp2
        refine ⟨⟨k + 1, by go_num, by omega, fun j hj => ?_⟩, by simp [intOf]; omega⟩
        rcases Nat.lt_succ_iff_lt_or_eq.1 hj with hj | rfl
        · exact HG.out j hj
        · rw [hg]; rw [hn]; exact wordAt_small h97 h122
      by_cases h97 : 97 ≤ n
      · have h57 : 57 < n := by omega
        have d1 : decide ((97 : Int) ≤ n) = true := by simp <;> omega
        have d2 : decide ((n : Int) ≤ 122) = false := by simp <;> omega
        have d3 : ((n : Int) == 45) = false := by simp <;> omega
        have d4 : decide ((48 : Int) ≤ n) = true := by simp <;> omega
        have d5 : decide ((n : Int) ≤ 57) = false := by simp <;> omega
        by_cases hk0 : k = 0
        · subst hk0
          go_wp2
          go_ret
          exact ⟨by rw [wordL_no (j := _) (by rw [length_toL]; exact hk) (by rw [hg]; rw [hn]; exact wordAt_first (by omega))]; rfl, Ext.rfl' w⟩
        · have t1 : ((k : Int) == 0) = false := by simp; omega
          go_wp2
          go_ret
          exact ⟨by rw [wordL_no (j := _) (by rw [length_toL]; exact hk) (by rw [hg]; rw [hn]; exact wordAt_no hA (by omega) (by omega))]; rfl, Ext.rfl' w⟩
      by_cases h45 : n = 45
      · have h48 : n < 48 := by omega
        have d1 : decide ((97 : Int) ≤ n) = false := by simp <;> omega
        have d3 : ((n : Int) == 45) = true := by simp <;> omega
        by_cases hk0 : k = 0
        · subst hk0
          go_wp2
          go_ret
          exact ⟨by rw [wordL_no (j := _) (by rw [length_toL]; exact hk) (by rw [hg]; rw [hn]; exact wordAt_first (by omega))]; rfl, Ext.rfl' w⟩
        · have t1 : ((k : Int) == 0) = false := by simp; omega
          go_wp2
          refine ⟨⟨k + 1, by go_num, by omega, fun j hj => ?_⟩, by simp [intOf]; omega⟩
          rcases Nat.lt_succ_iff_lt_or_eq.1 hj with hj | rfl
          · exact HG.out j hj
          · rw [hg]; rw [hn, beq_zero_false hk0, h45]; rfl
      by_cases h48 : n < 48
      · have h57 : n ≤ 57 := by omega
        have d1 : decide ((97 : Int) ≤ n) = false := by simp <;> omega
        have d3 : ((n : Int) == 45) = false := by simp <;> omega
        have d4 : decide ((48 : Int) ≤ n) = false := by simp <;> omega
        by_cases hk0 : k = 0
        · subst hk0
          go_wp2
          go_ret
          exact ⟨by rw [wordL_no (j := _) (by rw [length_toL]; exact hk) (by rw [hg]; rw [hn]; exact wordAt_first (by omega))]; rfl, Ext.rfl' w⟩
        · have t1 : ((k : Int) == 0) = false := by simp; omega
          go_wp2
          go_ret
          exact ⟨by rw [wordL_no (j := _) (by rw [length_toL]; exact hk) (by rw [hg]; rw [hn]; exact wordAt_no hA (by omega) h45)]; rfl, Ext.rfl' w⟩
      by_cases h57 : n ≤ 57
      · have h48' : 48 ≤ n := by omega
        have d1 : decide ((97 : Int) ≤ n) = false := by simp <;> omega
        have d3 : ((n : Int) == 45) = false := by simp <;> omega
        have d4 : decide ((48 : Int) ≤ n) = true := by simp <;> omega
        have d5 : decide ((n : Int) ≤ 57) = true := by simp <;> omega
        by_cases hk0 : k = 0
        · subst hk0
          go_wp2
          go_ret
          exact ⟨by rw [wordL_no (j := _) (by rw [length_toL]; exact hk) (by rw [hg]; rw [hn]; exact wordAt_first (by omega))]; rfl, Ext.rfl' w⟩
        · have t1 : ((k : Int) == 0) = false := by simp; omega
          go_wp2
          refine ⟨⟨k + 1, by go_num, by omega, fun j hj => ?_⟩, by simp [intOf]; omega⟩
          rcases Nat.lt_succ_iff_lt_or_eq.1 hj with hj | rfl
          · exact HG.out j hj
          · rw [hg]; rw [hn, beq_zero_false hk0]; exact wordAt_digit h48' h57
      · have h48' : 48 ≤ n := by omega
        have d1 : decide ((97 : Int) ≤ n) = false := by simp <;> omega
        have d3 : ((n : Int) == 45) = false := by simp <;> omega
        have d4 : decide ((48 : Int) ≤ n) = true := by simp <;> omega
        have d5 : decide ((n : Int) ≤ 57) = false := by simp <;> omega
        by_cases hk0 : k = 0
        · subst hk0
          go_wp2
          go_ret
          exact ⟨by rw [wordL_no (j := _) (by rw [length_toL]; exact hk) (by rw [hg]; rw [hn]; exact wordAt_first (by omega))]; rfl, Ext.rfl' w⟩
        · have t1 : ((k : Int) == 0) = false := by simp; omega
          go_wp2
          go_ret
          exact ⟨by rw [wordL_no (j := _) (by rw [length_toL]; exact hk) (by rw [hg]; rw [hn]; exact wordAt_no hA (by omega) h45)]; rfl, Ext.rfl' w⟩
    · have dk : decide ((k : Int) < s.size) = false := by simp; omega
      have hke : k = s.size := by omega
      have hy : wordL (toL s) = true := wordL_yes (by rw [length_toL]; omega) (by rw [length_toL]; omega) (fun j hj => HG.out j (by rw [length_toL] at hj; omega))
      have HY := Lib.hid hy
      clear hke hy
      go_wp2
      go_ret
      exact ⟨by rw [HY.out]; rfl, Ext.rfl' w⟩
end Go.Proofs.Ytmnpbpfeoackiaa
