/-
  The laws OctetDigits, OctetBack and OctetTurns return true at every input. No condition but the reach of a string.
-/
import Derived.Test.YteclfeeeaokddaaOctLaws
namespace Go.Proofs.Yteclfeeeaokddaa
open Go.RowKit

set_option maxHeartbeats 1000000 in
theorem octetDigits_walk (s t : ByteArray) (w : World) (ha : s.size ≤ maxLen) (hb : t.size ≤ maxLen) : Calls Try.prog 3 #[.string s, .string t] w fun e w' => e = .returned (.bool true) ∧ Ext w w' := by
  by_cases h1 : s.size ≤ 300
  · by_cases h2 : t.size ≤ 300
    · have d1 : decide ((300 : Int) < s.size) = false := by simp; omega
      have d2 : decide ((300 : Int) < t.size) = false := by simp; omega
      have hlen : (ofL (hexL (toL s))).size ≤ 1000000 := by rw [size_ofL, length_hexL, length_toL]; omega
      have hu : unhexR (toL (ofL (hexL (toL s)))) = toL s := by rw [toL_ofL, unhexR_yes (okH_hexL _), unhexL_hexL]
      have hk : okH (toL (ofL (hexL (toL s)))) = true := by rw [toL_ofL, okH_hexL]
      by_cases hok : okH (toL t) = true
      · have e1 : hexL (toL (ofL (unhexR (toL t)))) = toL t := by rw [toL_ofL, unhexR_yes hok, hexL_unhexL _ hok]
        have hlen2 : (ofL (unhexR (toL t))).size ≤ 1000000 := by
          have := congrArg List.length e1
          rw [length_hexL, length_toL, length_toL] at this
          omega
        go_enter Try.func3, Try.ntmps3
        go_wp2_with fail
        refine (hex_any _ _ (by omega)).mono ?_
        rintro e w1 ⟨rfl, hE1⟩
        go_wp2_with fail
        refine (unhex_any _ _ hlen).mono ?_
        rintro e w2 ⟨rfl, hE2⟩
        rw [hu, hk, ofL_toL]
        go_wp2_with fail
        refine (unhex_any _ _ (by omega)).mono ?_
        rintro e w3 ⟨rfl, hE3⟩
        rw [hok]
        go_wp2_with fail
        refine (rhex_any _ _ (by omega)).mono ?_
        rintro e w4 ⟨rfl, hE4⟩
        go_wp2_with fail
        refine (rhex_any _ _ hlen2).mono ?_
        rintro e w5 ⟨rfl, hE5⟩
        rw [e1]
        go_wp2_with fail
        refine (works02 _).mono ?_
        rintro e w6 ⟨rfl, hE6⟩
        go_wp2
        go_ret
        exact ⟨rfl, (((((hE1.tr hE2).tr hE3).tr hE4).tr hE5).tr hE6)⟩
      · have hok' : okH (toL t) = false := by simpa using hok
        have e1 : unhexR (toL t) = [] := unhexR_no hok'
        clear hok
        go_enter Try.func3, Try.ntmps3
        go_wp2_with fail
        refine (hex_any _ _ (by omega)).mono ?_
        rintro e w1 ⟨rfl, hE1⟩
        go_wp2_with fail
        refine (unhex_any _ _ hlen).mono ?_
        rintro e w2 ⟨rfl, hE2⟩
        rw [hu, hk, ofL_toL]
        go_wp2_with fail
        refine (unhex_any _ _ (by omega)).mono ?_
        rintro e w3 ⟨rfl, hE3⟩
        rw [hok', e1]
        go_wp2_with fail
        refine (rhex_any _ _ (by omega)).mono ?_
        rintro e w4 ⟨rfl, hE4⟩
        go_wp2_with fail
        refine (works02 _).mono ?_
        rintro e w6 ⟨rfl, hE6⟩
        go_wp2
        go_ret
        exact ⟨rfl, ((((hE1.tr hE2).tr hE3).tr hE4).tr hE6)⟩
    · have d1 : decide ((300 : Int) < s.size) = false := by simp; omega
      have d2 : decide ((300 : Int) < t.size) = true := by simp; omega
      go_enter Try.func3, Try.ntmps3
      go_wp2_with (go_at_call 10; refine (works02 _).mono ?_; rintro e w6 ⟨rfl, hE6⟩)
      go_ret
      exact ⟨rfl, hE6⟩
  · have d1 : decide ((300 : Int) < s.size) = true := by simp; omega
    go_enter Try.func3, Try.ntmps3
    go_wp2_with (go_at_call 10; refine (works02 _).mono ?_; rintro e w6 ⟨rfl, hE6⟩)
    go_ret
    exact ⟨rfl, hE6⟩

set_option maxHeartbeats 1000000 in
theorem octetTurns_walk (a b : ByteArray) (n : Int) (w : World) (ha : a.size ≤ maxLen) (hb : b.size ≤ maxLen) : Calls Try.prog 9 #[.string a, .string b, .int .i64 n] w fun e w' => e = .returned (.bool true) ∧ Ext w w' := by
  by_cases h1 : a.size ≤ 300
  · by_cases h2 : b.size ≤ 300
    · have d1 : decide ((300 : Int) < a.size) = false := by simp; omega
      have d2 : decide ((300 : Int) < b.size) = false := by simp; omega
      go_enter Try.func9, Try.ntmps9
      go_wp2_with fail
      refine (xor_any _ _ _ (by omega) (by omega)).mono ?_
      rintro e w1 ⟨rfl, hE1⟩
      go_wp2_with fail
      refine (rxor_any _ _ _ (by omega) (by omega)).mono ?_
      rintro e w2 ⟨rfl, hE2⟩
      go_wp2_with fail
      refine (pad_any _ _ _ (by omega)).mono ?_
      rintro e w3 ⟨rfl, hE3⟩
      go_wp2_with fail
      refine (rpad_any _ _ _ (by omega)).mono ?_
      rintro e w4 ⟨rfl, hE4⟩
      go_wp2_with fail
      refine (cut_any _ _ _ (by omega)).mono ?_
      rintro e w5 ⟨v5, rfl, ho5, hE5⟩
      go_wp2_with fail
      refine (rcut_any _ _ _ (by omega)).mono ?_
      rintro e w6 ⟨v6, rfl, ho6, hE6⟩
      have r5 := ((Rd.own ho5 (by decide)).ext hE6 (Nat.le_refl _)).more hE6.size
      have r6 := Rd.own ho6 (by decide)
      clear ho5 ho6
      go_wp2_with fail
      refine (sameTexts_any _ _ _ _ _ r5 r6).mono ?_
      rintro e w7 ⟨rfl, hE7⟩
      rw [decide_eq_true rfl]
      clear r5 r6
      go_wp2_with fail
      refine (works02 _).mono ?_
      rintro e w8 ⟨rfl, hE8⟩
      go_wp2
      go_ret
      exact ⟨rfl, (((((((hE1.tr hE2).tr hE3).tr hE4).tr hE5).tr hE6).tr hE7).tr hE8)⟩
    · have d1 : decide ((300 : Int) < a.size) = false := by simp; omega
      have d2 : decide ((300 : Int) < b.size) = true := by simp; omega
      go_enter Try.func9, Try.ntmps9
      go_wp2_with (go_at_call 10; refine (works02 _).mono ?_; rintro e w6 ⟨rfl, hE6⟩)
      go_ret
      exact ⟨rfl, hE6⟩
  · have d1 : decide ((300 : Int) < a.size) = true := by simp; omega
    go_enter Try.func9, Try.ntmps9
    go_wp2_with (go_at_call 10; refine (works02 _).mono ?_; rintro e w6 ⟨rfl, hE6⟩)
    go_ret
    exact ⟨rfl, hE6⟩
end Go.Proofs.Yteclfeeeaokddaa
