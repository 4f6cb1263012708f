/-
  The bounds that are numbers, the program's and the reference's. Condition: numbers are ints.
-/
import Derived.Test.YtmnpbpfeoackiaaBg1
import Derived.Test.YtmnpbpfeoackiaaInvF
namespace Go.Proofs.Ytmnpbpfeoackiaa
open Go.RowKit

theorem upI_any (n : Int) (w : World) : Calls Try.prog 18 #[.int .i64 n] w fun e w' => e = .returned (.int .i64 (n.toNat : Int)) ∧ Ext w w' := by
  have c := up_any n w
  rw [show max n 0 = (n.toNat : Int) by omega] at c
  exact c
theorem rup_any (n : Int) (w : World) : Calls Try.prog 21 #[.int .i64 n] w fun e w' => e = .returned (.int .i64 (n.toNat : Int)) ∧ Ext w w' := by
  by_cases h : n < 0
  · have q1 : decide (n < 0) = true := decide_eq_true h
    rw [show (n.toNat : Int) = 0 by omega]
    go_enter Try.func21, Try.ntmps21
    go_wp2
    go_ret
    exact ⟨rfl, Ext.rfl' _⟩
  · have q1 : decide (n < 0) = false := decide_eq_false h
    rw [show (n.toNat : Int) = n by omega]
    go_enter Try.func21, Try.ntmps21
    go_wp2
    go_ret
    exact ⟨rfl, Ext.rfl' _⟩
theorem radd_any (a b : Nat) (ha : a < 9223372036854775808) (hb : b < 9223372036854775808) (w : World) : Calls Try.prog 22 #[.int .i64 a, .int .i64 b] w fun e w' => e = .returned (.int .i64 (min (a + b) 9223372036854775807 : Nat)) ∧ Ext w w' := by
  have n2 : decide ((b : Int) < 0) = false := by simp
  by_cases gb : 0 < b
  · obtain ⟨d, hd⟩ : ∃ d : Int, 9223372036854775807 - (b : Int) = d := ⟨_, rfl⟩
    have hw : IntKind.i64.wrap (9223372036854775807 - (b : Int)) = d := by rw [IntWalk.i64_in _ (by omega)]; exact hd
    by_cases h : a + b ≤ 9223372036854775807
    · have q2 : decide (d < (a : Int)) = false := decide_eq_false (by omega)
      have hr : min (a + b) 9223372036854775807 = a + b := by omega
      have hws : IntKind.i64.wrap ((a : Int) + (b : Int)) = ((a + b : Nat) : Int) := by rw [IntWalk.i64_in _ (by omega)]; push_cast; rfl
      rw [hr]
      obtain ⟨s, hse⟩ : ∃ s, a + b = s := ⟨_, rfl⟩
      rw [hse] at hws ⊢
      clear hse h ha hb hr hd
      go_enter Try.func22, Try.ntmps22
      go_wp2
      go_ret
      exact ⟨rfl, Ext.rfl' _⟩
    · have q2 : decide (d < (a : Int)) = true := decide_eq_true (by omega)
      have hr : ((min (a + b) 9223372036854775807 : Nat) : Int) = 9223372036854775807 := by omega
      rw [hr]
      clear h ha hb hr hd
      go_enter Try.func22, Try.ntmps22
      go_wp2
      go_ret
      exact ⟨rfl, Ext.rfl' _⟩
  · obtain rfl : b = 0 := by omega
    have hr : min (a + 0) 9223372036854775807 = a := by omega
    have hws : IntKind.i64.wrap (a : Int) = (a : Int) := IntWalk.i64_in _ (by omega)
    rw [hr, show ((0 : Nat) : Int) = 0 from rfl]
    clear hr ha hb gb n2
    go_enter Try.func22, Try.ntmps22
    go_wp2
    go_ret
    exact ⟨rfl, Ext.rfl' _⟩

theorem rmul_any (a b : Nat) (ha : a < 9223372036854775808) (hb : b < 9223372036854775808) (w : World) : Calls Try.prog 11 #[.int .i64 a, .int .i64 b] w fun e w' => e = .returned (.int .i64 (min (a * b) 9223372036854775807 : Nat)) ∧ Ext w w' := by
  by_cases ga : a = 0
  · subst ga
    rw [Nat.zero_mul, show ((min 0 9223372036854775807 : Nat) : Int) = 0 from rfl, show ((0 : Nat) : Int) = 0 from rfl]
    clear ha hb
    go_enter Try.func11, Try.ntmps11
    go_wp2
    go_ret
    exact ⟨rfl, Ext.rfl' _⟩
  · by_cases gb : b = 0
    · subst gb
      rw [Nat.mul_zero, show ((min 0 9223372036854775807 : Nat) : Int) = 0 from rfl, show ((0 : Nat) : Int) = 0 from rfl]
      have e1 : ((a : Int) == 0) = false := by simp; exact ga
      clear ha hb
      go_enter Try.func11, Try.ntmps11
      go_wp2
      go_ret
      exact ⟨rfl, Ext.rfl' _⟩
    · have e1 : ((a : Int) == 0) = false := by simp; exact ga
      have e2 : ((b : Int) == 0) = false := by simp; exact gb
      have pa : 0 < a := by omega
      have pb : 0 < b := by omega
      have n1 : decide ((a : Int) < 0) = false := by simp
      have n2 : decide ((b : Int) < 0) = false := by simp
      obtain ⟨q, hq⟩ : ∃ q, 9223372036854775807 / b = q := ⟨_, rfl⟩
      have hqq : (9223372036854775807 : Int).tdiv (b : Int) = (q : Int) := by rw [Int.tdiv_eq_ediv_of_nonneg (by omega), ← hq]; rfl
      have hql : q ≤ 9223372036854775807 := by rw [← hq]; exact Nat.div_le_self _ _
      have hwq : IntKind.i64.wrap (q : Int) = (q : Int) := IntWalk.i64_in _ (by omega)
      have hlt : q < a ↔ 9223372036854775807 < a * b := by rw [← hq]; exact Nat.div_lt_iff_lt_mul pb
      obtain ⟨p, hp⟩ : ∃ p, a * b = p := ⟨_, rfl⟩
      rw [hp] at hlt ⊢
      by_cases h : q < a
      · have q2 : decide ((q : Int) < (a : Int)) = true := by simp; exact h
        have hr : ((min p 9223372036854775807 : Nat) : Int) = 9223372036854775807 := by have := hlt.1 h; omega
        rw [hr]
        have hne : ¬ (b : Int) = 0 := by omega
        clear hr hlt hp hq hql ha hb
        go_enter Try.func11, Try.ntmps11
        go_wp2
        go_ret
        exact ⟨rfl, Ext.rfl' _⟩
      · have q2 : decide ((q : Int) < (a : Int)) = false := by simp; omega
        have hp2 : p ≤ 9223372036854775807 := by
          rcases Nat.lt_or_ge 9223372036854775807 p with h2 | h2
          · exact absurd (hlt.2 h2) h
          · exact h2
        have hr : min p 9223372036854775807 = p := by omega
        rw [hr]
        have hws : IntKind.i64.wrap ((a : Int) * (b : Int)) = (p : Int) := by
          have e : (a : Int) * (b : Int) = (p : Int) := by rw [← hp]; push_cast; rfl
          rw [e]
          exact IntWalk.i64_in _ (by omega)
        have hne : ¬ (b : Int) = 0 := by omega
        clear hr hlt hp hq hql ha hb hp2
        go_enter Try.func11, Try.ntmps11
        go_wp2
        go_ret
        exact ⟨rfl, Ext.rfl' _⟩
/-- How many automata there are at most. -/
def autN (m : Nat) : Nat := min (m * min (m + 2) 9223372036854775807) 9223372036854775807
theorem autN_lt (m : Nat) : autN m < 9223372036854775808 := by unfold autN; omega
theorem automI_any (n : Int) (hn : n ≤ 9223372036854775807) (w : World) : Calls Try.prog 8 #[.int .i64 n] w fun e w' => e = .returned (.int .i64 (autN n.toNat)) ∧ Ext w w' := by
  have cU := upI_any n w
  obtain ⟨m, hm⟩ : ∃ m, n.toNat = m := ⟨_, rfl⟩
  have hml : m < 9223372036854775808 := by omega
  rw [hm] at cU ⊢
  have cA := fun W => sadd_any m 2 hml (by omega) W
  obtain ⟨s, hs⟩ : ∃ s, min (m + 2) 9223372036854775807 = s := ⟨_, rfl⟩
  have cM := fun W => smul_any m s hml (by omega) W
  unfold autN
  simp only [hs] at cA
  rw [hs]
  obtain ⟨r, hr⟩ : ∃ r, min (m * s) 9223372036854775807 = r := ⟨_, rfl⟩
  simp only [hr] at cM
  rw [hr]
  replace cA := Kp.mk cA; replace cM := Kp.mk cM; replace cU := Kp.mk cU
  clear hs hr hm hml hn
  go_enter Try.func8, Try.ntmps8
  go_wp2_with fail
  refine cU.out.mono ?_
  rintro e w1 ⟨rfl, E1⟩
  go_wp2_with fail
  refine (cA.out _).mono ?_
  rintro e w2 ⟨rfl, E2⟩
  go_wp2_with fail
  refine (cM.out _).mono ?_
  rintro e w3 ⟨rfl, E3⟩
  go_wp2
  go_ret
  exact ⟨rfl, (E1.tr E2).tr E3⟩
theorem rautomI_any (n : Int) (hn : n ≤ 9223372036854775807) (w : World) : Calls Try.prog 9 #[.int .i64 n] w fun e w' => e = .returned (.int .i64 (autN n.toNat)) ∧ Ext w w' := by
  have cU := fun W => rup_any n W
  obtain ⟨m, hm⟩ : ∃ m, n.toNat = m := ⟨_, rfl⟩
  have hml : m < 9223372036854775808 := by omega
  simp only [hm] at cU
  rw [hm]
  have cA := fun W => radd_any m 2 hml (by omega) W
  obtain ⟨s, hs⟩ : ∃ s, min (m + 2) 9223372036854775807 = s := ⟨_, rfl⟩
  have cM := fun W => rmul_any m s hml (by omega) W
  unfold autN
  simp only [hs] at cA
  rw [hs]
  obtain ⟨r, hr⟩ : ∃ r, min (m * s) 9223372036854775807 = r := ⟨_, rfl⟩
  simp only [hr] at cM
  rw [hr]
  replace cA := Kp.mk cA; replace cM := Kp.mk cM; replace cU := Kp.mk cU
  clear hs hr hm hml hn
  go_enter Try.func9, Try.ntmps9
  go_wp2_with fail
  refine (cU.out _).mono ?_
  rintro e w1 ⟨rfl, E1⟩
  go_wp2_with fail
  refine (cU.out _).mono ?_
  rintro e w2 ⟨rfl, E2⟩
  go_wp2_with fail
  refine (cA.out _).mono ?_
  rintro e w3 ⟨rfl, E3⟩
  go_wp2_with fail
  refine (cM.out _).mono ?_
  rintro e w4 ⟨rfl, E4⟩
  go_wp2
  go_ret
  exact ⟨rfl, ((E1.tr E2).tr E3).tr E4⟩
/-- How many states there are at most. -/
def staN (m : Nat) : Nat := min (autN m * 8192) 9223372036854775807
theorem states_any (n : Int) (hn : n ≤ 9223372036854775807) (w : World) : Calls Try.prog 10 #[.int .i64 n] w fun e w' => e = .returned (.int .i64 (staN n.toNat)) ∧ Ext w w' := by
  have cA := Kp.mk (automI_any n hn w)
  have cM := fun W => smul_any (autN n.toNat) 8192 (autN_lt _) (by omega) W
  unfold staN
  obtain ⟨s, hs⟩ : ∃ s, autN n.toNat = s := ⟨_, rfl⟩
  obtain ⟨r, hr⟩ : ∃ r, min (s * 8192) 9223372036854775807 = r := ⟨_, rfl⟩
  simp only [hs] at cM cA
  simp only [hr] at cM
  rw [hs, hr]
  replace cM := Kp.mk cM
  clear hs hr hn
  go_enter Try.func10, Try.ntmps10
  go_wp2_with fail
  refine cA.out.mono ?_
  rintro e w1 ⟨rfl, E1⟩
  go_wp2_with fail
  refine (cM.out _).mono ?_
  rintro e w2 ⟨rfl, E2⟩
  go_wp2
  go_ret
  exact ⟨rfl, E1.tr E2⟩
theorem tagsI_any (n : Int) (hn : n ≤ 9223372036854775807) (w : World) : Calls Try.prog 7 #[.int .i64 n] w fun e w' => e = .returned (.int .i64 (n.toNat / 2 : Nat)) ∧ Ext w w' := by
  have c := Kp.mk (upI_any n w)
  obtain ⟨m, hm⟩ : ∃ m, n.toNat = m := ⟨_, rfl⟩
  rw [hm] at c ⊢
  have hq : (m : Int).tdiv 2 = ((m / 2 : Nat) : Int) := by rw [Int.tdiv_eq_ediv_of_nonneg (by omega)]; omega
  have hw : IntKind.i64.wrap ((m / 2 : Nat) : Int) = ((m / 2 : Nat) : Int) := IntWalk.i64_in _ (by omega)
  obtain ⟨q, hqe⟩ : ∃ q, m / 2 = q := ⟨_, rfl⟩
  rw [hqe] at hq hw ⊢
  clear hqe hm hn
  go_enter Try.func7, Try.ntmps7
  go_wp2_with fail
  refine c.out.mono ?_
  rintro e w1 ⟨rfl, E1⟩
  go_wp2
  go_ret
  exact ⟨rfl, E1⟩
end Go.Proofs.Ytmnpbpfeoackiaa
