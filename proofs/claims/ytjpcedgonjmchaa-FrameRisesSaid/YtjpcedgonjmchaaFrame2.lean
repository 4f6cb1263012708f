/-
  Package frame's reference: a mark's bytes. Condition: the mark is from 0 on.
-/
import Derived.Test.YtjpcedgonjmchaaFrame
namespace Go.Proofs.Ytjpcedgonjmchaa
open Go.RowKit

theorem byteOf_rem (n : Nat) : byteOf ((n : Int) % 256) = (n % 256).toUInt8 := by
  unfold byteOf; congr 1; omega
theorem leN_step (k n : Nat) (l : List UInt8) : l ++ leN (k + 1) n = (l ++ [(n % 256).toUInt8]) ++ leN k (n / 256) := by
  simp [leN]

set_option maxRecDepth 100000 in
set_option maxHeartbeats 2000000 in
theorem rmark_any (n : Nat) (w : World) (hn : n < 9223372036854775808) :
    Calls Try.prog 44 #[.int .i64 n] w fun e w' => e = .returned (.string (ofL (leN 8 n))) ∧ Ext w w' := by
  have hq : ∀ m : Nat, ∃ q : Nat, m / 256 = q ∧ (m : Int) / 256 = (q : Int) := fun m => ⟨m / 256, rfl, by omega⟩
  have hr : ∀ m : Nat, ∃ r : Int, (m : Int) % 256 = r ∧ byteOf r = (m % 256).toUInt8 := fun m => ⟨_, rfl, byteOf_rem m⟩
  obtain ⟨L, hL⟩ : ∃ L, leN 8 n = L := ⟨_, rfl⟩
  rw [hL]
  have h0 : ([] : List UInt8) ++ leN 8 n = L := hL
  obtain ⟨n1, e0, q0⟩ := hq n
  obtain ⟨r0, t0, c0⟩ := hr n
  obtain ⟨l1, m0⟩ : ∃ l, [] ++ [(n % 256).toUInt8] = l := ⟨_, rfl⟩
  have h1 : l1 ++ leN 7 n1 = L := by rw [← m0, ← e0, ← leN_step]; exact h0
  have y1 : (ofL l1).size = 1 := by rw [size_ofL, ← m0]; simp
  have x0 : (⟨#[]⟩ : ByteArray) ++ ofL [byteOf r0] = ofL l1 := by rw [c0, ← m0]; exact ofL_append _ _
  obtain ⟨n2, e1, q1⟩ := hq n1
  have b1 : n1 < 9223372036854775808 := by rw [← e0]; exact Nat.lt_of_le_of_lt (Nat.div_le_self _ _) hn
  obtain ⟨r1, t1, c1⟩ := hr n1
  obtain ⟨l2, m1⟩ : ∃ l, l1 ++ [(n1 % 256).toUInt8] = l := ⟨_, rfl⟩
  have h2 : l2 ++ leN 6 n2 = L := by rw [← m1, ← e1, ← leN_step]; exact h1
  have y2 : (ofL l2).size = 2 := by rw [size_ofL, ← m1]; simp; rw [size_ofL] at y1; omega
  have x1 : ofL l1 ++ ofL [byteOf r1] = ofL l2 := by rw [c1, ← m1]; exact ofL_append _ _
  obtain ⟨n3, e2, q2⟩ := hq n2
  have b2 : n2 < 9223372036854775808 := by rw [← e1]; exact Nat.lt_of_le_of_lt (Nat.div_le_self _ _) b1
  obtain ⟨r2, t2, c2⟩ := hr n2
  obtain ⟨l3, m2⟩ : ∃ l, l2 ++ [(n2 % 256).toUInt8] = l := ⟨_, rfl⟩
  have h3 : l3 ++ leN 5 n3 = L := by rw [← m2, ← e2, ← leN_step]; exact h2
  have y3 : (ofL l3).size = 3 := by rw [size_ofL, ← m2]; simp; rw [size_ofL] at y2; omega
  have x2 : ofL l2 ++ ofL [byteOf r2] = ofL l3 := by rw [c2, ← m2]; exact ofL_append _ _
  obtain ⟨n4, e3, q3⟩ := hq n3
  have b3 : n3 < 9223372036854775808 := by rw [← e2]; exact Nat.lt_of_le_of_lt (Nat.div_le_self _ _) b2
  obtain ⟨r3, t3, c3⟩ := hr n3
  obtain ⟨l4, m3⟩ : ∃ l, l3 ++ [(n3 % 256).toUInt8] = l := ⟨_, rfl⟩
  have h4 : l4 ++ leN 4 n4 = L := by rw [← m3, ← e3, ← leN_step]; exact h3
  have y4 : (ofL l4).size = 4 := by rw [size_ofL, ← m3]; simp; rw [size_ofL] at y3; omega
  have x3 : ofL l3 ++ ofL [byteOf r3] = ofL l4 := by rw [c3, ← m3]; exact ofL_append _ _
  obtain ⟨n5, e4, q4⟩ := hq n4
  have b4 : n4 < 9223372036854775808 := by rw [← e3]; exact Nat.lt_of_le_of_lt (Nat.div_le_self _ _) b3
  obtain ⟨r4, t4, c4⟩ := hr n4
  obtain ⟨l5, m4⟩ : ∃ l, l4 ++ [(n4 % 256).toUInt8] = l := ⟨_, rfl⟩
  have h5 : l5 ++ leN 3 n5 = L := by rw [← m4, ← e4, ← leN_step]; exact h4
  have y5 : (ofL l5).size = 5 := by rw [size_ofL, ← m4]; simp; rw [size_ofL] at y4; omega
  have x4 : ofL l4 ++ ofL [byteOf r4] = ofL l5 := by rw [c4, ← m4]; exact ofL_append _ _
  obtain ⟨n6, e5, q5⟩ := hq n5
  have b5 : n5 < 9223372036854775808 := by rw [← e4]; exact Nat.lt_of_le_of_lt (Nat.div_le_self _ _) b4
  obtain ⟨r5, t5, c5⟩ := hr n5
  obtain ⟨l6, m5⟩ : ∃ l, l5 ++ [(n5 % 256).toUInt8] = l := ⟨_, rfl⟩
  have h6 : l6 ++ leN 2 n6 = L := by rw [← m5, ← e5, ← leN_step]; exact h5
  have y6 : (ofL l6).size = 6 := by rw [size_ofL, ← m5]; simp; rw [size_ofL] at y5; omega
  have x5 : ofL l5 ++ ofL [byteOf r5] = ofL l6 := by rw [c5, ← m5]; exact ofL_append _ _
  obtain ⟨n7, e6, q6⟩ := hq n6
  have b6 : n6 < 9223372036854775808 := by rw [← e5]; exact Nat.lt_of_le_of_lt (Nat.div_le_self _ _) b5
  obtain ⟨r6, t6, c6⟩ := hr n6
  obtain ⟨l7, m6⟩ : ∃ l, l6 ++ [(n6 % 256).toUInt8] = l := ⟨_, rfl⟩
  have h7 : l7 ++ leN 1 n7 = L := by rw [← m6, ← e6, ← leN_step]; exact h6
  have y7 : (ofL l7).size = 7 := by rw [size_ofL, ← m6]; simp; rw [size_ofL] at y6; omega
  have x6 : ofL l6 ++ ofL [byteOf r6] = ofL l7 := by rw [c6, ← m6]; exact ofL_append _ _
  obtain ⟨n8, e7, q7⟩ := hq n7
  have b7 : n7 < 9223372036854775808 := by rw [← e6]; exact Nat.lt_of_le_of_lt (Nat.div_le_self _ _) b6
  obtain ⟨r7, t7, c7⟩ := hr n7
  obtain ⟨l8, m7⟩ : ∃ l, l7 ++ [(n7 % 256).toUInt8] = l := ⟨_, rfl⟩
  have h8 : l8 ++ leN 0 n8 = L := by rw [← m7, ← e7, ← leN_step]; exact h7
  have y8 : (ofL l8).size = 8 := by rw [size_ofL, ← m7]; simp; rw [size_ofL] at y7; omega
  have x7 : ofL l7 ++ ofL [byteOf r7] = ofL l8 := by rw [c7, ← m7]; exact ofL_append _ _
  have hend : l8 = L := by rw [← h8]; simp [leN]
  clear hL h0 h1 h2 h3 h4 h5 h6 h7 h8 hq hr e0 e1 e2 e3 e4 e5 e6 e7 c0 c1 c2 c3 c4 c5 c6 c7 m0 m1 m2 m3 m4 m5 m6 m7
  subst hend
  have Q0 := Lib.hid q0; clear q0
  have T0 := Lib.hid t0; clear t0
  have X0 := Lib.hid x0; clear x0
  have Q1 := Lib.hid q1; clear q1
  have T1 := Lib.hid t1; clear t1
  have X1 := Lib.hid x1; clear x1
  have Q2 := Lib.hid q2; clear q2
  have T2 := Lib.hid t2; clear t2
  have X2 := Lib.hid x2; clear x2
  have Q3 := Lib.hid q3; clear q3
  have T3 := Lib.hid t3; clear t3
  have X3 := Lib.hid x3; clear x3
  have Q4 := Lib.hid q4; clear q4
  have T4 := Lib.hid t4; clear t4
  have X4 := Lib.hid x4; clear x4
  have Q5 := Lib.hid q5; clear q5
  have T5 := Lib.hid t5; clear t5
  have X5 := Lib.hid x5; clear x5
  have Q6 := Lib.hid q6; clear q6
  have T6 := Lib.hid t6; clear t6
  have X6 := Lib.hid x6; clear x6
  have Q7 := Lib.hid q7; clear q7
  have T7 := Lib.hid t7; clear t7
  have X7 := Lib.hid x7; clear x7
  go_enter Try.func44, Try.ntmps44
  go_wp2
  refine wp_loop_rounds 9 ?_
  rw [rounds_succ]
  have q := Q0.out
  have t := T0.out
  have x := X0.out
  clear Q0 T0 X0
  go_wp2_with fail
  refine (rbyte_any _ _).mono ?_
  rintro e w1 ⟨rfl, E1⟩
  go_wp2
  clear q t x
  rw [rounds_succ]
  have q := Q1.out
  have t := T1.out
  have x := X1.out
  clear Q1 T1 X1
  go_wp2_with fail
  refine (rbyte_any _ _).mono ?_
  rintro e w2 ⟨rfl, E2⟩
  go_wp2
  clear q t x
  rw [rounds_succ]
  have q := Q2.out
  have t := T2.out
  have x := X2.out
  clear Q2 T2 X2
  go_wp2_with fail
  refine (rbyte_any _ _).mono ?_
  rintro e w3 ⟨rfl, E3⟩
  go_wp2
  clear q t x
  rw [rounds_succ]
  have q := Q3.out
  have t := T3.out
  have x := X3.out
  clear Q3 T3 X3
  go_wp2_with fail
  refine (rbyte_any _ _).mono ?_
  rintro e w4 ⟨rfl, E4⟩
  go_wp2
  clear q t x
  rw [rounds_succ]
  have q := Q4.out
  have t := T4.out
  have x := X4.out
  clear Q4 T4 X4
  go_wp2_with fail
  refine (rbyte_any _ _).mono ?_
  rintro e w5 ⟨rfl, E5⟩
  go_wp2
  clear q t x
  rw [rounds_succ]
  have q := Q5.out
  have t := T5.out
  have x := X5.out
  clear Q5 T5 X5
  go_wp2_with fail
  refine (rbyte_any _ _).mono ?_
  rintro e w6 ⟨rfl, E6⟩
  go_wp2
  clear q t x
  rw [rounds_succ]
  have q := Q6.out
  have t := T6.out
  have x := X6.out
  clear Q6 T6 X6
  go_wp2_with fail
  refine (rbyte_any _ _).mono ?_
  rintro e w7 ⟨rfl, E7⟩
  go_wp2
  clear q t x
  rw [rounds_succ]
  have q := Q7.out
  have t := T7.out
  have x := X7.out
  clear Q7 T7 X7
  go_wp2_with fail
  refine (rbyte_any _ _).mono ?_
  rintro e w8 ⟨rfl, E8⟩
  go_wp2
  clear q t x
  rw [rounds_succ]
  go_wp2
  go_ret
  exact ⟨rfl, ((((((E1.tr E2).tr E3).tr E4).tr E5).tr E6).tr E7).tr E8⟩
end Go.Proofs.Ytjpcedgonjmchaa
