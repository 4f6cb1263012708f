/-
  Package frame and its reference: a mark's bytes, the number that bytes tell. Condition: the mark is from 0 on; eight bytes. · Package frame's reference: a mark's bytes. Condition: the mark is from 0 on. · Package frame's reference: the number that eight bytes tell, and the same in package frame. Condition: eight bytes. · Package frame's reference: the number that eight bytes tell. Condition: eight bytes, the last one below 128.
-/
import Derived.Test.YtmnpbpfeoackiaaDoorOct
import Derived.Test.YtmnpbpfeoackiaaDoorVarPlain
import Derived.Test.YtmnpbpfeoackiaaDoorFramePlain
import Derived.Deep.DeepCutAuto
namespace Go.Proofs.YtmnpbpfeoackiaaDoor
open Go.RowKit

theorem or_step (n b k : Nat) (hn : n < 256 ^ k) (hb : b < 256) (hk : k < 8) : bits .or .u64 (n : Int) (IntKind.u64.wrap (IntKind.u64.wrap (b : Int) * ((256 ^ k : Nat) : Int))) = ((n + 256 ^ k * b : Nat) : Int) := by
  have hp : 256 ^ k * 256 ≤ 18446744073709551616 := by
    have : 256 ^ k ≤ 256 ^ 7 := Nat.pow_le_pow_right (by omega) (by omega)
    omega
  have h1 : b * 256 ^ k < 18446744073709551616 := by
    have : b * 256 ^ k ≤ 255 * 256 ^ k := Nat.mul_le_mul_right _ (by omega)
    omega
  rw [U64.wrap (show U64 b from by show _ < _; omega), show ((b : Int) * ((256 ^ k : Nat) : Int)) = ((b * 256 ^ k : Nat) : Int) from (Int.natCast_mul _ _).symm, U64.wrap h1, u64_or_nat _ _ (by omega) h1]
  congr 1
  rw [show 256 ^ k = 2 ^ (8 * k) by rw [show (256 : Nat) = 2 ^ 8 by decide, ← Nat.pow_mul]] at hn ⊢
  rw [Nat.or_comm, Nat.mul_comm, ← Nat.two_pow_add_eq_or_of_lt hn]
  omega

theorem U8_byte (n : Nat) : U8 (n % 256).toUInt8 = .int .u8 ((n : Int) % 256) := by
  unfold U8; congr 1; rw [UInt8.toNat_ofNat']; omega

set_option maxRecDepth 100000 in
set_option maxHeartbeats 2000000 in
theorem mark_any (n : Nat) (w : World) (hn : n < 9223372036854775808) :
    Calls Tryd.prog 100 #[.int .i64 n] w fun e w' => e = .returned (.string (ofL (leN 8 n))) ∧ Ext w w' := by
  have hs : ∀ (W : World) (b : Nat), (∀ j u, ((leN 8 n).map U8)[j]? = some u → W.cell? ((⟨b, 0, none⟩ : Addr).add j) = some u) → (convert 56 9 (.slice (some ⟨b, 0, none⟩) 8 8)).run Tryd.prog W = .ok (.string (ofL (leN 8 n))) W := fun W b hb =>
    run_str_cells W _ _ _ Tryd.underlying56 Tryd.underlying5 Tryd.underlying9 ⟨b, 0, none⟩ 8 8 (leN 8 n) (length_leN 8 n) hb
  have hl : (leN 8 n).map U8 = [.int .u8 ((n : Int) % 256), .int .u8 ((n : Int) / 256 % 256), .int .u8 ((n : Int) / 65536 % 256), .int .u8 ((n : Int) / 16777216 % 256), .int .u8 ((n : Int) / 4294967296 % 256), .int .u8 ((n : Int) / 1099511627776 % 256), .int .u8 ((n : Int) / 281474976710656 % 256), .int .u8 ((n : Int) / 72057594037927936)] := by
    have e : leN 8 n = [(n % 256).toUInt8, (n / 256 % 256).toUInt8, (n / 256 / 256 % 256).toUInt8, (n / 256 / 256 / 256 % 256).toUInt8, (n / 256 / 256 / 256 / 256 % 256).toUInt8, (n / 256 / 256 / 256 / 256 / 256 % 256).toUInt8, (n / 256 / 256 / 256 / 256 / 256 / 256 % 256).toUInt8, (n / 256 / 256 / 256 / 256 / 256 / 256 / 256 % 256).toUInt8] := rfl
    rw [e]
    simp only [List.map_cons, List.map_nil, U8_byte]
    have q : ∀ a b : Int, a = b → Value.int IntKind.u8 a = .int .u8 b := fun a b h => by rw [h]
    rw [q _ _ (show ((n / 256 : Nat) : Int) % 256 = (n : Int) / 256 % 256 by omega), q _ _ (show ((n / 256 / 256 : Nat) : Int) % 256 = (n : Int) / 65536 % 256 by omega), q _ _ (show ((n / 256 / 256 / 256 : Nat) : Int) % 256 = (n : Int) / 16777216 % 256 by omega), q _ _ (show ((n / 256 / 256 / 256 / 256 : Nat) : Int) % 256 = (n : Int) / 4294967296 % 256 by omega), q _ _ (show ((n / 256 / 256 / 256 / 256 / 256 : Nat) : Int) % 256 = (n : Int) / 1099511627776 % 256 by omega), q _ _ (show ((n / 256 / 256 / 256 / 256 / 256 / 256 : Nat) : Int) % 256 = (n : Int) / 281474976710656 % 256 by omega), q _ _ (show ((n / 256 / 256 / 256 / 256 / 256 / 256 / 256 : Nat) : Int) % 256 = (n : Int) / 72057594037927936 by omega)]
  have hw : ∀ j u, ((leN 8 n).map U8)[j]? = some u → (w.alloc (.cells #[.int .u8 ((n : Int) % 256), .int .u8 ((n : Int) / 256 % 256), .int .u8 ((n : Int) / 65536 % 256), .int .u8 ((n : Int) / 16777216 % 256), .int .u8 ((n : Int) / 4294967296 % 256), .int .u8 ((n : Int) / 1099511627776 % 256), .int .u8 ((n : Int) / 281474976710656 % 256), .int .u8 ((n : Int) / 72057594037927936)] 181)).cell? ((⟨w.heap.size, 0, none⟩ : Addr).add j) = some u := by
    intro j u hu
    rw [hl] at hu
    rw [WideShapes.add_plain]
    refine (cell_of_row _ w.heap.size _ _ _ _ (heap_alloc_new w _)).trans ?_
    rw [Nat.zero_add]
    simpa using hu
  have hs' := hs _ _ hw
  clear hs hl hw
  go_enter Tryd.func100, Tryd.ntmps100
  go_wp2
  refine wp_loop_rounds 9 ?_
  rw [rounds_succ]
  go_wp2
  rw [rounds_succ]
  go_wp2
  rw [rounds_succ]
  go_wp2
  rw [rounds_succ]
  go_wp2
  rw [rounds_succ]
  go_wp2
  rw [rounds_succ]
  go_wp2
  rw [rounds_succ]
  go_wp2
  rw [rounds_succ]
  go_wp2
  rw [rounds_succ]
  go_wp2
  go_ret
  exact ⟨rfl, (Ext.rfl' _).al _⟩

end Go.Proofs.YtmnpbpfeoackiaaDoor

namespace Go.Proofs.YtmnpbpfeoackiaaDoor
open Go.RowKit

theorem byteOf_rem (n : Nat) : byteOf ((n : Int) % 256) = (n % 256).toUInt8 := by
  unfold byteOf; congr 1; omega
theorem leN_step (k n : Nat) (l : List UInt8) : l ++ leN (k + 1) n = (l ++ [(n % 256).toUInt8]) ++ leN k (n / 256) := by
  simp [leN]

set_option maxRecDepth 100000 in
set_option maxHeartbeats 2000000 in
theorem rmark_any (n : Nat) (w : World) (hn : n < 9223372036854775808) :
    Calls Tryd.prog 102 #[.int .i64 n] w fun e w' => e = .returned (.string (ofL (leN 8 n))) ∧ Ext w w' := by
  have hq : ∀ m : Nat, ∃ q : Nat, m / 256 = q ∧ (m : Int) / 256 = (q : Int) := fun m => ⟨m / 256, rfl, by omega⟩
  have hr : ∀ m : Nat, ∃ r : Int, (m : Int) % 256 = r ∧ byteOf r = (m % 256).toUInt8 := fun m => ⟨_, rfl, byteOf_rem m⟩
  obtain ⟨L, hL⟩ : ∃ L, leN 8 n = L := ⟨_, rfl⟩
  rw [hL]
  have h0 : ([] : List UInt8) ++ leN 8 n = L := hL
  obtain ⟨n1, e0, q0⟩ := hq n
  obtain ⟨r0, t0, c0⟩ := hr n
  obtain ⟨l1, m0⟩ : ∃ l, [] ++ [(n % 256).toUInt8] = l := ⟨_, rfl⟩
  have h1 : l1 ++ leN 7 n1 = L := by rw [← m0, ← e0, ← leN_step]; exact h0
  have y1 : (ofL l1).size = 1 := by rw [size_ofL, ← m0]; simp
  have x0 : (⟨#[]⟩ : ByteArray) ++ ofL [byteOf r0] = ofL l1 := by rw [c0, ← m0]; exact ofL_append _ _
  obtain ⟨n2, e1, q1⟩ := hq n1
  have b1 : n1 < 9223372036854775808 := by rw [← e0]; exact Nat.lt_of_le_of_lt (Nat.div_le_self _ _) hn
  obtain ⟨r1, t1, c1⟩ := hr n1
  obtain ⟨l2, m1⟩ : ∃ l, l1 ++ [(n1 % 256).toUInt8] = l := ⟨_, rfl⟩
  have h2 : l2 ++ leN 6 n2 = L := by rw [← m1, ← e1, ← leN_step]; exact h1
  have y2 : (ofL l2).size = 2 := by rw [size_ofL, ← m1]; simp; rw [size_ofL] at y1; omega
  have x1 : ofL l1 ++ ofL [byteOf r1] = ofL l2 := by rw [c1, ← m1]; exact ofL_append _ _
  obtain ⟨n3, e2, q2⟩ := hq n2
  have b2 : n2 < 9223372036854775808 := by rw [← e1]; exact Nat.lt_of_le_of_lt (Nat.div_le_self _ _) b1
  obtain ⟨r2, t2, c2⟩ := hr n2
  obtain ⟨l3, m2⟩ : ∃ l, l2 ++ [(n2 % 256).toUInt8] = l := ⟨_, rfl⟩
  have h3 : l3 ++ leN 5 n3 = L := by rw [← m2, ← e2, ← leN_step]; exact h2
  have y3 : (ofL l3).size = 3 := by rw [size_ofL, ← m2]; simp; rw [size_ofL] at y2; omega
  have x2 : ofL l2 ++ ofL [byteOf r2] = ofL l3 := by rw [c2, ← m2]; exact ofL_append _ _
  obtain ⟨n4, e3, q3⟩ := hq n3
  have b3 : n3 < 9223372036854775808 := by rw [← e2]; exact Nat.lt_of_le_of_lt (Nat.div_le_self _ _) b2
  obtain ⟨r3, t3, c3⟩ := hr n3
  obtain ⟨l4, m3⟩ : ∃ l, l3 ++ [(n3 % 256).toUInt8] = l := ⟨_, rfl⟩
  have h4 : l4 ++ leN 4 n4 = L := by rw [← m3, ← e3, ← leN_step]; exact h3
  have y4 : (ofL l4).size = 4 := by rw [size_ofL, ← m3]; simp; rw [size_ofL] at y3; omega
  have x3 : ofL l3 ++ ofL [byteOf r3] = ofL l4 := by rw [c3, ← m3]; exact ofL_append _ _
  obtain ⟨n5, e4, q4⟩ := hq n4
  have b4 : n4 < 9223372036854775808 := by rw [← e3]; exact Nat.lt_of_le_of_lt (Nat.div_le_self _ _) b3
  obtain ⟨r4, t4, c4⟩ := hr n4
  obtain ⟨l5, m4⟩ : ∃ l, l4 ++ [(n4 % 256).toUInt8] = l := ⟨_, rfl⟩
  have h5 : l5 ++ leN 3 n5 = L := by rw [← m4, ← e4, ← leN_step]; exact h4
  have y5 : (ofL l5).size = 5 := by rw [size_ofL, ← m4]; simp; rw [size_ofL] at y4; omega
  have x4 : ofL l4 ++ ofL [byteOf r4] = ofL l5 := by rw [c4, ← m4]; exact ofL_append _ _
  obtain ⟨n6, e5, q5⟩ := hq n5
  have b5 : n5 < 9223372036854775808 := by rw [← e4]; exact Nat.lt_of_le_of_lt (Nat.div_le_self _ _) b4
  obtain ⟨r5, t5, c5⟩ := hr n5
  obtain ⟨l6, m5⟩ : ∃ l, l5 ++ [(n5 % 256).toUInt8] = l := ⟨_, rfl⟩
  have h6 : l6 ++ leN 2 n6 = L := by rw [← m5, ← e5, ← leN_step]; exact h5
  have y6 : (ofL l6).size = 6 := by rw [size_ofL, ← m5]; simp; rw [size_ofL] at y5; omega
  have x5 : ofL l5 ++ ofL [byteOf r5] = ofL l6 := by rw [c5, ← m5]; exact ofL_append _ _
  obtain ⟨n7, e6, q6⟩ := hq n6
  have b6 : n6 < 9223372036854775808 := by rw [← e5]; exact Nat.lt_of_le_of_lt (Nat.div_le_self _ _) b5
  obtain ⟨r6, t6, c6⟩ := hr n6
  obtain ⟨l7, m6⟩ : ∃ l, l6 ++ [(n6 % 256).toUInt8] = l := ⟨_, rfl⟩
  have h7 : l7 ++ leN 1 n7 = L := by rw [← m6, ← e6, ← leN_step]; exact h6
  have y7 : (ofL l7).size = 7 := by rw [size_ofL, ← m6]; simp; rw [size_ofL] at y6; omega
  have x6 : ofL l6 ++ ofL [byteOf r6] = ofL l7 := by rw [c6, ← m6]; exact ofL_append _ _
  obtain ⟨n8, e7, q7⟩ := hq n7
  have b7 : n7 < 9223372036854775808 := by rw [← e6]; exact Nat.lt_of_le_of_lt (Nat.div_le_self _ _) b6
  obtain ⟨r7, t7, c7⟩ := hr n7
  obtain ⟨l8, m7⟩ : ∃ l, l7 ++ [(n7 % 256).toUInt8] = l := ⟨_, rfl⟩
  have h8 : l8 ++ leN 0 n8 = L := by rw [← m7, ← e7, ← leN_step]; exact h7
  have y8 : (ofL l8).size = 8 := by rw [size_ofL, ← m7]; simp; rw [size_ofL] at y7; omega
  have x7 : ofL l7 ++ ofL [byteOf r7] = ofL l8 := by rw [c7, ← m7]; exact ofL_append _ _
  have hend : l8 = L := by rw [← h8]; simp [leN]
  clear hL h0 h1 h2 h3 h4 h5 h6 h7 h8 hq hr e0 e1 e2 e3 e4 e5 e6 e7 c0 c1 c2 c3 c4 c5 c6 c7 m0 m1 m2 m3 m4 m5 m6 m7
  subst hend
  have Q0 := Lib.hid q0; clear q0
  have T0 := Lib.hid t0; clear t0
  have X0 := Lib.hid x0; clear x0
  have Q1 := Lib.hid q1; clear q1
  have T1 := Lib.hid t1; clear t1
  have X1 := Lib.hid x1; clear x1
  have Q2 := Lib.hid q2; clear q2
  have T2 := Lib.hid t2; clear t2
  have X2 := Lib.hid x2; clear x2
  have Q3 := Lib.hid q3; clear q3
  have T3 := Lib.hid t3; clear t3
  have X3 := Lib.hid x3; clear x3
  have Q4 := Lib.hid q4; clear q4
  have T4 := Lib.hid t4; clear t4
  have X4 := Lib.hid x4; clear x4
  have Q5 := Lib.hid q5; clear q5
  have T5 := Lib.hid t5; clear t5
  have X5 := Lib.hid x5; clear x5
  have Q6 := Lib.hid q6; clear q6
  have T6 := Lib.hid t6; clear t6
  have X6 := Lib.hid x6; clear x6
  have Q7 := Lib.hid q7; clear q7
  have T7 := Lib.hid t7; clear t7
  have X7 := Lib.hid x7; clear x7
  go_enter Tryd.func102, Tryd.ntmps102
  go_wp2
  refine wp_loop_rounds 9 ?_
  rw [rounds_succ]
  have q := Q0.out
  have t := T0.out
  have x := X0.out
  clear Q0 T0 X0
  go_wp2_with fail
  refine (rbyte_any _ _).mono ?_
  rintro e w1 ⟨rfl, E1⟩
  go_wp2
  clear q t x
  rw [rounds_succ]
  have q := Q1.out
  have t := T1.out
  have x := X1.out
  clear Q1 T1 X1
  go_wp2_with fail
  refine (rbyte_any _ _).mono ?_
  rintro e w2 ⟨rfl, E2⟩
  go_wp2
  clear q t x
  rw [rounds_succ]
  have q := Q2.out
  have t := T2.out
  have x := X2.out
  clear Q2 T2 X2
  go_wp2_with fail
  refine (rbyte_any _ _).mono ?_
  rintro e w3 ⟨rfl, E3⟩
  go_wp2
  clear q t x
  rw [rounds_succ]
  have q := Q3.out
  have t := T3.out
  have x := X3.out
  clear Q3 T3 X3
  go_wp2_with fail
  refine (rbyte_any _ _).mono ?_
  rintro e w4 ⟨rfl, E4⟩
  go_wp2
  clear q t x
  rw [rounds_succ]
  have q := Q4.out
  have t := T4.out
  have x := X4.out
  clear Q4 T4 X4
  go_wp2_with fail
  refine (rbyte_any _ _).mono ?_
  rintro e w5 ⟨rfl, E5⟩
  go_wp2
  clear q t x
  rw [rounds_succ]
  have q := Q5.out
  have t := T5.out
  have x := X5.out
  clear Q5 T5 X5
  go_wp2_with fail
  refine (rbyte_any _ _).mono ?_
  rintro e w6 ⟨rfl, E6⟩
  go_wp2
  clear q t x
  rw [rounds_succ]
  have q := Q6.out
  have t := T6.out
  have x := X6.out
  clear Q6 T6 X6
  go_wp2_with fail
  refine (rbyte_any _ _).mono ?_
  rintro e w7 ⟨rfl, E7⟩
  go_wp2
  clear q t x
  rw [rounds_succ]
  have q := Q7.out
  have t := T7.out
  have x := X7.out
  clear Q7 T7 X7
  go_wp2_with fail
  refine (rbyte_any _ _).mono ?_
  rintro e w8 ⟨rfl, E8⟩
  go_wp2
  clear q t x
  rw [rounds_succ]
  go_wp2
  go_ret
  exact ⟨rfl, ((((((E1.tr E2).tr E3).tr E4).tr E5).tr E6).tr E7).tr E8⟩
end Go.Proofs.YtmnpbpfeoackiaaDoor

namespace Go.Proofs.YtmnpbpfeoackiaaDoor
open Go.RowKit

set_option maxRecDepth 100000 in
set_option maxHeartbeats 2000000 in
theorem number_any (s : List UInt8) (w : World) (hs : s.length = 8) :
    Calls Tryd.prog 127 #[.string (ofL s)] w fun e w' => e = .returned (.int .i64 (wrap64 (numN s))) ∧ w' = w := by
  obtain ⟨a, b, c, d, e, f, g, i, rfl⟩ := list8 hs
  clear hs
  have ha := a.toNat_lt; have hb := b.toNat_lt; have hc := c.toNat_lt; have hd := d.toNat_lt; have he := e.toNat_lt; have hf := f.toNat_lt; have hg := g.toNat_lt; have hi := i.toNat_lt
  obtain ⟨m1, hm1⟩ : ∃ m, 0 + 256 ^ 0 * a.toNat = m := ⟨_, rfl⟩
  have r0 : bits .or .u64 0 (IntKind.u64.wrap (IntKind.u64.wrap (a.toNat : Int))) = (m1 : Int) := by
    have h := or_step 0 a.toNat 0 (by omega) ha (by omega)
    rw [hm1, show ((256 ^ 0 : Nat) : Int) = 1 from rfl, Int.mul_one] at h
    exact h
  obtain ⟨m2, hm2⟩ : ∃ m, m1 + 256 ^ 1 * b.toNat = m := ⟨_, rfl⟩
  have r1 : bits .or .u64 (m1 : Int) (IntKind.u64.wrap (IntKind.u64.wrap (b.toNat : Int) * 256)) = (m2 : Int) := by
    rw [← hm2]; exact or_step m1 b.toNat 1 (by omega) hb (by omega)
  obtain ⟨m3, hm3⟩ : ∃ m, m2 + 256 ^ 2 * c.toNat = m := ⟨_, rfl⟩
  have r2 : bits .or .u64 (m2 : Int) (IntKind.u64.wrap (IntKind.u64.wrap (c.toNat : Int) * 65536)) = (m3 : Int) := by
    rw [← hm3]; exact or_step m2 c.toNat 2 (by omega) hc (by omega)
  obtain ⟨m4, hm4⟩ : ∃ m, m3 + 256 ^ 3 * d.toNat = m := ⟨_, rfl⟩
  have r3 : bits .or .u64 (m3 : Int) (IntKind.u64.wrap (IntKind.u64.wrap (d.toNat : Int) * 16777216)) = (m4 : Int) := by
    rw [← hm4]; exact or_step m3 d.toNat 3 (by omega) hd (by omega)
  obtain ⟨m5, hm5⟩ : ∃ m, m4 + 256 ^ 4 * e.toNat = m := ⟨_, rfl⟩
  have r4 : bits .or .u64 (m4 : Int) (IntKind.u64.wrap (IntKind.u64.wrap (e.toNat : Int) * 4294967296)) = (m5 : Int) := by
    rw [← hm5]; exact or_step m4 e.toNat 4 (by omega) he (by omega)
  obtain ⟨m6, hm6⟩ : ∃ m, m5 + 256 ^ 5 * f.toNat = m := ⟨_, rfl⟩
  have r5 : bits .or .u64 (m5 : Int) (IntKind.u64.wrap (IntKind.u64.wrap (f.toNat : Int) * 1099511627776)) = (m6 : Int) := by
    rw [← hm6]; exact or_step m5 f.toNat 5 (by omega) hf (by omega)
  obtain ⟨m7, hm7⟩ : ∃ m, m6 + 256 ^ 6 * g.toNat = m := ⟨_, rfl⟩
  have r6 : bits .or .u64 (m6 : Int) (IntKind.u64.wrap (IntKind.u64.wrap (g.toNat : Int) * 281474976710656)) = (m7 : Int) := by
    rw [← hm7]; exact or_step m6 g.toNat 6 (by omega) hg (by omega)
  obtain ⟨m8, hm8⟩ : ∃ m, m7 + 256 ^ 7 * i.toNat = m := ⟨_, rfl⟩
  have r7 : bits .or .u64 (m7 : Int) (IntKind.u64.wrap (IntKind.u64.wrap (i.toNat : Int) * 72057594037927936)) = (m8 : Int) := by
    rw [← hm8]; exact or_step m7 i.toNat 7 (by omega) hi (by omega)
  have hN : numN [a, b, c, d, e, f, g, i] = m8 := by simp only [numN]; omega
  rw [hN]
  clear hm1 hm2 hm3 hm4 hm5 hm6 hm7 hm8 hN ha hb hc hd he hf hg hi
  have g0 : ∀ h, (ofL [a, b, c, d, e, f, g, i])[0]'h = a := fun _ => rfl
  have g1 : ∀ h, (ofL [a, b, c, d, e, f, g, i])[1]'h = b := fun _ => rfl
  have g2 : ∀ h, (ofL [a, b, c, d, e, f, g, i])[2]'h = c := fun _ => rfl
  have g3 : ∀ h, (ofL [a, b, c, d, e, f, g, i])[3]'h = d := fun _ => rfl
  have g4 : ∀ h, (ofL [a, b, c, d, e, f, g, i])[4]'h = e := fun _ => rfl
  have g5 : ∀ h, (ofL [a, b, c, d, e, f, g, i])[5]'h = f := fun _ => rfl
  have g6 : ∀ h, (ofL [a, b, c, d, e, f, g, i])[6]'h = g := fun _ => rfl
  have g7 : ∀ h, (ofL [a, b, c, d, e, f, g, i])[7]'h = i := fun _ => rfl
  go_enter Tryd.func127, Tryd.ntmps127
  go_wp2
  refine wp_loop_rounds 9 ?_
  rw [rounds_succ]
  go_wp2
  rw [rounds_succ]
  go_wp2
  rw [rounds_succ]
  go_wp2
  rw [rounds_succ]
  go_wp2
  rw [rounds_succ]
  go_wp2
  rw [rounds_succ]
  go_wp2
  rw [rounds_succ]
  go_wp2
  rw [rounds_succ]
  go_wp2
  rw [rounds_succ]
  go_wp2
  go_ret
  exact ⟨rfl, rfl⟩

end Go.Proofs.YtmnpbpfeoackiaaDoor

namespace Go.Proofs.YtmnpbpfeoackiaaDoor
open Go.RowKit

theorem nstep (p b B : Nat) (hp : p < B) (hb : b < 256) (hB : 256 * B ≤ 9223372036854775808) : wrap64 (wrap64 (256 * (p : Int)) + wrap64 (b : Int)) = ((b + 256 * p : Nat) : Int) ∧ b + 256 * p < 256 * B := by
  refine ⟨?_, by omega⟩
  rw [IntWalk.wrap64_in (256 * (p : Int)) (by omega), IntWalk.wrap64_in (b : Int) (by omega), IntWalk.wrap64_in _ (by omega)]
  omega

set_option maxRecDepth 100000 in
set_option maxHeartbeats 2000000 in
theorem rNumber_any (s : List UInt8) (w : World) (hs : s.length = 8) (h7 : (s.getD 7 0).toNat ≤ 127) :
    Calls Tryd.prog 110 #[.string (ofL s)] w fun e w' => e = .returned (.int .i64 (numN s)) ∧ w' = w := by
  obtain ⟨a, b, c, d, e, f, g, i, rfl⟩ := list8 hs
  replace h7 : i.toNat ≤ 127 := h7
  clear hs
  have r7 : wrap64 (wrap64 (i.toNat : Int)) = (i.toNat : Int) := by rw [IntWalk.wrap64_in (i.toNat : Int) (by omega), IntWalk.wrap64_in _ (by omega)]
  have B7 : i.toNat < 128 := by omega
  obtain ⟨r6, B6⟩ := nstep _ g.toNat 128 B7 g.toNat_lt (by decide)
  obtain ⟨r5, B5⟩ := nstep _ f.toNat _ B6 f.toNat_lt (by decide)
  obtain ⟨r4, B4⟩ := nstep _ e.toNat _ B5 e.toNat_lt (by decide)
  obtain ⟨r3, B3⟩ := nstep _ d.toNat _ B4 d.toNat_lt (by decide)
  obtain ⟨r2, B2⟩ := nstep _ c.toNat _ B3 c.toNat_lt (by decide)
  obtain ⟨r1, B1⟩ := nstep _ b.toNat _ B2 b.toNat_lt (by decide)
  obtain ⟨r0, B0⟩ := nstep _ a.toNat _ B1 a.toNat_lt (by decide)
  clear B0 B1 B2 B3 B4 B5 B6 B7 h7
  simp only [numN, Nat.mul_zero, Nat.add_zero]
  generalize hp7 : i.toNat = p7 at *
  generalize hp6 : g.toNat + 256 * p7 = p6 at *
  generalize hp5 : f.toNat + 256 * p6 = p5 at *
  generalize hp4 : e.toNat + 256 * p5 = p4 at *
  generalize hp3 : d.toNat + 256 * p4 = p3 at *
  generalize hp2 : c.toNat + 256 * p3 = p2 at *
  generalize hp1 : b.toNat + 256 * p2 = p1 at *
  generalize hp0 : a.toNat + 256 * p1 = p0 at *
  have g0 : ∀ h, (ofL [a, b, c, d, e, f, g, i])[0]'h = a := fun _ => rfl
  have g1 : ∀ h, (ofL [a, b, c, d, e, f, g, i])[1]'h = b := fun _ => rfl
  have g2 : ∀ h, (ofL [a, b, c, d, e, f, g, i])[2]'h = c := fun _ => rfl
  have g3 : ∀ h, (ofL [a, b, c, d, e, f, g, i])[3]'h = d := fun _ => rfl
  have g4 : ∀ h, (ofL [a, b, c, d, e, f, g, i])[4]'h = e := fun _ => rfl
  have g5 : ∀ h, (ofL [a, b, c, d, e, f, g, i])[5]'h = f := fun _ => rfl
  have g6 : ∀ h, (ofL [a, b, c, d, e, f, g, i])[6]'h = g := fun _ => rfl
  have g7 : ∀ h, (ofL [a, b, c, d, e, f, g, i])[7]'h = i := fun _ => rfl
  have g8 : (i.toNat : Int) = (p7 : Int) := by rw [hp7]
  clear hp7 hp6 hp5 hp4 hp3 hp2 hp1 hp0
  have G0 := Lib.hid g0; clear g0
  have R0 := Lib.hid r0; clear r0
  have G1 := Lib.hid g1; clear g1
  have R1 := Lib.hid r1; clear r1
  have G2 := Lib.hid g2; clear g2
  have R2 := Lib.hid r2; clear r2
  have G3 := Lib.hid g3; clear g3
  have R3 := Lib.hid r3; clear r3
  have G4 := Lib.hid g4; clear g4
  have R4 := Lib.hid r4; clear r4
  have G5 := Lib.hid g5; clear g5
  have R5 := Lib.hid r5; clear r5
  have G6 := Lib.hid g6; clear g6
  have R6 := Lib.hid r6; clear r6
  have G7 := Lib.hid g7; clear g7
  have R7 := Lib.hid r7; clear r7
  have hz : (ofL [a, b, c, d, e, f, g, i]).size = 8 := rfl
  go_enter Tryd.func110, Tryd.ntmps110
  go_wp2
  refine wp_loop_rounds 9 ?_
  rw [rounds_succ]
  have gg7 := G7.out
  have rr7 := R7.out
  clear G7 R7
  go_wp2
  rw [rounds_succ]
  have gg6 := G6.out
  have rr6 := R6.out
  clear G6 R6
  go_wp2
  clear gg7 rr7
  rw [rounds_succ]
  have gg5 := G5.out
  have rr5 := R5.out
  clear G5 R5
  go_wp2
  clear gg6 rr6
  rw [rounds_succ]
  have gg4 := G4.out
  have rr4 := R4.out
  clear G4 R4
  go_wp2
  clear gg5 rr5
  rw [rounds_succ]
  have gg3 := G3.out
  have rr3 := R3.out
  clear G3 R3
  go_wp2
  clear gg4 rr4
  rw [rounds_succ]
  have gg2 := G2.out
  have rr2 := R2.out
  clear G2 R2
  go_wp2
  clear gg3 rr3
  rw [rounds_succ]
  have gg1 := G1.out
  have rr1 := R1.out
  clear G1 R1
  go_wp2
  clear gg2 rr2
  rw [rounds_succ]
  have gg0 := G0.out
  have rr0 := R0.out
  clear G0 R0
  go_wp2
  clear gg1 rr1
  rw [rounds_succ]
  go_wp2
  go_ret
  refine ⟨?_, rfl⟩
  show Ending.returned (.int .i64 (wrap64 (wrap64 (256 * (p1 : Int)) + wrap64 (a.toNat : Int)))) = _
  rw [rr0]
end Go.Proofs.YtmnpbpfeoackiaaDoor
