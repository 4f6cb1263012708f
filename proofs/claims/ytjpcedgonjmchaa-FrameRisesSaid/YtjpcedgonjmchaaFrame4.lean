/-
  Package frame's reference: the number that eight bytes tell. Condition: eight bytes, the last one below 128.
-/
import Derived.Test.YtjpcedgonjmchaaFrame
namespace Go.Proofs.Ytjpcedgonjmchaa
open Go.RowKit

theorem nstep (p b B : Nat) (hp : p < B) (hb : b < 256) (hB : 256 * B ≤ 9223372036854775808) : wrap64 (wrap64 (256 * (p : Int)) + wrap64 (b : Int)) = ((b + 256 * p : Nat) : Int) ∧ b + 256 * p < 256 * B := by
  refine ⟨?_, by omega⟩
  rw [IntWalk.wrap64_in (256 * (p : Int)) (by omega), IntWalk.wrap64_in (b : Int) (by omega), IntWalk.wrap64_in _ (by omega)]
  omega

set_option maxRecDepth 100000 in
set_option maxHeartbeats 2000000 in
theorem rNumber_any (s : List UInt8) (w : World) (hs : s.length = 8) (h7 : (s.getD 7 0).toNat ≤ 127) :
    Calls Try.prog 20 #[.string (ofL s)] w fun e w' => e = .returned (.int .i64 (numN s)) ∧ w' = w := by
  obtain ⟨a, b, c, d, e, f, g, i, rfl⟩ := list8 hs
  replace h7 : i.toNat ≤ 127 := h7
  clear hs
  have r7 : wrap64 (wrap64 (i.toNat : Int)) = (i.toNat : Int) := by rw [IntWalk.wrap64_in (i.toNat : Int) (by omega), IntWalk.wrap64_in _ (by omega)]
  have B7 : i.toNat < 128 := by omega
  obtain ⟨r6, B6⟩ := nstep _ g.toNat 128 B7 g.toNat_lt (by decide)
  obtain ⟨r5, B5⟩ := nstep _ f.toNat _ B6 f.toNat_lt (by decide)
  obtain ⟨r4, B4⟩ := nstep _ e.toNat _ B5 e.toNat_lt (by decide)
  obtain ⟨r3, B3⟩ := nstep _ d.toNat _ B4 d.toNat_lt (by decide)
  obtain ⟨r2, B2⟩ := nstep _ c.toNat _ B3 c.toNat_lt (by decide)
  obtain ⟨r1, B1⟩ := nstep _ b.toNat _ B2 b.toNat_lt (by decide)
  obtain ⟨r0, B0⟩ := nstep _ a.toNat _ B1 a.toNat_lt (by decide)
  clear B0 B1 B2 B3 B4 B5 B6 B7 h7
  simp only [numN, Nat.mul_zero, Nat.add_zero]
  generalize hp7 : i.toNat = p7 at *
  generalize hp6 : g.toNat + 256 * p7 = p6 at *
  generalize hp5 : f.toNat + 256 * p6 = p5 at *
  generalize hp4 : e.toNat + 256 * p5 = p4 at *
  generalize hp3 : d.toNat + 256 * p4 = p3 at *
  generalize hp2 : c.toNat + 256 * p3 = p2 at *
  generalize hp1 : b.toNat + 256 * p2 = p1 at *
  generalize hp0 : a.toNat + 256 * p1 = p0 at *
  have g0 : ∀ h, (ofL [a, b, c, d, e, f, g, i])[0]'h = a := fun _ => rfl
  have g1 : ∀ h, (ofL [a, b, c, d, e, f, g, i])[1]'h = b := fun _ => rfl
  have g2 : ∀ h, (ofL [a, b, c, d, e, f, g, i])[2]'h = c := fun _ => rfl
  have g3 : ∀ h, (ofL [a, b, c, d, e, f, g, i])[3]'h = d := fun _ => rfl
  have g4 : ∀ h, (ofL [a, b, c, d, e, f, g, i])[4]'h = e := fun _ => rfl
  have g5 : ∀ h, (ofL [a, b, c, d, e, f, g, i])[5]'h = f := fun _ => rfl
  have g6 : ∀ h, (ofL [a, b, c, d, e, f, g, i])[6]'h = g := fun _ => rfl
  have g7 : ∀ h, (ofL [a, b, c, d, e, f, g, i])[7]'h = i := fun _ => rfl
  have g8 : (i.toNat : Int) = (p7 : Int) := by rw [hp7]
  clear hp7 hp6 hp5 hp4 hp3 hp2 hp1 hp0
  have G0 := Lib.hid g0; clear g0
  have R0 := Lib.hid r0; clear r0
  have G1 := Lib.hid g1; clear g1
  have R1 := Lib.hid r1; clear r1
  have G2 := Lib.hid g2; clear g2
  have R2 := Lib.hid r2; clear r2
  have G3 := Lib.hid g3; clear g3
  have R3 := Lib.hid r3; clear r3
  have G4 := Lib.hid g4; clear g4
  have R4 := Lib.hid r4; clear r4
  have G5 := Lib.hid g5; clear g5
  have R5 := Lib.hid r5; clear r5
  have G6 := Lib.hid g6; clear g6
  have R6 := Lib.hid r6; clear r6
  have G7 := Lib.hid g7; clear g7
  have R7 := Lib.hid r7; clear r7
  have hz : (ofL [a, b, c, d, e, f, g, i]).size = 8 := rfl
  go_enter Try.func20, Try.ntmps20
  go_wp2
  refine wp_loop_rounds 9 ?_
  rw [rounds_succ]
  have gg7 := G7.out
  have rr7 := R7.out
  clear G7 R7
  go_wp2
  rw [rounds_succ]
  have gg6 := G6.out
  have rr6 := R6.out
  clear G6 R6
  go_wp2
  clear gg7 rr7
  rw [rounds_succ]
  have gg5 := G5.out
  have rr5 := R5.out
  clear G5 R5
  go_wp2
  clear gg6 rr6
  rw [rounds_succ]
  have gg4 := G4.out
  have rr4 := R4.out
  clear G4 R4
  go_wp2
  clear gg5 rr5
  rw [rounds_succ]
  have gg3 := G3.out
  have rr3 := R3.out
  clear G3 R3
  go_wp2
  clear gg4 rr4
  rw [rounds_succ]
  have gg2 := G2.out
  have rr2 := R2.out
  clear G2 R2
  go_wp2
  clear gg3 rr3
  rw [rounds_succ]
  have gg1 := G1.out
  have rr1 := R1.out
  clear G1 R1
  go_wp2
  clear gg2 rr2
  rw [rounds_succ]
  have gg0 := G0.out
  have rr0 := R0.out
  clear G0 R0
  go_wp2
  clear gg1 rr1
  rw [rounds_succ]
  go_wp2
  go_ret
  refine ⟨?_, rfl⟩
  show Ending.returned (.int .i64 (wrap64 (wrap64 (256 * (p1 : Int)) + wrap64 (a.toNat : Int)))) = _
  rw [rr0]
end Go.Proofs.Ytjpcedgonjmchaa
