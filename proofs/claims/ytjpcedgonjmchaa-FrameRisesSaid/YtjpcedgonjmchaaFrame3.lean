/-
  Package frame's reference: the number that eight bytes tell, and the same in package frame. Condition: eight bytes.
-/
import Derived.Test.YtjpcedgonjmchaaFrame
namespace Go.Proofs.Ytjpcedgonjmchaa
open Go.RowKit

set_option maxRecDepth 100000 in
set_option maxHeartbeats 2000000 in
theorem number_any (s : List UInt8) (w : World) (hs : s.length = 8) :
    Calls Try.prog 46 #[.string (ofL s)] w fun e w' => e = .returned (.int .i64 (wrap64 (numN s))) ∧ w' = w := by
  obtain ⟨a, b, c, d, e, f, g, i, rfl⟩ := list8 hs
  clear hs
  have ha := a.toNat_lt; have hb := b.toNat_lt; have hc := c.toNat_lt; have hd := d.toNat_lt; have he := e.toNat_lt; have hf := f.toNat_lt; have hg := g.toNat_lt; have hi := i.toNat_lt
  obtain ⟨m1, hm1⟩ : ∃ m, 0 + 256 ^ 0 * a.toNat = m := ⟨_, rfl⟩
  have r0 : bits .or .u64 0 (IntKind.u64.wrap (IntKind.u64.wrap (a.toNat : Int))) = (m1 : Int) := by
    have h := or_step 0 a.toNat 0 (by omega) ha (by omega)
    rw [hm1, show ((256 ^ 0 : Nat) : Int) = 1 from rfl, Int.mul_one] at h
    exact h
  obtain ⟨m2, hm2⟩ : ∃ m, m1 + 256 ^ 1 * b.toNat = m := ⟨_, rfl⟩
  have r1 : bits .or .u64 (m1 : Int) (IntKind.u64.wrap (IntKind.u64.wrap (b.toNat : Int) * 256)) = (m2 : Int) := by
    rw [← hm2]; exact or_step m1 b.toNat 1 (by omega) hb (by omega)
  obtain ⟨m3, hm3⟩ : ∃ m, m2 + 256 ^ 2 * c.toNat = m := ⟨_, rfl⟩
  have r2 : bits .or .u64 (m2 : Int) (IntKind.u64.wrap (IntKind.u64.wrap (c.toNat : Int) * 65536)) = (m3 : Int) := by
    rw [← hm3]; exact or_step m2 c.toNat 2 (by omega) hc (by omega)
  obtain ⟨m4, hm4⟩ : ∃ m, m3 + 256 ^ 3 * d.toNat = m := ⟨_, rfl⟩
  have r3 : bits .or .u64 (m3 : Int) (IntKind.u64.wrap (IntKind.u64.wrap (d.toNat : Int) * 16777216)) = (m4 : Int) := by
    rw [← hm4]; exact or_step m3 d.toNat 3 (by omega) hd (by omega)
  obtain ⟨m5, hm5⟩ : ∃ m, m4 + 256 ^ 4 * e.toNat = m := ⟨_, rfl⟩
  have r4 : bits .or .u64 (m4 : Int) (IntKind.u64.wrap (IntKind.u64.wrap (e.toNat : Int) * 4294967296)) = (m5 : Int) := by
    rw [← hm5]; exact or_step m4 e.toNat 4 (by omega) he (by omega)
  obtain ⟨m6, hm6⟩ : ∃ m, m5 + 256 ^ 5 * f.toNat = m := ⟨_, rfl⟩
  have r5 : bits .or .u64 (m5 : Int) (IntKind.u64.wrap (IntKind.u64.wrap (f.toNat : Int) * 1099511627776)) = (m6 : Int) := by
    rw [← hm6]; exact or_step m5 f.toNat 5 (by omega) hf (by omega)
  obtain ⟨m7, hm7⟩ : ∃ m, m6 + 256 ^ 6 * g.toNat = m := ⟨_, rfl⟩
  have r6 : bits .or .u64 (m6 : Int) (IntKind.u64.wrap (IntKind.u64.wrap (g.toNat : Int) * 281474976710656)) = (m7 : Int) := by
    rw [← hm7]; exact or_step m6 g.toNat 6 (by omega) hg (by omega)
  obtain ⟨m8, hm8⟩ : ∃ m, m7 + 256 ^ 7 * i.toNat = m := ⟨_, rfl⟩
  have r7 : bits .or .u64 (m7 : Int) (IntKind.u64.wrap (IntKind.u64.wrap (i.toNat : Int) * 72057594037927936)) = (m8 : Int) := by
    rw [← hm8]; exact or_step m7 i.toNat 7 (by omega) hi (by omega)
  have hN : numN [a, b, c, d, e, f, g, i] = m8 := by simp only [numN]; omega
  rw [hN]
  clear hm1 hm2 hm3 hm4 hm5 hm6 hm7 hm8 hN ha hb hc hd he hf hg hi
  have g0 : ∀ h, (ofL [a, b, c, d, e, f, g, i])[0]'h = a := fun _ => rfl
  have g1 : ∀ h, (ofL [a, b, c, d, e, f, g, i])[1]'h = b := fun _ => rfl
  have g2 : ∀ h, (ofL [a, b, c, d, e, f, g, i])[2]'h = c := fun _ => rfl
  have g3 : ∀ h, (ofL [a, b, c, d, e, f, g, i])[3]'h = d := fun _ => rfl
  have g4 : ∀ h, (ofL [a, b, c, d, e, f, g, i])[4]'h = e := fun _ => rfl
  have g5 : ∀ h, (ofL [a, b, c, d, e, f, g, i])[5]'h = f := fun _ => rfl
  have g6 : ∀ h, (ofL [a, b, c, d, e, f, g, i])[6]'h = g := fun _ => rfl
  have g7 : ∀ h, (ofL [a, b, c, d, e, f, g, i])[7]'h = i := fun _ => rfl
  go_enter Try.func46, Try.ntmps46
  go_wp2
  refine wp_loop_rounds 9 ?_
  rw [rounds_succ]
  go_wp2
  rw [rounds_succ]
  go_wp2
  rw [rounds_succ]
  go_wp2
  rw [rounds_succ]
  go_wp2
  rw [rounds_succ]
  go_wp2
  rw [rounds_succ]
  go_wp2
  rw [rounds_succ]
  go_wp2
  rw [rounds_succ]
  go_wp2
  rw [rounds_succ]
  go_wp2
  go_ret
  exact ⟨rfl, rfl⟩

end Go.Proofs.Ytjpcedgonjmchaa
