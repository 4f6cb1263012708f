/-
  Package sha's reference: the padded text. Condition: at most 1000000 bytes.
-/
import Derived.Test.YteffocenfkcofaaDoorSha10
import Derived.Test.YteffocenfkcofaaDoorBytes
namespace Go.Proofs.YteffocenfkcofaaDoor
open Go.RowKit

theorem Tryd.bytesT (w : World) (s : ByteArray) (h63 : s.size ≤ 9223372036854775807) : ∃ v w', (convert 9 77 (.string s)).run Tryd.prog w = .ok v w' ∧ OwnT w' w.heap.size 5 v s.size ((toL s).map U8) ∧ Ext w w' :=
  run_bytes_T w _ _ _ s Tryd.underlying9 Tryd.underlying77 Tryd.underlying5 h63
theorem Tryd.strT {w : World} {base : Nat} {v : Value} {n : Nat} {l : List UInt8} (hown : OwnT w base 5 v n (l.map U8)) : (convert 77 9 v).run Tryd.prog w = .ok (.string (ofL l)) w :=
  run_str_T _ _ _ Tryd.underlying77 Tryd.underlying5 Tryd.underlying9 hown
def slN : Value → Nat
  | .slice _ n _ => n
  | _ => 0

set_option maxRecDepth 100000 in
set_option maxHeartbeats 4000000 in
theorem rspad_any (s : List UInt8) (w : World) (hs : s.length ≤ 1000000) : Calls Tryd.prog 80 #[.string (ofL s)] w fun e w' => e = .returned (.string (ofL (shaPad s))) ∧ Ext w w' := by
  obtain ⟨n, hn⟩ : ∃ n, s.length = n := ⟨_, rfl⟩
  rw [hn] at hs
  obtain ⟨z, hz⟩ : ∃ z : Nat, (119 - n % 64) % 64 = z := ⟨_, rfl⟩
  have z0 : z < 64 := by omega
  have z1 : ∀ j : Nat, j < z → ((((n : Int) + 1 + j) % 64 != 56) = true) := fun j hj => by simp; omega
  have z2 : (((n : Int) + 1 + z) % 64 != 56) = false := by simp; omega
  have hl : shaPad s = s ++ 128 :: (List.replicate z 0 ++ be8 (8 * n)) := by unfold shaPad endingL; rw [hn, hz]
  obtain ⟨vb, wb, hrun, hownb, hEb⟩ := Tryd.bytesT w (ofL s) (by rw [size_ofL, hn]; omega)
  rw [size_ofL, hn, toL_ofL] at hownb
  have hsz : (ofL s).size = n := by rw [size_ofL, hn]
  have HL := Lib.hid hl; have HZ1 := Lib.hid z1; have HZ2 := Lib.hid z2; have HN := Lib.hid hn
  clear hl z1 z2 hz hn
  go_enter Tryd.func80, Tryd.ntmps80
  go_wp2_with (first
    | (at_builtin; refine wpl_appT Tryd.elemU8 rfl _ _ rfl hownb 1 rfl rfl rfl (by intro u hu; simp at hu; rw [hu]; rfl) (by omega) (by omega) hEb.size ?_; intro v1 w1 hown1 hg1; have hE1 := hEb.ownT hg1 hownb (Nat.le_refl _); clear hownb hg1 hrun hEb))
  go_loopw [3] (fun b wr => ∃ j : Nat, j ≤ z ∧ (∃ A c, b = .slice A (n + 1 + j) c) ∧ Ext w wr ∧ OwnT wr w.heap.size 5 b (n + 1 + j) (s.map U8 ++ [.int .u8 128] ++ List.replicate j (.int .u8 0))) (fun b _ => n + 1 + z - slN b)
  case atStart =>
    obtain ⟨A, c, hv⟩ := hown1.slice
    exact ⟨0, by omega, ⟨A, c, hv⟩, hE1, by simpa using hown1⟩
  case round =>
    clear hown1 hE1
    obtain ⟨j, hj, ⟨A, c, rfl⟩, hE1, hown1⟩ := hrel
    by_cases hlt : j < z
    · have hz1 := HZ1.out j hlt
      go_wp2_with (at_builtin; refine wpl_appT Tryd.elemU8 rfl _ _ rfl hown1 1 rfl rfl rfl (by intro u hu; simp at hu; rw [hu]; rfl) (by omega) (by omega) hE1.size ?_; intro v2 w2 hown2 hg2; have hE2 := hE1.ownT hg2 hown1 (Nat.le_refl _); clear hown1 hg2 hE1)
      obtain ⟨A2, c2, rfl⟩ := hown2.slice
      go_roundw
      case rel => exact ⟨j + 1, by omega, ⟨A2, c2, rfl⟩, hE2, hown2.eq (by rw [List.append_assoc, ← List.replicate_succ']) (by omega)⟩
      case measure => simp [slN]; omega
    · obtain rfl : j = z := by omega
      have hz2 := HZ2.out
      go_wp2
      clear hz2
      have hown3 := hown1
      have hE3 := hE1
      clear hown1 hE1
      refine wp_loop_rounds 9 ?_
      rw [rounds_succ]
      go_wp2_with (at_builtin; refine wpl_appT Tryd.elemU8 rfl _ _ rfl hown3 1 rfl rfl rfl (by intro u hu; simp at hu; rw [hu]; rfl) (by omega) (by omega) (by have := hE3.size; omega) ?_; intro v4 w4 hown4 hg4; have hE4 := hE3.ownT hg4 hown3 (Nat.le_refl _); clear hown3 hg4 hE3)
      rw [rounds_succ]
      go_wp2_with (at_builtin; refine wpl_appT Tryd.elemU8 rfl _ _ rfl hown4 1 rfl rfl rfl (by intro u hu; simp at hu; rw [hu]; rfl) (by omega) (by omega) (by have := hE4.size; omega) ?_; intro v5 w5 hown5 hg5; have hE5 := hE4.ownT hg5 hown4 (Nat.le_refl _); clear hown4 hg5 hE4)
      rw [rounds_succ]
      go_wp2_with (at_builtin; refine wpl_appT Tryd.elemU8 rfl _ _ rfl hown5 1 rfl rfl rfl (by intro u hu; simp at hu; rw [hu]; rfl) (by omega) (by omega) (by have := hE5.size; omega) ?_; intro v6 w6 hown6 hg6; have hE6 := hE5.ownT hg6 hown5 (Nat.le_refl _); clear hown5 hg6 hE5)
      rw [rounds_succ]
      go_wp2_with (at_builtin; refine wpl_appT Tryd.elemU8 rfl _ _ rfl hown6 1 rfl rfl rfl (by intro u hu; simp at hu; rw [hu]; rfl) (by omega) (by omega) (by have := hE6.size; omega) ?_; intro v7 w7 hown7 hg7; have hE7 := hE6.ownT hg7 hown6 (Nat.le_refl _); clear hown6 hg7 hE6)
      rw [rounds_succ]
      go_wp2_with (at_builtin; refine wpl_appT Tryd.elemU8 rfl _ _ rfl hown7 1 rfl rfl rfl (by intro u hu; simp at hu; rw [hu]; rfl) (by omega) (by omega) (by have := hE7.size; omega) ?_; intro v8 w8 hown8 hg8; have hE8 := hE7.ownT hg8 hown7 (Nat.le_refl _); clear hown7 hg8 hE7)
      rw [rounds_succ]
      go_wp2_with (at_builtin; refine wpl_appT Tryd.elemU8 rfl _ _ rfl hown8 1 rfl rfl rfl (by intro u hu; simp at hu; rw [hu]; rfl) (by omega) (by omega) (by have := hE8.size; omega) ?_; intro v9 w9 hown9 hg9; have hE9 := hE8.ownT hg9 hown8 (Nat.le_refl _); clear hown8 hg9 hE8)
      rw [rounds_succ]
      go_wp2_with (at_builtin; refine wpl_appT Tryd.elemU8 rfl _ _ rfl hown9 1 rfl rfl rfl (by intro u hu; simp at hu; rw [hu]; rfl) (by omega) (by omega) (by have := hE9.size; omega) ?_; intro v10 w10 hown10 hg10; have hE10 := hE9.ownT hg10 hown9 (Nat.le_refl _); clear hown9 hg10 hE9)
      rw [rounds_succ]
      go_wp2_with (at_builtin; refine wpl_appT Tryd.elemU8 rfl _ _ rfl hown10 1 rfl rfl rfl (by intro u hu; simp at hu; rw [hu]; rfl) (by omega) (by omega) (by have := hE10.size; omega) ?_; intro v11 w11 hown11 hg11; have hE11 := hE10.ownT hg11 hown10 (Nat.le_refl _); clear hown10 hg11 hE10)
      rw [rounds_succ]
      have hv : ∀ (m : Nat), U8 (m % 256).toUInt8 = Value.int .u8 ((m % 256 : Nat) : Int) := fun m => by
        unfold U8
        rw [Nat.toUInt8, UInt8.toNat_ofNat', show 2 ^ 8 = 256 from rfl, Nat.mod_mod]
      have hown := hown11.eq (ys := (shaPad s).map U8) (m := (shaPad s).length) (hn := by rw [HL.out]; simp [be8, HN.out]; omega) (hx := by
        rw [HL.out]
        simp only [be8, List.map_cons, List.map_append, List.map_nil, List.map_replicate, hv, List.nil_append, List.cons_append, List.append_assoc]
        rw [show U8 128 = .int .u8 128 from rfl, show U8 0 = .int .u8 0 from rfl]
        congr 3
        repeat (first | rfl | (refine cons_int (by omega) ?_)))
      have hcv := Tryd.strT hown
      clear hown hown11 HL hv HZ1 HZ2 HN
      go_wp2
      go_ret
      exact ⟨rfl, hE11⟩
end Go.Proofs.YteffocenfkcofaaDoor
