/-
  Package sha: what comes behind a text, the padded text. Condition: at most 1000000 bytes.
-/
import Derived.Test.YtmnpbpfeoackiaaDoorMhA
import Derived.Test.YtmnpbpfeoackiaaDoorOct3
namespace Go.Proofs.YtmnpbpfeoackiaaDoor
open Go.RowKit

theorem cons_int {k : IntKind} {a b : Int} {l m : List Value} (h : a = b) (h2 : l = m) : Value.int k a :: l = .int k b :: m := by rw [h, h2]
theorem own_eq {w : World} {base : Nat} {e : TypeId} {size n m : Nat} {v : Value} {xs ys : List Value} (h : w.ownsRow base e size v n xs) (hx : xs = ys) (hn : n = m) : w.ownsRow base e size v m ys := by
  rw [← hx, ← hn]; exact h

set_option maxRecDepth 100000 in
set_option maxHeartbeats 2000000 in
theorem ending_any (n : Nat) (w : World) (hn : n ≤ 1000000) : Calls Tryd.prog 133 #[.int .i64 n] w fun e w' => e = .returned (.string (ofL (endingL n))) ∧ Ext w w' := by
  obtain ⟨z, hz⟩ : ∃ z : Nat, (119 - n % 64) % 64 = z := ⟨_, rfl⟩
  have z1 : ((119 : Int) - (n : Int) % 64) % 64 = z := by omega
  have z2 : z < 64 := by omega
  have hl : endingL n = 128 :: (List.replicate z 0 ++ be8 (8 * n)) := by unfold endingL; rw [hz]
  clear hz
  have HL := Lib.hid hl; clear hl
  go_enter Tryd.func133, Tryd.ntmps133
  go_wp2_with (first | (at_make; refine wpl_make0 Tryd.elemU8 _ rfl _ _ rfl (1 + z + 8) rfl rfl (by omega) (by omega) (by omega) ?_))
  intro w1 hown hE
  go_wp2_with (first
    | (at_builtin; refine wpl_app Tryd.elemU8 rfl _ _ rfl hown 1 rfl rfl rfl (by intro u hu; simp at hu; rw [hu]; rfl) (by omega) (by omega) (by have := hE.size; omega) ?_; intro v2 w2 hown2 hg2; have hE2 := hE.own hg2 hown (Nat.le_refl _); clear hown hg2)
    | (at_builtin; refine wpl_app_zeros Tryd.elemU8 rfl rfl _ rfl _ _ _ Tryd.underlying3 rfl hown2 z rfl rfl rfl (by omega) (by omega) (by have := hE2.size; omega) ?_; intro v3 w3 hown3 hg3; have hE3 := hE2.own hg3 hown2 (Nat.le_refl _); clear hown2 hg3))
  refine wp_loop_rounds 9 ?_
  rw [rounds_succ]
  go_wp2_with (at_builtin; refine wpl_app Tryd.elemU8 rfl _ _ rfl hown3 1 rfl rfl rfl (by intro u hu; simp at hu; rw [hu]; rfl) (by omega) (by omega) (by have := hE3.size; omega) ?_; intro v4 w4 hown4 hg4; have hE4 := hE3.own hg4 hown3 (Nat.le_refl _); clear hown3 hg4 hE3)
  rw [rounds_succ]
  go_wp2_with (at_builtin; refine wpl_app Tryd.elemU8 rfl _ _ rfl hown4 1 rfl rfl rfl (by intro u hu; simp at hu; rw [hu]; rfl) (by omega) (by omega) (by have := hE4.size; omega) ?_; intro v5 w5 hown5 hg5; have hE5 := hE4.own hg5 hown4 (Nat.le_refl _); clear hown4 hg5 hE4)
  rw [rounds_succ]
  go_wp2_with (at_builtin; refine wpl_app Tryd.elemU8 rfl _ _ rfl hown5 1 rfl rfl rfl (by intro u hu; simp at hu; rw [hu]; rfl) (by omega) (by omega) (by have := hE5.size; omega) ?_; intro v6 w6 hown6 hg6; have hE6 := hE5.own hg6 hown5 (Nat.le_refl _); clear hown5 hg6 hE5)
  rw [rounds_succ]
  go_wp2_with (at_builtin; refine wpl_app Tryd.elemU8 rfl _ _ rfl hown6 1 rfl rfl rfl (by intro u hu; simp at hu; rw [hu]; rfl) (by omega) (by omega) (by have := hE6.size; omega) ?_; intro v7 w7 hown7 hg7; have hE7 := hE6.own hg7 hown6 (Nat.le_refl _); clear hown6 hg7 hE6)
  rw [rounds_succ]
  go_wp2_with (at_builtin; refine wpl_app Tryd.elemU8 rfl _ _ rfl hown7 1 rfl rfl rfl (by intro u hu; simp at hu; rw [hu]; rfl) (by omega) (by omega) (by have := hE7.size; omega) ?_; intro v8 w8 hown8 hg8; have hE8 := hE7.own hg8 hown7 (Nat.le_refl _); clear hown7 hg8 hE7)
  rw [rounds_succ]
  go_wp2_with (at_builtin; refine wpl_app Tryd.elemU8 rfl _ _ rfl hown8 1 rfl rfl rfl (by intro u hu; simp at hu; rw [hu]; rfl) (by omega) (by omega) (by have := hE8.size; omega) ?_; intro v9 w9 hown9 hg9; have hE9 := hE8.own hg9 hown8 (Nat.le_refl _); clear hown8 hg9 hE8)
  rw [rounds_succ]
  go_wp2_with (at_builtin; refine wpl_app Tryd.elemU8 rfl _ _ rfl hown9 1 rfl rfl rfl (by intro u hu; simp at hu; rw [hu]; rfl) (by omega) (by omega) (by have := hE9.size; omega) ?_; intro v10 w10 hown10 hg10; have hE10 := hE9.own hg10 hown9 (Nat.le_refl _); clear hown9 hg10 hE9)
  rw [rounds_succ]
  go_wp2_with (at_builtin; refine wpl_app Tryd.elemU8 rfl _ _ rfl hown10 1 rfl rfl rfl (by intro u hu; simp at hu; rw [hu]; rfl) (by omega) (by omega) (by have := hE10.size; omega) ?_; intro v11 w11 hown11 hg11; have hE11 := hE10.own hg11 hown10 (Nat.le_refl _); clear hown10 hg11 hE10)
  rw [rounds_succ]
  have hv : ∀ (m : Nat), U8 (m % 256).toUInt8 = Value.int .u8 ((m % 256 : Nat) : Int) := fun m => by
    unfold U8
    rw [Nat.toUInt8, UInt8.toNat_ofNat', show 2 ^ 8 = 256 from rfl, Nat.mod_mod]
  have hown := own_eq hown11 (ys := (endingL n).map U8) (m := (endingL n).length) (hn := by rw [HL.out]; simp [be8]; omega) (hx := by
    rw [HL.out]
    simp only [be8, List.map_cons, List.map_append, List.map_nil, List.map_replicate, hv, List.nil_append, List.cons_append, List.append_assoc]
    rw [show U8 128 = .int .u8 128 from rfl, show U8 0 = .int .u8 0 from rfl]
    congr 2
    repeat (first | rfl | (refine cons_int (by omega) ?_)))
  have hcv := Tryd.str hown
  clear hown hown11 HL hv z1 z2
  go_wp2
  go_ret
  exact ⟨rfl, hE11⟩

/-- The padded text. -/
theorem pad_sha (s : List UInt8) (w : World) (hs : s.length ≤ 1000000) : Calls Tryd.prog 122 #[.string (ofL s)] w fun e w' => e = .returned (.string (ofL (shaPad s))) ∧ Ext w w' := by
  have hsz : (ofL s).size = s.length := size_ofL s
  have hp : ofL s ++ ofL (endingL s.length) = ofL (shaPad s) := ofL_append _ _
  have HP := Lib.hid hp; clear hp
  have hb : (endingL s.length).length ≤ 72 := by rw [length_endingL]; omega
  go_enter Tryd.func122, Tryd.ntmps122
  go_wp2_with ((with_reducible refine (ending_any _ _ (by omega)).mono ?_); rintro e w' ⟨rfl, hE⟩)
  go_ret
  exact ⟨ret_str HP.out, hE⟩
end Go.Proofs.YtmnpbpfeoackiaaDoor
