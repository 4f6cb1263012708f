/-
  Packages ring, plan, record, bound: the image of the state that holds nothing. No condition.
-/
import Derived.Test.YtmnpbpfeoackiaaBg1
namespace Go.Proofs.Ytmnpbpfeoackiaa
open Go.RowKit

theorem from_zero (w : World) : Calls Try.prog 49 #[.int .i64 0, .int .i64 0] w fun e w' => e = .returned (.bool true) ∧ Ext w w' := by
  go_enter Try.func49, Try.ntmps49
  go_wp2
  go_ret
  exact ⟨rfl, Ext.rfl' _⟩
theorem rises_none (f : Value) (w : World) : Calls Try.prog 51 #[.slice none 0 0, f] w fun e w' => e = .returned (.bool true) ∧ Ext w w' := by
  go_enter Try.func51, Try.ntmps51
  go_wp2_with fail
  go_loopw [5] (fun i wr => i = .int .i64 1 ∧ wr = w) (fun _ _ => 0)
  case atStart => exact ⟨rfl, rfl⟩
  case round =>
    obtain ⟨rfl, rfl⟩ := hrel
    go_wp2
    go_ret
    exact ⟨rfl, Ext.rfl' _⟩
set_option maxRecDepth 100000 in
theorem right_zero (w : World) : Calls Try.prog 36 #[.agg #[.slice none 0 0, .int .i64 0]] w fun e w' => e = .returned (.bool true) ∧ Ext w w' := by
  obtain ⟨W, hW, E0, A0⟩ : ∃ W, w.alloc (.cells #[.slice none 0 0, .int .i64 0] 26) = W ∧ Ext w W ∧ Arr W w.heap.size 26 [.slice none 0 0, .int .i64 0] := ⟨_, rfl, (Ext.rfl' w).al _, Arr.new w _ [.slice none 0 0, .int .i64 0]⟩
  have HW := Kp.mk hW
  have a0 := A0.cell 0; have a1 := A0.cell 1
  simp only [List.getElem?_cons_zero, List.getElem?_cons_succ] at a0 a1
  clear hW
  go_enter Try.func36, Try.ntmps36
  go_upto_region 1 with fail
  rw [HW.out]
  clear HW
  go_wp2_with fail
  refine (from_zero _).mono ?_
  rintro e w1 ⟨rfl, E1⟩
  have A1 := A0.ext E1 A0.lt
  have F1 := E0.tr E1
  clear A0 E0 E1 a0 a1
  have a0 := A1.cell 0; have a1 := A1.cell 1
  simp only [List.getElem?_cons_zero, List.getElem?_cons_succ] at a0 a1
  go_wp2_with fail
  go_loopw [18] (fun i wr => i = .int .i64 0 ∧ wr = w1) (fun _ _ => 0)
  case atStart => exact ⟨rfl, rfl⟩
  case round =>
    obtain ⟨rfl, rfl⟩ := hrel
    go_wp2_with fail
    refine (rises_none _ _).mono ?_
    rintro e w2 ⟨rfl, E2⟩
    go_wp2
    go_ret
    exact ⟨rfl, F1.tr E2⟩

/-- The one change that makes the state. -/
def evV : Value := .agg #[.int .i64 4, .string ⟨#[]⟩, .int .i64 0, .int .i64 0, .string ⟨#[]⟩]
def evC : List Value := [.int .i64 4, .string ⟨#[]⟩, .int .i64 0, .int .i64 0, .string ⟨#[]⟩]
set_option maxRecDepth 100000 in
theorem Try.elemEvt : Elem Try.prog 48 71 (.agg #[.int .i64 0, .string ⟨#[]⟩, .int .i64 0, .int .i64 0, .string ⟨#[]⟩]) 5 56 :=
  ⟨Try.underlying48, info_parts (by kernel_rfl), rfl, by decide⟩
theorem oneCell_ev : ∀ u ∈ evC, u.oneCell' = true := by
  intro u hu
  simp [evC] at hu
  rcases hu with rfl | rfl | rfl | rfl <;> rfl
set_option maxRecDepth 100000 in
theorem image_zero (w : World) : Calls Try.prog 23 #[.agg #[.slice none 0 0, .int .i64 0]] w fun e w' => ∃ v, e = .returned v ∧ w'.ownsRow w.heap.size 71 5 v 1 evC ∧ Ext w w' := by
  obtain ⟨W, hW, E0, A0⟩ : ∃ W, w.alloc (.cells #[.slice none 0 0, .int .i64 0] 26) = W ∧ Ext w W ∧ Arr W w.heap.size 26 [.slice none 0 0, .int .i64 0] := ⟨_, rfl, (Ext.rfl' w).al _, Arr.new w _ [.slice none 0 0, .int .i64 0]⟩
  have HW := Kp.mk hW
  have a0 := A0.cell 0; have a1 := A0.cell 1
  simp only [List.getElem?_cons_zero, List.getElem?_cons_succ] at a0 a1
  clear hW
  go_enter Try.func23, Try.ntmps23
  go_upto_region 1 with fail
  rw [HW.out]
  clear HW
  go_wp2_with fail
  refine (right_zero _).mono ?_
  rintro e w1 ⟨rfl, E1⟩
  have A1 := A0.ext E1 A0.lt
  have F1 := E0.tr E1
  clear A0 E0 E1 a0 a1
  have a0 := A1.cell 0; have a1 := A1.cell 1
  simp only [List.getElem?_cons_zero, List.getElem?_cons_succ] at a0 a1
  go_wp2_with fail
  go_loopw [14, 3] (fun i o wr => i = .int .i64 0 ∧ o = .slice none 0 0 ∧ wr = w1) (fun _ _ _ => 0)
  case atStart => exact ⟨rfl, rfl, rfl⟩
  case round =>
    obtain ⟨rfl, rfl, rfl⟩ := hrel
    have hsz := F1.size
    go_wp2_with (at_builtin; refine wpl_app Try.elemEvt rfl _ _ rfl (World.ownsRow_nil _ w.heap.size _ _) 1 rfl rfl rfl oneCell_ev (by omega) (by omega) hsz ?_; intro v9 w9 own9 hg9)
    have F9 := F1.own hg9 (World.ownsRow_nil _ w.heap.size 71 5) (Nat.le_refl _)
    clear hg9
    exact bodyPost_ret (results_tmp rfl _ _ _) rfl ⟨v9, rfl, own_eq own9 rfl rfl, F9⟩
set_option maxRecDepth 100000 in
theorem form_zero (w : World) : Calls Try.prog 54 #[evV] w fun e w' => e = .returned (.bool true) ∧ Ext w w' := by
  obtain ⟨W, hW, E0, A0⟩ : ∃ W, w.alloc (.cells #[.int .i64 4, .string ⟨#[]⟩, .int .i64 0, .int .i64 0, .string ⟨#[]⟩] 71) = W ∧ Ext w W ∧ Arr W w.heap.size 71 evC := ⟨_, rfl, (Ext.rfl' w).al _, Arr.new w _ evC⟩
  have HW := Kp.mk hW
  have a0 := A0.cell 0; have a1 := A0.cell 1; have a2 := A0.cell 2; have a3 := A0.cell 3; have a4 := A0.cell 4
  simp only [evC, List.getElem?_cons_zero, List.getElem?_cons_succ] at a0 a1 a2 a3 a4
  clear hW
  unfold evV
  go_enter Try.func54, Try.ntmps54
  go_upto_region 1 with fail
  rw [HW.out]
  clear HW
  go_wp2_with fail
  refine (from_zero _).mono ?_
  rintro e w1 ⟨rfl, E1⟩
  have A1 := A0.ext E1 A0.lt
  have F1 := E0.tr E1
  clear A0 E0 E1 a0 a1 a2 a3 a4
  have a4 := A1.cell 4
  simp only [evC, List.getElem?_cons_zero, List.getElem?_cons_succ] at a4
  go_wp2
  go_ret
  exact ⟨rfl, F1⟩

theorem join_nil (xs : List (List UInt8)) : Lib.join xs [] = xs.flatten := by
  unfold Lib.join
  induction xs with
  | nil => rfl
  | cons a l ih =>
    cases l with
    | nil => simp
    | cons b l => simp [List.intercalate, List.intersperse] at ih ⊢; rw [ih]
def recL : List UInt8 := [4, 0, 0, 0, 0]
set_option maxRecDepth 100000 in
theorem joined_any (b c : Nat) (xs : List (List UInt8)) (w : World) (hcells : ∀ (j : Nat) x, xs[j]? = some x → w.cell? ⟨b, j, none⟩ = some (.string (ofL x))) (hb : b < w.heap.size) (hc : xs.length ≤ c) (hl : xs.length ≤ 1000) (hlen : xs.flatten.length ≤ 1000000) :
    Calls Try.prog 40 #[.slice (some ⟨b, 0, none⟩) xs.length c] w fun e w' => e = .returned (.string (ofL xs.flatten)) ∧ Ext w w' := by
  have hmap : (xs.map ofL).map (·.data.toList) = xs := by
    rw [List.map_map]
    exact (List.map_congr_left (fun x _ => toL_ofL x)).trans (List.map_id xs)
  have hj : Lib.join ((xs.map ofL).map (·.data.toList)) (⟨#[]⟩ : ByteArray).data.toList = xs.flatten := by rw [hmap]; exact join_nil xs
  have cJ := Try.strings_Join b 0 c (xs.map ofL) ⟨#[]⟩ w (by
    intro j x hx
    rw [List.getElem?_map] at hx
    cases h : xs[j]? with
    | none => rw [h] at hx; cases hx
    | some y =>
      rw [h] at hx
      rw [Nat.zero_add, hcells j y h]
      exact congrArg (fun z => some (Value.string z)) (Option.some.inj hx)) hb (by rw [List.length_map]; omega) (by rw [List.length_map]; exact hc) (by rw [hj]; omega)
  rw [hj, List.length_map] at cJ
  replace cJ := Kp.mk cJ
  clear hmap hj hcells
  go_enter Try.func40, Try.ntmps40
  go_wp2_with fail
  refine cJ.out.mono ?_
  rintro e w1 ⟨rfl, h1⟩
  go_wp2
  exact bodyPost_ret (results_tmp rfl _ _ _) rfl ⟨rfl, h1⟩
end Go.Proofs.Ytmnpbpfeoackiaa
