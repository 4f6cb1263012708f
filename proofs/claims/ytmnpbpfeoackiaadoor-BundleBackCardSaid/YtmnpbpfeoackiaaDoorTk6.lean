/-
  The statements on tokens: the chapter's example. Condition: the library's variable errors.errorType holds the type of error.
-/
import Derived.Test.YtmnpbpfeoackiaaDoorTk3
import Derived.Test.YtmnpbpfeoackiaaDoorTk5
import Derived.Test.YtmnpbpfeoackiaaDoorCh7
namespace Go.Proofs.YtmnpbpfeoackiaaDoor
open Go.RowKit

/-- A tag of 32 bytes. -/
def tagL : List UInt8 := [48, 49, 50, 51, 52, 53, 54, 55, 56, 57, 97, 98, 99, 100, 101, 102, 48, 49, 50, 51, 52, 53, 54, 55, 56, 57, 97, 98, 99, 100, 101, 102]
theorem rd_nil (w : World) (B : Nat) : RdLinks w B (.slice none 0 0) [] := ⟨none, 0, rfl, by decide, rfl, fun h => absurd h (by decide)⟩
theorem put_one : tokPutR ⟨[97], [], tagL⟩ = ([1, 97, 0] ++ tagL, 0) := by rfl
theorem size_one : tokSize ⟨[97], [], tagL⟩ = 35 := by rfl
theorem get_one : tokGetR ([1, 97, 0] ++ tagL) = (⟨[97], [], tagL⟩, 0) := by
  have h := tokGet_put (t := ⟨[97], [], tagL⟩) (by rw [put_one])
  rw [put_one] at h
  exact h
theorem toksmall_short {id tag : List UInt8} {l : List LinkL} (h : Small id tag l) : TokShort id tag l := ⟨by have := h.1; omega, by have := h.2.1; omega, by have := h.2.2.1; omega, fun x hx => by have := h.2.2.2.1 x hx; omega⟩
theorem same_tok (t : TokL) : sameTok t.id t.tag t.links t.id t.tag t.links = true := decide_eq_true ⟨rfl, rfl, rfl⟩
theorem size_put (t : TokL) : tokSize t = if (tokPutR ⟨t.id, t.links, tagL⟩).2 = 0 then (tokPutR ⟨t.id, t.links, tagL⟩).1.length else 0 := by
  have hb : tokBad ⟨t.id, t.links, tagL⟩ = tokBad t := rfl
  unfold tokSize tokPutR
  rw [hb]
  cases tokBad t <;> simp [tagL]

set_option maxRecDepth 100000 in
set_option maxHeartbeats 2000000 in
theorem tk_works (w : World) (hT : ErrT w) : Calls Tryd.prog 13 #[] w fun e w' => e = .returned (.bool true) ∧ Ext w w' := by
  obtain ⟨W, hW, E0, A0⟩ : ∃ W, w.alloc (.cells #[.string ⟨#[97]⟩, .slice none 0 0, .string ⟨#[48, 49, 50, 51, 52, 53, 54, 55, 56, 57, 97, 98, 99, 100, 101, 102, 48, 49, 50, 51, 52, 53, 54, 55, 56, 57, 97, 98, 99, 100, 101, 102]⟩] 24) = W ∧ Ext w W ∧ Arr W w.heap.size 24 [.string ⟨#[97]⟩, .slice none 0 0, .string (ofL tagL)] := ⟨_, rfl, (Ext.rfl' w).al _, Arr.new w _ [.string ⟨#[97]⟩, .slice none 0 0, .string (ofL tagL)]⟩
  have HW := Kp.mk hW
  have cP := tkput_any [97] tagL (.slice none 0 0) [] W (hT.ext E0) (rd_nil _ _) (by show 32 ≤ 10000; omega)
  rw [put_one] at cP
  obtain ⟨S, hS⟩ : ∃ S, [1, 97, 0] ++ tagL = S := ⟨_, rfl⟩
  have cG := fun W' => tkget_any S W' (by rw [← hS]; show 35 ≤ 1000000; omega)
  rw [show tokGetR S = (⟨[97], [], tagL⟩, 0) by rw [← hS]; exact get_one] at cG
  have cG := fun W' => (cG W').mono (R' := fun e w' => ∃ A c, e = .returned (.tuple #[.agg #[.string ⟨#[97]⟩, .slice A 0 c, .string ⟨#[48, 49, 50, 51, 52, 53, 54, 55, 56, 57, 97, 98, 99, 100, 101, 102, 48, 49, 50, 51, 52, 53, 54, 55, 56, 57, 97, 98, 99, 100, 101, 102]⟩], .int .i64 0]) ∧ RdLinks w' w'.heap.size (.slice A 0 c) [] ∧ Ext W' w') (fun e w' ⟨v, h1, h2, h3⟩ => by
    obtain ⟨A, c, rfl⟩ := own_slice h2
    exact ⟨A, c, h1, own_links h2 rfl, h3⟩)
  have cS := fun W' => tksize_any [97] tagL (.slice none 0 0) [] W' (rd_nil _ _)
  rw [size_one] at cS
  have cE := fun (v : Value) (W' : World) (h : RdLinks W' W'.heap.size v []) => sameToken_any [97] tagL v [] [97] tagL (.slice none 0 0) [] W' h (rd_nil _ _)
  rw [show sameTok [97] tagL [] [97] tagL [] = true from same_tok ⟨[97], [], tagL⟩] at cE
  rw [hS] at cP
  unfold tokV at cP cS cE
  dsimp only at cP
  rw [show ofL [97] = ⟨#[97]⟩ from rfl] at cP cS cE
  have hlit : ofL S = ⟨#[1, 97, 0, 48, 49, 50, 51, 52, 53, 54, 55, 56, 57, 97, 98, 99, 100, 101, 102, 48, 49, 50, 51, 52, 53, 54, 55, 56, 57, 97, 98, 99, 100, 101, 102]⟩ := by rw [← hS]; rfl
  have hlit2 : ofL tagL = ⟨#[48, 49, 50, 51, 52, 53, 54, 55, 56, 57, 97, 98, 99, 100, 101, 102, 48, 49, 50, 51, 52, 53, 54, 55, 56, 57, 97, 98, 99, 100, 101, 102]⟩ := rfl
  rw [hlit2] at cP cS cE A0
  rw [hlit] at cP
  simp only [hlit] at cG
  have cP := Kp.mk cP; have cG := Kp.mk cG; have cS := Kp.mk cS; have cE := Kp.mk cE
  have c0 := A0.cell 0; have c1 := A0.cell 1; have c2 := A0.cell 2
  simp only [List.getElem?_cons_zero, List.getElem?_cons_succ] at c0 c1 c2
  clear hW hS hlit hlit2
  go_enter Tryd.func13, Tryd.ntmps13
  go_wp2_with fail
  rw [HW.out]
  refine cP.out.mono ?_
  rintro e w1 ⟨rfl, E1⟩
  have F1 := E0.tr E1
  have A1 := A0.ext E1 A0.lt
  clear HW A0 E0 E1 c0 c1 c2
  go_wp2_with fail
  refine (cG.out _).mono ?_
  rintro e w2 ⟨Av, cv, rfl, hrd, E2⟩
  have F2 := F1.tr E2
  have A2 := A1.ext E2 A1.lt
  clear A1 F1 E2
  obtain ⟨V, hV, EV, DV⟩ : ∃ V, w2.alloc (.cells #[.string ⟨#[97]⟩, .slice Av 0 cv, .string ⟨#[48, 49, 50, 51, 52, 53, 54, 55, 56, 57, 97, 98, 99, 100, 101, 102, 48, 49, 50, 51, 52, 53, 54, 55, 56, 57, 97, 98, 99, 100, 101, 102]⟩] 24) = V ∧ Ext w2 V ∧ Arr V w2.heap.size 24 [.string ⟨#[97]⟩, .slice Av 0 cv, .string ⟨#[48, 49, 50, 51, 52, 53, 54, 55, 56, 57, 97, 98, 99, 100, 101, 102, 48, 49, 50, 51, 52, 53, 54, 55, 56, 57, 97, 98, 99, 100, 101, 102]⟩] := ⟨_, rfl, (Ext.rfl' w2).al _, Arr.new w2 _ [.string ⟨#[97]⟩, .slice Av 0 cv, .string ⟨#[48, 49, 50, 51, 52, 53, 54, 55, 56, 57, 97, 98, 99, 100, 101, 102, 48, 49, 50, 51, 52, 53, 54, 55, 56, 57, 97, 98, 99, 100, 101, 102]⟩]⟩
  have F3 := F2.tr EV
  have A3 := A2.ext EV A2.lt
  have hrd3 := Kp.mk (rd_at hrd EV)
  have HV := Kp.mk hV
  clear hV A2 F2 EV hrd
  go_upto_region 4 with fail
  rw [HV.out]
  clear HV
  have c0 := A3.cell 0; have c1 := A3.cell 1; have c2 := A3.cell 2
  have d0 := DV.cell 0; have d1 := DV.cell 1; have d2 := DV.cell 2
  simp only [List.getElem?_cons_zero, List.getElem?_cons_succ] at c0 c1 c2 d0 d1 d2
  go_wp2_with fail
  refine (cE.out _ _ hrd3.out).mono ?_
  rintro e w5 ⟨rfl, E5⟩
  have F5 := F3.tr E5
  have A5 := A3.ext E5 A3.lt
  clear c0 c1 c2 d0 d1 d2 A3 F3 E5 DV
  have c0 := A5.cell 0; have c1 := A5.cell 1; have c2 := A5.cell 2
  simp only [List.getElem?_cons_zero, List.getElem?_cons_succ] at c0 c1 c2
  go_wp2_with fail
  refine (cS.out _).mono ?_
  rintro e w6 ⟨rfl, E6⟩
  go_wp2
  go_ret
  exact ⟨rfl, F5.tr E6⟩
end Go.Proofs.YtmnpbpfeoackiaaDoor
