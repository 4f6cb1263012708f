/-
  The statements on bundles: the chapter's example. Condition: the library's variable errors.errorType holds the type of error.
-/
import Derived.Test.YtmnpbpfeoackiaaDoorMgD
import Derived.Test.YtmnpbpfeoackiaaDoorMgE
import Derived.Test.YtmnpbpfeoackiaaDoorHo8
namespace Go.Proofs.YtmnpbpfeoackiaaDoor
open Go.RowKit

def oneA : TokA := ⟨[97], tagL, none, 0, []⟩
def oneS : List UInt8 := 35 :: ([1, 97, 0] ++ tagL) ++ [0]
theorem bput_one : bunPutR oneA.plain [] = (oneS, 0) := by rfl
theorem bsize_one : bunSize oneA.plain [] = 37 := by rfl
theorem bget_one : bunGetR oneS = ((oneA.plain, []), 0) := by
  have h := bunGet_put (t := oneA.plain) (m := []) (by rw [bput_one])
  rw [bput_one] at h
  exact h
theorem rdt_nil (w : World) (B : Nat) : RdToks w B (.slice none 0 0) [] := ⟨⟨none, 0, rfl, by decide, rfl, fun h => absurd h (by decide)⟩, fun t ht => by cases ht⟩

set_option maxRecDepth 100000 in
set_option maxHeartbeats 2000000 in
theorem bu_works (w : World) (hT : ErrT w) : Calls Tryd.prog 21 #[] w fun e w' => e = .returned (.bool true) ∧ Ext w w' := by
  obtain ⟨G, hG⟩ : ∃ G : ByteArray, G = ⟨#[48, 49, 50, 51, 52, 53, 54, 55, 56, 57, 97, 98, 99, 100, 101, 102, 48, 49, 50, 51, 52, 53, 54, 55, 56, 57, 97, 98, 99, 100, 101, 102]⟩ := ⟨_, rfl⟩
  obtain ⟨S, hS⟩ : ∃ S, oneS = S := ⟨_, rfl⟩
  obtain ⟨W, hW, E0, A0⟩ : ∃ W, w.alloc (.cells #[.string ⟨#[97]⟩, .slice none 0 0, .string ⟨#[48, 49, 50, 51, 52, 53, 54, 55, 56, 57, 97, 98, 99, 100, 101, 102, 48, 49, 50, 51, 52, 53, 54, 55, 56, 57, 97, 98, 99, 100, 101, 102]⟩, .slice none 0 0] 38) = W ∧ Ext w W ∧ Arr W w.heap.size 38 [.string ⟨#[97]⟩, .slice none 0 0, .string G, .slice none 0 0] := ⟨_, rfl, (Ext.rfl' w).al _, by rw [hG]; exact Arr.new w _ [.string ⟨#[97]⟩, .slice none 0 0, .string ⟨#[48, 49, 50, 51, 52, 53, 54, 55, 56, 57, 97, 98, 99, 100, 101, 102, 48, 49, 50, 51, 52, 53, 54, 55, 56, 57, 97, 98, 99, 100, 101, 102]⟩, .slice none 0 0]⟩
  have HW := Kp.mk hW
  have hgl : ofL oneA.tag = G := by rw [hG]; rfl
  have hsl : (ofL S).size = 37 := by rw [size_ofL, ← hS]; rfl
  have cP := fun (W' : World) (h : ErrT W') => buput_any oneA none 0 [] W' h (rd_nil _ _) (rdt_nil _ _) (by show 32 ≤ 10000; omega) (fun d hd => by cases hd) (by show 0 ≤ 10000; omega)
  have cG := fun W' => buget_any S W' (by rw [← hS]; show 37 ≤ 1000000; omega)
  rw [show bunGetR S = ((oneA.plain, []), 0) by rw [← hS]; exact bget_one] at cG
  have cS := fun W' => busize_any oneA none 0 [] W' (rd_nil _ _) (rdt_nil _ _) (by show 0 ≤ 10000; omega)
  have cE := fun (A : Option Addr) (c : Nat) (Am : Option Addr) (cm : Nat) (ts : List TokA) (W' : World) (h1 : RdLinks W' W'.heap.size (.slice A 0 c) []) (h2 : RdToks W' W'.heap.size (.slice Am 0 cm) ts) (h3 : ts.map TokA.plain = []) => (sameBundle_any [97] oneA.tag [97] oneA.tag (.slice none 0 0) (.slice A 0 c) (.slice none 0 0) (.slice Am 0 cm) [] [] [] ts W' (rd_nil _ _) h1 (rdt_nil _ _) h2).mono (R' := fun e w' => e = .returned (.bool true) ∧ Ext W' w') (fun e w' ⟨b, h4, h5, h6⟩ => ⟨by rw [h4, h5.2 ⟨rfl, h3.symm⟩], h6⟩)
  simp only [List.map_nil, bput_one, bsize_one, hS] at cP cS
  unfold BunGot at cG
  unfold bunV at cP cG cS cE
  rw [hgl] at cE
  simp only [show oneA.plain.tag = oneA.tag from rfl, hgl, show oneA.plain.id = [97] from rfl, show oneA.id = [97] from rfl, show oneA.plain.links = [] from rfl, show oneA.l = [] from rfl, show oneA.A = none from rfl, show oneA.c = 0 from rfl, List.length_nil, show ofL [97] = ⟨#[97]⟩ from rfl] at cP cG cS cE
  replace cP := Kp.mk cP; replace cG := Kp.mk cG; replace cS := Kp.mk cS; replace cE := Kp.mk cE
  have b0 := A0.cell 0; have b1 := A0.cell 1; have b2 := A0.cell 2; have b3 := A0.cell 3
  simp only [List.getElem?_cons_zero, List.getElem?_cons_succ] at b0 b1 b2 b3
  clear hW hS hG hgl
  go_enter Tryd.func21, Tryd.ntmps21
  go_upto_region 2 with fail
  rw [HW.out]
  clear HW
  go_wp2_with fail
  refine (cP.out _ (hT.ext E0)).mono ?_
  rintro e w1 ⟨rfl, E1⟩
  have F1 := E0.tr E1
  have A1 := A0.ext E1 A0.lt
  clear A0 E0 E1 b0 b1 b2 b3 cP
  go_wp2_with fail
  refine (cG.out _).mono ?_
  rintro e w2 ⟨Av, cv, Am, cm, ts, rfl, hrl, hrt, hts, E2⟩
  have F2 := F1.tr E2
  have A2 := A1.ext E2 A1.lt
  replace hts := Kp.mk hts
  clear A1 F1 E2 cG
  obtain ⟨V, hV, EV, DV⟩ : ∃ V, w2.alloc (.cells #[.string ⟨#[97]⟩, .slice Av 0 cv, .string G, .slice Am 0 cm] 38) = V ∧ Ext w2 V ∧ Arr V w2.heap.size 38 [.string ⟨#[97]⟩, .slice Av 0 cv, .string G, .slice Am 0 cm] := ⟨_, rfl, (Ext.rfl' w2).al _, Arr.new w2 _ [.string ⟨#[97]⟩, .slice Av 0 cv, .string G, .slice Am 0 cm]⟩
  have F3 := F2.tr EV
  have A3 := A2.ext EV A2.lt
  have cE2 := Kp.mk (cE.out Av cv Am cm ts V (rd_at hrl EV) (hrt.at EV) hts.out)
  have HV := Kp.mk hV
  clear hV A2 F2 EV hrl hrt cE hts
  go_upto_region 4 with fail
  rw [HV.out]
  clear HV
  have b0 := A3.cell 0; have b1 := A3.cell 1; have b2 := A3.cell 2; have b3 := A3.cell 3
  have d0 := DV.cell 0; have d1 := DV.cell 1; have d2 := DV.cell 2; have d3 := DV.cell 3
  simp only [List.getElem?_cons_zero, List.getElem?_cons_succ] at b0 b1 b2 b3 d0 d1 d2 d3
  go_wp2_with fail
  refine cE2.out.mono ?_
  rintro e w5 ⟨rfl, E5⟩
  have F5 := F3.tr E5
  have A5 := A3.ext E5 A3.lt
  clear b0 b1 b2 b3 d0 d1 d2 d3 A3 F3 E5 DV cE2
  have b0 := A5.cell 0; have b1 := A5.cell 1; have b2 := A5.cell 2; have b3 := A5.cell 3
  simp only [List.getElem?_cons_zero, List.getElem?_cons_succ] at b0 b1 b2 b3
  go_wp2_with fail
  refine (cS.out _).mono ?_
  rintro e w6 ⟨rfl, E6⟩
  go_wp2
  go_ret
  exact ⟨rfl, F5.tr E6⟩
end Go.Proofs.YtmnpbpfeoackiaaDoor
