/-
  A bundle as an argument. No condition.
-/
import Derived.Test.YtejhiekikblbiaaGreatDoorGenB
import Derived.Test.YtejhiekikblbiaaGreatDoorMgI
import Derived.OpenShut
import Derived.ProofKit
namespace Go.Proofs.YtejhiekikblbiaaGreatDoor
open Go.RowKit Go.ChangeShapes Go.WideShapes Go.Deep

set_option maxRecDepth 100000 in
theorem tokCells_open {H : Type} {enc : TypeId × Value → H} {W : World} {n : Nat} {cs : List Value} {x : DataW H × List MemPlace} (hx : DataW.trod enc Tryz.prog W 0 (fun _ => true) true n 33 cs = some x) : ∃ t : TokA, cs = tokCells t ∧ TokOk W t := by
  obtain ⟨hl, hf⟩ := trod_cells Tryz.underlying33 (by kernel_rfl) (by kernel_rfl) hx
  obtain ⟨_, v0, _, k0, h0⟩ := hf 0 _ rfl
  obtain ⟨_, v1, _, k1, h1⟩ := hf 1 _ rfl
  obtain ⟨_, v2, _, k2, h2⟩ := hf 2 _ rfl
  obtain ⟨s, e0, _, _⟩ := DataW.trod_string Tryz.underlying9 h0
  obtain ⟨t, e2, _, _⟩ := DataW.trod_string Tryz.underlying9 h2
  obtain rfl : v0 = .string s := by simpa using e0
  obtain rfl : v2 = .string t := by simpa using e2
  obtain ⟨k, css, hrd, ⟨A, c, rfl, hcap⟩, hlen, _, hall⟩ := open_rdT Tryz.underlying31 2 (by kernel_rfl) (by omega) (fun cs => ∃ x : LinkL, cs = [.string (ofL x.1), .string (ofL x.2)] ∧ True) (fun n cs x hx => linkCells_open hx) h1
  obtain ⟨l, rfl, _⟩ := list_choose (g := fun x : LinkL => [Value.string (ofL x.1), Value.string (ofL x.2)]) css (fun cs hcs => (hall cs hcs).2)
  rw [List.length_map] at hlen
  subst hlen
  rw [flat_links] at hrd
  refine ⟨⟨toL s, toL t, A, c, l⟩, ?_, hrd, hcap⟩
  unfold tokCells
  rw [ofL_toL, ofL_toL]
  match cs, hl, k0, k1, k2 with
  | [a, b, d], _, k0, k1, k2 => simp at k0 k1 k2; rw [k0, k1, k2]
theorem flat_toks : ∀ l : List TokA, (l.map tokCells).flatten = toksCells l
  | [] => rfl
  | x :: l => by rw [List.map_cons, List.flatten_cons, flat_toks l]; rfl
set_option maxRecDepth 100000 in
theorem bun_open {H : Type} {enc : TypeId × Value → H} {W : World} {r : Reach} {b0 : Nat} {v : Value} {d : DataW H} {ps : List MemPlace} (hv : Value.okWide Tryz.prog W r b0 41 v) (h : DataW.Trod enc Tryz.prog W 0 (fun _ => true) true 41 v d ps) :
    ∃ (t : TokA) (Am : Option Addr) (cm : Nat) (more : List TokA), v = bunV t.id (.slice t.A t.l.length t.c) t.tag (.slice Am more.length cm) ∧ TokOk W t ∧ Rd W W.heap.size 3 (.slice Am more.length cm) more.length (toksCells more) ∧ ∀ x ∈ more, TokOk W x := by
  have hct : Tryz.prog.cellsOf 41 = 4 := by kernel_rfl
  have hck : Tryz.prog.cellsOf 33 = 3 := by kernel_rfl
  have hcm : Tryz.prog.cellsOf 39 = 1 := by kernel_rfl
  obtain ⟨cs, rfl, hsz⟩ : ∃ cs, v = .agg cs ∧ cs.size = 4 := by
    simp only [Value.okWide, Tryz.underlying41] at hv
    obtain ⟨cs, h1, h2, _⟩ := hv
    exact ⟨cs, h1, h2.trans hct⟩
  obtain ⟨fuel, hf⟩ := h
  obtain ⟨xs, m, _, _, hl, hxl, hx⟩ := DataW.trod_struct Tryz.underlying41 hf
  have k0 : DataW.trod enc Tryz.prog W 0 (fun _ => true) true m 33 (List.take (Tryz.prog.cellsOf 33) (List.drop 0 (Value.agg cs).cells.toList)) = xs[0]? := hx 0 _ rfl
  have k1 : DataW.trod enc Tryz.prog W 0 (fun _ => true) true m 39 (List.take (Tryz.prog.cellsOf 39) (List.drop 3 (Value.agg cs).cells.toList)) = xs[1]? := hx 1 _ rfl
  rw [hck] at k0
  rw [hcm] at k1
  have hxs : xs.length = 2 := hxl
  rw [List.getElem?_eq_getElem (by omega)] at k0 k1
  obtain ⟨t, ht, hok⟩ := tokCells_open k0
  have hcl : cs.toList.length = 4 := by rw [Array.length_toList]; exact hsz
  obtain ⟨c0, c1, c2, c3, hcs⟩ : ∃ c0 c1 c2 c3, cs.toList = [c0, c1, c2, c3] := by
    match h4 : cs.toList, hcl with
    | [c0, c1, c2, c3], _ => exact ⟨c0, c1, c2, c3, rfl⟩
  have hval : (Value.agg cs).cells.toList = [c0, c1, c2, c3] := hcs
  rw [hval] at ht k1
  have ht : [c0, c1, c2] = tokCells t := ht
  obtain ⟨n, css, hrd, ⟨Am, cm, hc3, hcap⟩, hlen, _, hall⟩ := open_rdT Tryz.underlying39 3 (by kernel_rfl) (by omega) (fun cs => ∃ t : TokA, cs = tokCells t ∧ TokOk W t) (fun n cs x hx => tokCells_open hx) (show DataW.trod enc Tryz.prog W 0 (fun _ => true) true m 39 [c3] = some _ from k1)
  obtain ⟨ts, rfl, h5⟩ := list_choose (g := tokCells) css (fun c hc => (hall c hc).2)
  rw [List.length_map] at hlen
  subst hlen
  rw [flat_toks] at hrd
  subst hc3
  refine ⟨t, Am, cm, ts, ?_, hok, hrd, h5⟩
  unfold bunV
  have e0 := ht
  unfold tokCells at e0
  have e1 := (List.cons.inj e0).1
  have e2 := (List.cons.inj (List.cons.inj e0).2).1
  have e3 := (List.cons.inj (List.cons.inj (List.cons.inj e0).2).2).1
  congr 1
  apply Array.toList_inj.1
  rw [hcs, e1, e2, e3]
end Go.Proofs.YtejhiekikblbiaaGreatDoor
