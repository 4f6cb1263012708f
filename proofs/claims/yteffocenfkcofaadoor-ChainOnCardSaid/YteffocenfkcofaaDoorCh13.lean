/-
  Chapter 34's laws with their arguments as the rows hand them. Condition: the package's table holds the constants.
-/
import Derived.Test.YteffocenfkcofaaDoorCh12
import Derived.Test.YteffocenfkcofaaDoorTok
import Derived.ProofKit
namespace Go.Proofs.YteffocenfkcofaaDoor
open Go.RowKit Go.ChangeShapes Go.WideShapes
open Go.ChangeMaps (open_string)

theorem chainMakes_walk2 (a b : ByteArray) (x : LinkL) (w : World) (hT : Tab w) (_ha : a.size ≤ maxLen) (_hb : b.size ≤ maxLen) (_ : True) : Calls Tryd.prog 7 #[.string a, .string b, linkV x] w fun e w' => e = .returned (.bool true) ∧ Ext w w' := by
  have q := chainMakes_walk (toL a) (toL b) x w hT
  rw [ofL_toL, ofL_toL] at q
  exact q
theorem chainTags_walk2 (a : ByteArray) (t : TokA) (w : World) (hT : Tab w) (_ha : a.size ≤ maxLen) (ht : TokOk w t) : Calls Tryd.prog 4 #[.string a, tokAV t] w fun e w' => e = .returned (.bool true) ∧ Ext w w' := by
  have q := chainTags_walk (toL a) t.id t.tag _ t.l w hT ht.1
  rw [ofL_toL] at q
  exact q
theorem wf_u8 {n : Int} (h : (Lit.int .u8 n).wf = true) : ∃ m : Nat, n = m ∧ m < 256 := by
  have h1 : IntKind.u8.min = 0 := rfl
  have h2 : IntKind.u8.max = 255 := rfl
  simp only [Lit.wf, Bool.and_eq_true, decide_eq_true_eq] at h
  exact ⟨n.toNat, by omega, by omega⟩
theorem chainOn_walk2 (a : ByteArray) (t : TokA) (n : Int) (w : World) (hT : Tab w) (_ha : a.size ≤ maxLen) (ht : TokOk w t) (hn : (Lit.int .u8 n).wf = true) : Calls Tryd.prog 6 #[.string a, tokAV t, .int .u8 n] w fun e w' => e = .returned (.bool true) ∧ Ext w w' := by
  obtain ⟨m, rfl, hm⟩ := wf_u8 hn
  have q := chainOn_walk (toL a) t.id t.tag t.A t.c t.l m w hT ht.1 ht.2 hm
  rw [ofL_toL] at q
  exact q
/-- Two strings. -/
def pairV (s : List UInt8 × List UInt8) : Value := .agg #[.string (ofL s.1), .string (ofL s.2)]
set_option maxRecDepth 100000 in
theorem pair_open {H : Type} {enc : TypeId × Value → H} {W : World} {r : Reach} {b0 : Nat} {v : Value} {d : DataW H} {ps : List MemPlace}
    (hv : Value.okWide Tryd.prog W r b0 22 v) (h : DataW.Trod enc Tryd.prog W 0 (fun _ => true) true 22 v d ps) : ∃ s, v = pairV s ∧ True := by
  have hct : Tryd.prog.cellsOf 22 = 2 := by kernel_rfl
  have hce : Tryd.prog.cellsOf 9 = 1 := by kernel_rfl
  obtain ⟨cs, rfl, hsz⟩ : ∃ cs, v = .agg cs ∧ cs.size = 2 := by
    simp only [Value.okWide, Tryd.underlying22] at hv
    obtain ⟨cs, h1, h2, _⟩ := hv
    exact ⟨cs, h1, h2.trans hct⟩
  obtain ⟨fuel, hf⟩ := h
  obtain ⟨xs, m, _, _, _, hxl, hel⟩ := DataW.trod_array Tryd.underlying22 hf
  have each : ∀ i, i < 2 → ∃ x : List UInt8, cs[i]? = some (.string (ofL x)) := fun i hi => by
    have h1 := hel i hi
    rw [hce, List.getElem?_eq_getElem (by omega)] at h1
    obtain ⟨n, h2, _, _⟩ := DataW.trod_string Tryd.underlying9 h1
    have h3 : cs.toList[i]? = some (.string n) := by
      have := congrArg (·[0]?) h2
      simpa [List.getElem?_take, List.getElem?_drop, Value.cells] using this
    rw [Array.getElem?_toList] at h3
    exact ⟨toL n, by rw [h3, ofL_toL]⟩
  obtain ⟨x0, k0⟩ := each 0 (by omega)
  obtain ⟨x1, k1⟩ := each 1 (by omega)
  refine ⟨⟨x0, x1⟩, ?_, trivial⟩
  unfold pairV
  congr 1
  apply Array.ext_getElem?
  intro i
  match i with
  | 0 => exact k0
  | 1 => exact k1
  | i + 2 => rw [Array.getElem?_eq_none (by omega), Array.getElem?_eq_none (by simp)]
theorem chainApart_walk2 (k : List UInt8 × List UInt8) (a b : TokA) (w : World) (hT : Tab w) (_ : True) (ha : TokOk w a) (hb : TokOk w b) : Calls Tryd.prog 5 #[pairV k, tokAV a, tokAV b] w fun e w' => e = .returned (.bool true) ∧ Ext w w' :=
  chainApart_walk k.1 k.2 a.id a.tag b.id b.tag a.A b.A a.c b.c a.l b.l w hT ha.1 hb.1
end Go.Proofs.YteffocenfkcofaaDoor
