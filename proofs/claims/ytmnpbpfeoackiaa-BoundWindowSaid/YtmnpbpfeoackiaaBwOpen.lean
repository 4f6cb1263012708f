/-
  A class, a list of what was asked, an array of two integers, as arguments. No condition.
-/
import Derived.Test.YtmnpbpfeoackiaaBw7
import Derived.Test.YtmnpbpfeoackiaaPost
import Derived.Test.YtmnpbpfeoackiaaRow
import Derived.Laws.IdiomArrays
import Derived.OpenShut
import Derived.ChangeArms
import Derived.Lib.SmallJoins
namespace Go.Proofs.Ytmnpbpfeoackiaa
open Go.RowKit Go.ChangeShapes Go.WideShapes

theorem trod_array2 {H : Type} {enc : TypeId × Value → H} {P : Program} {w : World} {base : Nat} {spare : Nat → Bool} {held : Bool} {t e : TypeId} {fuel : Nat} {c0 c1 : Value} {x : DataW H × List MemPlace} (ht : P.underlying t = some (.array 2 e)) (hce : P.cellsOf e = 1)
    (h : DataW.trod enc P w base spare held fuel t [c0, c1] = some x) :
    ∃ y0 y1 n, DataW.trod enc P w base spare held n e [c0] = some y0 ∧ DataW.trod enc P w base spare held n e [c1] = some y1 := by
  cases fuel with
  | zero => simp [DataW.trod] at h
  | succ n =>
    unfold DataW.trod at h
    rw [ht] at h
    have r2 : List.range 2 = [0, 1] := rfl
    simp [r2, hce] at h
    obtain ⟨_, h⟩ := h
    cases h0 : DataW.trod enc P w base spare held n e [c0] with
    | none => simp [h0] at h
    | some y0 =>
      cases h1 : DataW.trod enc P w base spare held n e [c1] with
      | none => simp [h0, h1] at h
      | some y1 => exact ⟨y0, y1, n, h0, h1⟩
section
variable {H : Type} {enc : TypeId × Value → H} {W : World}
set_option maxRecDepth 100000 in
theorem ints2_open {r : Reach} {b0 : Nat} {v : Value} {d : DataW H} {ps : List MemPlace}
    (hv : Value.okWide Try.prog W r b0 35 v) (h : DataW.Trod enc Try.prog W 0 (fun _ => true) true 35 v d ps) : ∃ a0 a1 : Int, v = .agg #[.int .i64 a0, .int .i64 a1] := by
  have hct : Try.prog.cellsOf 35 = 2 := by kernel_rfl
  have hci : Try.prog.cellsOf 3 = 1 := by kernel_rfl
  obtain ⟨cs, rfl, hsz⟩ : ∃ cs, v = .agg cs ∧ cs.size = 2 := by
    simp only [Value.okWide, Try.underlying35] at hv
    obtain ⟨cs, h1, h2, _⟩ := hv
    exact ⟨cs, h1, h2.trans hct⟩
  obtain ⟨fuel, hf⟩ := h
  have hcl : cs.toList.length = 2 := by rw [Array.length_toList]; exact hsz
  obtain ⟨c0, c1, hcs⟩ : ∃ c0 c1, cs.toList = [c0, c1] := by
    match h4 : cs.toList, hcl with
    | [c0, c1], _ => exact ⟨c0, c1, rfl⟩
  have hval : (Value.agg cs).cells.toList = [c0, c1] := hcs
  rw [hval] at hf
  obtain ⟨y0, y1, n, h0, h1⟩ := trod_array2 Try.underlying35 hci hf
  obtain ⟨k0, e0, _, _⟩ := DataW.trod_int Try.underlying3 h0
  obtain ⟨k1, e1, _, _⟩ := DataW.trod_int Try.underlying3 h1
  obtain rfl : c0 = .int .i64 k0 := by simpa using e0
  obtain rfl : c1 = .int .i64 k1 := by simpa using e1
  have e : cs = #[.int .i64 k0, .int .i64 k1] := by
    cases cs
    simp only at hcs
    rw [hcs]
  exact ⟨k0, k1, by rw [e]⟩
set_option maxRecDepth 100000 in
theorem cls_open {r : Reach} {b0 : Nat} {v : Value} {d : DataW H} {ps : List MemPlace} (hv : Value.okWide Try.prog W r b0 23 v) (h : DataW.Trod enc Try.prog W 0 (fun _ => true) true 23 v d ps) :
    ∃ (s : ByteArray) (c f : Int), v = .agg #[.string s, .int .i64 c, .int .i64 f] := by
  obtain ⟨v0, v1, v2, y0, y1, y2, n, rfl, _, _, h0, h1, h2⟩ := Joins.open_agg3 Try.underlying23 (by kernel_rfl) (by kernel_rfl) hv h
  obtain ⟨s, e0, _, _⟩ := DataW.trod_string Try.underlying9 h0
  obtain ⟨c, e1, _, _⟩ := DataW.trod_int Try.underlying3 h1
  obtain ⟨f, e2, _, _⟩ := DataW.trod_int Try.underlying3 h2
  obtain rfl : v0 = .string s := by simpa using e0
  obtain rfl : v1 = .int .i64 c := by simpa using e1
  obtain rfl : v2 = .int .i64 f := by simpa using e2
  exact ⟨s, c, f, rfl⟩
set_option maxRecDepth 100000 in
theorem askCells_open {n : Nat} {cs : List Value} {x : DataW H × List MemPlace} (hx : DataW.trod enc Try.prog W 0 (fun _ => true) true n 42 cs = some x) : ∃ x : ByteArray × ByteArray × Int, cs = [.string x.1, .string x.2.1, .int .i64 x.2.2] ∧ True := by
  obtain ⟨hl, hf⟩ := trod_cells Try.underlying42 (by kernel_rfl) (by kernel_rfl) hx
  obtain ⟨_, v0, _, k0, h0⟩ := hf 0 _ rfl
  obtain ⟨_, v1, _, k1, h1⟩ := hf 1 _ rfl
  obtain ⟨_, v2, _, k2, h2⟩ := hf 2 _ rfl
  obtain ⟨s, e0, _, _⟩ := DataW.trod_string Try.underlying9 h0
  obtain ⟨t, e1, _, _⟩ := DataW.trod_string Try.underlying9 h1
  obtain ⟨k, e2, _, _⟩ := DataW.trod_int Try.underlying3 h2
  obtain rfl : v0 = .string s := by simpa using e0
  obtain rfl : v1 = .string t := by simpa using e1
  obtain rfl : v2 = .int .i64 k := by simpa using e2
  refine ⟨(s, t, k), ?_, trivial⟩
  match cs, hl, k0, k1, k2 with
  | [a, b, c], _, k0, k1, k2 => simp at k0 k1 k2; rw [k0, k1, k2]
theorem flat_asked : ∀ l : List (ByteArray × ByteArray × Int), (l.map fun x => [Value.string x.1, Value.string x.2.1, Value.int .i64 x.2.2]).flatten = askCells l
  | [] => rfl
  | x :: l => by rw [List.map_cons, List.flatten_cons, flat_asked l]; rfl
set_option maxRecDepth 100000 in
theorem asked_open {r : Reach} {b0 : Nat} {v : Value} {d : DataW H} {ps : List MemPlace} (hv : Value.okWide Try.prog W r b0 34 v) (h : DataW.Trod enc Try.prog W 0 (fun _ => true) true 34 v d ps) :
    ∃ xs : List (ByteArray × ByteArray × Int), Rd W W.heap.size 3 v xs.length (askCells xs) ∧ xs.length ≤ maxLen := by
  obtain ⟨n, css, h1, h2, h3, h4⟩ := open_rd Try.underlying34 3 (by kernel_rfl) (by omega) (fun cs => ∃ x : ByteArray × ByteArray × Int, cs = [.string x.1, .string x.2.1, .int .i64 x.2.2] ∧ True) (fun n cs x hx => askCells_open hx) hv h
  obtain ⟨l, rfl, _⟩ := list_choose (g := fun x : ByteArray × ByteArray × Int => [Value.string x.1, Value.string x.2.1, Value.int .i64 x.2.2]) css (fun cs hcs => (h4 cs hcs).2)
  rw [List.length_map] at h2
  subst h2
  rw [flat_asked] at h1
  exact ⟨l, h1, h3⟩
end
end Go.Proofs.Ytmnpbpfeoackiaa
