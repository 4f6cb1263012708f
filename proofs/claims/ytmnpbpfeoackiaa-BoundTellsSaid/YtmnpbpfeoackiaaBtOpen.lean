/-
  A class and a state as arguments. No condition.
-/
import Derived.Test.YtmnpbpfeoackiaaBr8
import Derived.Test.YtmnpbpfeoackiaaPost
import Derived.Test.YtmnpbpfeoackiaaRow
namespace Go.Proofs.Ytmnpbpfeoackiaa
open Go.RowKit Go.ChangeShapes Go.WideShapes

section
variable {H : Type} {enc : TypeId × Value → H} {W : World}
theorem wf_le {k : Int} (h : (Lit.int .i64 k).wf = true) : k ≤ 9223372036854775807 := by
  simp only [Lit.wf, Bool.and_eq_true, decide_eq_true_eq] at h
  exact h.2
set_option maxRecDepth 100000 in
theorem clsB_open {r : Reach} {b0 : Nat} {v : Value} {d : DataW H} {ps : List MemPlace} (hv : Value.okWide Try.prog W r b0 23 v) (h : DataW.Trod enc Try.prog W 0 (fun _ => true) true 23 v d ps) :
    ∃ (s : ByteArray) (c f : Int), v = .agg #[.string s, .int .i64 c, .int .i64 f] ∧ c ≤ 9223372036854775807 ∧ f ≤ 9223372036854775807 := by
  obtain ⟨v0, v1, v2, y0, y1, y2, n, rfl, _, _, h0, h1, h2⟩ := Joins.open_agg3 Try.underlying23 (by kernel_rfl) (by kernel_rfl) hv h
  obtain ⟨s, e0, _, _⟩ := DataW.trod_string Try.underlying9 h0
  obtain ⟨c, e1, _, r1⟩ := DataW.trod_int Try.underlying3 h1
  obtain ⟨f, e2, _, r2⟩ := DataW.trod_int Try.underlying3 h2
  obtain rfl : v0 = .string s := by simpa using e0
  obtain rfl : v1 = .int .i64 c := by simpa using e1
  obtain rfl : v2 = .int .i64 f := by simpa using e2
  exact ⟨s, c, f, rfl, wf_le r1, wf_le r2⟩
set_option maxRecDepth 100000 in
theorem kyC_open {n : Nat} {cs : List Value} {x : DataW H × List MemPlace} (hx : DataW.trod enc Try.prog W 0 (fun _ => true) true n 73 cs = some x) : ∃ x : KyL, cs = kyC x ∧ True := by
  obtain ⟨hl, hf⟩ := trod_cells Try.underlying73 (by kernel_rfl) (by kernel_rfl) hx
  obtain ⟨_, v0, _, k0, h0⟩ := hf 0 _ rfl
  obtain ⟨_, v1, _, k1, h1⟩ := hf 1 _ rfl
  obtain ⟨k, e0, _, _⟩ := DataW.trod_int Try.underlying3 h0
  obtain ⟨s, e1, _, _⟩ := DataW.trod_string Try.underlying9 h1
  obtain rfl : v0 = .int .i64 k := by simpa using e0
  obtain rfl : v1 = .string s := by simpa using e1
  refine ⟨⟨k, toL s⟩, ?_, trivial⟩
  unfold kyC
  rw [ofL_toL]
  match cs, hl, k0, k1 with
  | [a, b], _, k0, k1 => simp at k0 k1; rw [k0, k1]
theorem flat_kys : ∀ l : List KyL, (l.map kyC).flatten = kysC l
  | [] => rfl
  | x :: l => by rw [List.map_cons, List.flatten_cons, flat_kys l]; rfl
set_option maxRecDepth 100000 in
theorem tnC_open {n : Nat} {cs : List Value} {x : DataW H × List MemPlace} (hx : DataW.trod enc Try.prog W 0 (fun _ => true) true n 47 cs = some x) : ∃ t : TnA, cs = tnC t ∧ RdKys W t := by
  obtain ⟨hl, hf⟩ := trod_cells Try.underlying47 (by kernel_rfl) (by kernel_rfl) hx
  obtain ⟨_, v0, _, k0, h0⟩ := hf 0 _ rfl
  obtain ⟨_, v1, _, k1, h1⟩ := hf 1 _ rfl
  obtain ⟨_, v2, _, k2, h2⟩ := hf 2 _ rfl
  obtain ⟨_, v3, _, k3, h3⟩ := hf 3 _ rfl
  obtain ⟨s, e0, _, _⟩ := DataW.trod_string Try.underlying9 h0
  obtain ⟨a, e1, _, _⟩ := DataW.trod_int Try.underlying3 h1
  obtain ⟨b, e2, _, _⟩ := DataW.trod_int Try.underlying3 h2
  obtain rfl : v0 = .string s := by simpa using e0
  obtain rfl : v1 = .int .i64 a := by simpa using e1
  obtain rfl : v2 = .int .i64 b := by simpa using e2
  obtain ⟨k, css, hrd, ⟨A, c, rfl, hcap⟩, hlen, _, hall⟩ := open_rdT Try.underlying45 2 (by kernel_rfl) (by omega) (fun cs => ∃ x : KyL, cs = kyC x ∧ True) (fun n cs x hx => kyC_open hx) h3
  obtain ⟨l, rfl, _⟩ := list_choose (g := kyC) css (fun cs hcs => (hall cs hcs).2)
  rw [List.length_map] at hlen
  subst hlen
  rw [flat_kys] at hrd
  refine ⟨⟨toL s, a, b, A, c, l⟩, ?_, hrd⟩
  unfold tnC
  rw [ofL_toL]
  match cs, hl, k0, k1, k2, k3 with
  | [a, b, d, e], _, k0, k1, k2, k3 => simp at k0 k1 k2 k3; rw [k0, k1, k2, k3]
theorem flat_tns : ∀ l : List TnA, (l.map tnC).flatten = tnsC l
  | [] => rfl
  | x :: l => by rw [List.map_cons, List.flatten_cons, flat_tns l]; rfl
set_option maxRecDepth 100000 in
theorem state_open {r : Reach} {b0 : Nat} {v : Value} {d : DataW H} {ps : List MemPlace} (hv : Value.okWide Try.prog W r b0 26 v) (h : DataW.Trod enc Try.prog W 0 (fun _ => true) true 26 v d ps) :
    ∃ (u : Value) (l : List TnA) (ser : Int), v = .agg #[u, .int .i64 ser] ∧ RdTns W u l := by
  obtain ⟨v0, v1, y0, y1, n, rfl, _, _, h0, h1⟩ := Joins.open_agg2 Try.underlying26 (by kernel_rfl) (by kernel_rfl) hv h
  obtain ⟨k, e1, _, _⟩ := DataW.trod_int Try.underlying3 h1
  obtain rfl : v1 = .int .i64 k := by simpa using e1
  obtain ⟨n, css, hrd, _, hlen, _, hall⟩ := open_rdT Try.underlying24 4 (by kernel_rfl) (by omega) (fun cs => ∃ t : TnA, cs = tnC t ∧ RdKys W t) (fun n cs x hx => tnC_open hx) h0
  obtain ⟨l, rfl, h5⟩ := list_choose (g := tnC) css (fun cs hcs => (hall cs hcs).2)
  rw [List.length_map] at hlen
  subst hlen
  rw [flat_tns] at hrd
  exact ⟨v0, l, k, rfl, hrd, h5⟩
end
end Go.Proofs.Ytmnpbpfeoackiaa
