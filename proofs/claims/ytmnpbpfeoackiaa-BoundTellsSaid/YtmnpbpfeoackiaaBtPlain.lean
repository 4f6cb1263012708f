/-
  States, changes and their texts in plain words. No program in sight.
-/
import Derived.Test.YtmnpbpfeoackiaaGen
import Derived.Test.YtmnpbpfeoackiaaName
import Derived.Test.YtmnpbpfeoackiaaFldPlain
namespace Go.Proofs.Ytmnpbpfeoackiaa
open Go.RowKit

/-- Whether it is so. -/
noncomputable def bP (p : Prop) : Bool := @decide p (Classical.propDecidable p)
theorem bP_yes {p : Prop} (h : p) : bP p = true := @decide_eq_true p (Classical.propDecidable p) h
theorem bP_no {p : Prop} (h : ¬ p) : bP p = false := @decide_eq_false p (Classical.propDecidable p) h
/-- A key. -/
structure KyL where
  num : Int
  text : List UInt8
/-- A tenant. -/
structure TnA where
  name : List UInt8
  ep : Int
  nx : Int
  A : Option Addr
  c : Nat
  keys : List KyL
def kyC (k : KyL) : List Value := [.int .i64 k.num, .string (ofL k.text)]
def kysC (l : List KyL) : List Value := l.flatMap kyC
def tnC (t : TnA) : List Value := [.string (ofL t.name), .int .i64 t.ep, .int .i64 t.nx, .slice t.A t.keys.length t.c]
def tnsC (l : List TnA) : List Value := l.flatMap tnC
def kyV (k : KyL) : Value := .agg #[.int .i64 k.num, .string (ofL k.text)]
def tnV (t : TnA) : Value := .agg #[.string (ofL t.name), .int .i64 t.ep, .int .i64 t.nx, .slice t.A t.keys.length t.c]
theorem kysC_cons (x : KyL) (l : List KyL) : kysC (x :: l) = .int .i64 x.num :: .string (ofL x.text) :: kysC l := rfl
theorem tnsC_cons (x : TnA) (l : List TnA) : tnsC (x :: l) = .string (ofL x.name) :: .int .i64 x.ep :: .int .i64 x.nx :: .slice x.A x.keys.length x.c :: tnsC l := rfl
theorem kysC_get : ∀ (l : List KyL) (k : Nat) (x : KyL), l[k]? = some x → (kysC l)[k * 2]? = some (.int .i64 x.num) ∧ (kysC l)[k * 2 + 1]? = some (.string (ofL x.text))
  | [], k, x, h => by simp at h
  | y :: l, 0, x, h => by
    obtain rfl : y = x := by simpa using h
    exact ⟨rfl, rfl⟩
  | y :: l, k + 1, x, h => by
    have ih := kysC_get l k x (by simpa using h)
    rw [show (k + 1) * 2 = k * 2 + 1 + 1 by omega, kysC_cons]
    simp only [List.getElem?_cons_succ]
    exact ih
theorem tnsC_get : ∀ (l : List TnA) (k : Nat) (x : TnA), l[k]? = some x → (tnsC l)[k * 4]? = some (.string (ofL x.name)) ∧ (tnsC l)[k * 4 + 1]? = some (.int .i64 x.ep) ∧ (tnsC l)[k * 4 + 2]? = some (.int .i64 x.nx) ∧ (tnsC l)[k * 4 + 3]? = some (.slice x.A x.keys.length x.c)
  | [], k, x, h => by simp at h
  | y :: l, 0, x, h => by
    obtain rfl : y = x := by simpa using h
    exact ⟨rfl, rfl, rfl, rfl⟩
  | y :: l, k + 1, x, h => by
    have ih := tnsC_get l k x (by simpa using h)
    rw [show (k + 1) * 4 = k * 4 + 1 + 1 + 1 + 1 by omega, tnsC_cons]
    simp only [List.getElem?_cons_succ]
    exact ih
def RdKys (w : World) (t : TnA) : Prop := Rd w w.heap.size 2 (.slice t.A t.keys.length t.c) t.keys.length (kysC t.keys)
def RdTns (w : World) (v : Value) (l : List TnA) : Prop := Rd w w.heap.size 4 v l.length (tnsC l) ∧ ∀ t ∈ l, RdKys w t
theorem RdKys.at {w W : World} {t : TnA} (h : RdKys w t) (hE : Ext w W) : RdKys W t := rd_at h hE
theorem RdTns.at {w W : World} {v : Value} {l : List TnA} (h : RdTns w v l) (hE : Ext w W) : RdTns W v l := ⟨rd_at h.1 hE, fun t ht => (h.2 t ht).at hE⟩
theorem RdKys.cells {w : World} {t : TnA} (h : RdKys w t) : 0 < t.keys.length → ∃ b off, t.A = some ⟨b, off, none⟩ ∧ b < w.heap.size ∧ ∀ k x, t.keys[k]? = some x → ∀ W, Ext w W → W.cell? ⟨b, off + k * 2, none⟩ = some (.int .i64 x.num) ∧ W.cell? ⟨b, off + k * 2 + 1, none⟩ = some (.string (ofL x.text)) := by
  obtain ⟨A, c, he, hn, hl, hc⟩ := h
  cases he
  intro h0
  obtain ⟨b, off, hA, hb, hcell⟩ := hc h0
  refine ⟨b, off, hA, hb, fun k x hx W hW => ?_⟩
  obtain ⟨g0, g1⟩ := kysC_get _ k x hx
  exact ⟨((bcell hW).1 b _ hb).trans (hcell _ _ g0), ((bcell hW).1 b _ hb).trans (by rw [Nat.add_assoc]; exact hcell _ _ g1)⟩
theorem RdTns.cells {w : World} {v : Value} {l : List TnA} (h : RdTns w v l) : ∃ A c, v = .slice A l.length c ∧ l.length ≤ 9223372036854775807 ∧ (0 < l.length → ∃ b off, A = some ⟨b, off, none⟩ ∧ b < w.heap.size ∧ ∀ k x, l[k]? = some x → ∀ W, Ext w W → W.cell? ⟨b, off + k * 4, none⟩ = some (.string (ofL x.name)) ∧ W.cell? ⟨b, off + k * 4 + 1, none⟩ = some (.int .i64 x.ep) ∧ W.cell? ⟨b, off + k * 4 + 2, none⟩ = some (.int .i64 x.nx) ∧ W.cell? ⟨b, off + k * 4 + 3, none⟩ = some (.slice x.A x.keys.length x.c)) := by
  obtain ⟨A, c, rfl, hn, hl, hc⟩ := h.1
  refine ⟨A, c, rfl, hn, fun h0 => ?_⟩
  obtain ⟨b, off, hA, hb, hcell⟩ := hc h0
  refine ⟨b, off, hA, hb, fun k x hx W hW => ?_⟩
  obtain ⟨g0, g1, g2, g3⟩ := tnsC_get _ k x hx
  refine ⟨((bcell hW).1 b _ hb).trans (hcell _ _ g0), ((bcell hW).1 b _ hb).trans ?_, ((bcell hW).1 b _ hb).trans ?_, ((bcell hW).1 b _ hb).trans ?_⟩
  · rw [Nat.add_assoc]; exact hcell _ _ g1
  · rw [Nat.add_assoc]; exact hcell _ _ g2
  · rw [Nat.add_assoc]; exact hcell _ _ g3

/-- Whether a number is from a first one on, and not too great. -/
def FromP (n m : Int) : Prop := m ≤ n ∧ n ≤ 1099511627776
def KeyP (nx : Int) (k : KyL) : Prop := 1 ≤ k.num ∧ k.num < nx ∧ k.text.length = 32
def RisesK (l : List KyL) : Prop := ∀ (k : Nat) (x y : KyL), l[k]? = some x → l[k + 1]? = some y → x.num < y.num
def RightT (t : TnA) : Prop := wordL t.name = true ∧ FromP t.ep 0 ∧ FromP t.nx 1 ∧ t.keys.length ≤ 8 ∧ (∀ (k : Nat) (x : KyL), t.keys[k]? = some x → KeyP t.nx x) ∧ RisesK t.keys
def RisesT (l : List TnA) : Prop := ∀ (k : Nat) (x y : TnA), l[k]? = some x → l[k + 1]? = some y → cmpL x.name y.name < 0
def RightS (l : List TnA) (ser : Int) : Prop := l.length ≤ 16 ∧ FromP ser 0 ∧ (∀ (k : Nat) (t : TnA), l[k]? = some t → RightT t) ∧ RisesT l
theorem less_cmp : ∀ a b : List UInt8, Op.bytesLess a b = decide (cmpL a b < 0)
  | [], [] => rfl
  | [], _ :: _ => rfl
  | _ :: _, [] => rfl
  | a :: r, b :: s => by
    rw [Op.bytesLess, cmpL, less_cmp r s]
    by_cases h1 : a < b
    · rw [if_pos h1, decide_eq_true h1]; rfl
    · rw [if_neg h1, decide_eq_false h1]
      by_cases h2 : b < a
      · rw [if_pos h2]
        have hne : (a == b) = false := by
          rw [beq_eq_false_iff_ne]
          rintro rfl
          exact h1 h2
        rw [hne]
        rfl
      · rw [if_neg h2]
        have he : a = b := by
          rcases Nat.lt_trichotomy a.toNat b.toNat with h | h | h
          · exact absurd (UInt8.lt_iff_toNat_lt.2 h) h1
          · exact UInt8.toNat_inj.1 h
          · exact absurd (UInt8.lt_iff_toNat_lt.2 h) h2
        rw [he, beq_self_eq_true]
        rfl
/-- A change. -/
structure EvL where
  kind : Nat
  ten : List UInt8
  num : Int
  ep : Int
  text : List UInt8
def evlC (e : EvL) : List Value := [.int .i64 e.kind, .string (ofL e.ten), .int .i64 e.num, .int .i64 e.ep, .string (ofL e.text)]
def evlV (e : EvL) : Value := .agg #[.int .i64 e.kind, .string (ofL e.ten), .int .i64 e.num, .int .i64 e.ep, .string (ofL e.text)]
def evsC (l : List EvL) : List Value := l.flatMap evlC
theorem evsC_append (a b : List EvL) : evsC (a ++ b) = evsC a ++ evsC b := by simp [evsC]
theorem evsC_one (x : EvL) : evsC [x] = evlC x := by simp [evsC]
theorem evsC_cons (x : EvL) (l : List EvL) : evsC (x :: l) = evlC x ++ evsC l := rfl
theorem evsC_get : ∀ (l : List EvL) (k : Nat) (x : EvL), l[k]? = some x → (evsC l)[k * 5]? = some (.int .i64 x.kind) ∧ (evsC l)[k * 5 + 1]? = some (.string (ofL x.ten)) ∧ (evsC l)[k * 5 + 2]? = some (.int .i64 x.num) ∧ (evsC l)[k * 5 + 3]? = some (.int .i64 x.ep) ∧ (evsC l)[k * 5 + 4]? = some (.string (ofL x.text))
  | [], k, x, h => by simp at h
  | y :: l, 0, x, h => by
    obtain rfl : y = x := by simpa using h
    exact ⟨rfl, rfl, rfl, rfl, rfl⟩
  | y :: l, k + 1, x, h => by
    have ih := evsC_get l k x (by simpa using h)
    rw [show (k + 1) * 5 = k * 5 + 1 + 1 + 1 + 1 + 1 by omega, evsC_cons]
    simp only [evlC, List.cons_append, List.nil_append, List.getElem?_cons_succ]
    exact ih
theorem oneCell_evs (l : List EvL) : ∀ u ∈ evsC l, u.oneCell' = true := by
  induction l with
  | nil => intro u hu; cases hu
  | cons x l ih =>
    intro u hu
    rw [evsC_cons, List.mem_append] at hu
    rcases hu with hu | hu
    · simp only [evlC, List.mem_cons, List.not_mem_nil, or_false] at hu
      rcases hu with rfl | rfl | rfl | rfl | rfl <;> rfl
    · exact ih u hu
/-- A change's form. -/
def FormE (e : EvL) : Prop := (e.kind = 1 ∧ wordL e.ten = true ∧ FromP e.ep 0 ∧ FromP e.num 1 ∧ e.text = []) ∨ (e.kind = 2 ∧ wordL e.ten = true ∧ e.ep = 0 ∧ FromP e.num 1 ∧ e.text.length = 32) ∨ (e.kind = 4 ∧ e.ten = [] ∧ e.ep = 0 ∧ FromP e.num 0 ∧ e.text = [])
def evT (t : TnA) : EvL := ⟨1, t.name, t.nx, t.ep, []⟩
def evK (t : TnA) (k : KyL) : EvL := ⟨2, t.name, k.num, 0, k.text⟩
def evS (ser : Int) : EvL := ⟨4, [], ser, 0, []⟩
def evsT (t : TnA) : List EvL := evT t :: t.keys.map (evK t)
def imgL (l : List TnA) : List EvL := l.flatMap evsT
theorem imgL_snoc (l : List TnA) (t : TnA) : imgL (l ++ [t]) = imgL l ++ evsT t := by simp [imgL]
/-- The changes that make a state. -/
def imgE (l : List TnA) (ser : Int) : List EvL := imgL l ++ [evS ser]
theorem imgE_form {l : List TnA} {ser : Int} (h : RightS l ser) : ∀ e ∈ imgE l ser, FormE e := by
  intro e he
  unfold imgE at he
  rw [List.mem_append] at he
  rcases he with he | he
  · unfold imgL at he
    obtain ⟨t, ht, het⟩ := List.mem_flatMap.1 he
    obtain ⟨k, hk, hkt⟩ := List.mem_iff_getElem.1 ht
    have hr := h.2.2.1 k t (by rw [List.getElem?_eq_getElem hk, hkt])
    unfold evsT at het
    rcases List.mem_cons.1 het with rfl | het
    · exact .inl ⟨rfl, hr.1, hr.2.1, hr.2.2.1, rfl⟩
    · obtain ⟨x, hx, rfl⟩ := List.mem_map.1 het
      obtain ⟨q, hq, hqx⟩ := List.mem_iff_getElem.1 hx
      have hkx := hr.2.2.2.2.1 q x (by rw [List.getElem?_eq_getElem hq, hqx])
      refine .inr (.inl ⟨rfl, hr.1, rfl, ⟨hkx.1, ?_⟩, hkx.2.2⟩)
      have := hkx.2.1
      have := hr.2.2.1.2
      show x.num ≤ _
      omega
  · obtain rfl := List.mem_singleton.1 he
    exact .inr (.inr ⟨rfl, rfl, rfl, h.2.1, rfl⟩)
theorem imgL_len : ∀ {l : List TnA}, (∀ t ∈ l, t.keys.length ≤ 8) → (imgL l).length ≤ 9 * l.length
  | [], _ => Nat.zero_le _
  | t :: l, h => by
    have ih := imgL_len (l := l) (fun x hx => h x (List.mem_cons_of_mem _ hx))
    have := h t List.mem_cons_self
    have e : (imgL (t :: l)).length = (t.keys.length + 1) + (imgL l).length := by
      unfold imgL
      rw [List.flatMap_cons, List.length_append]
      congr 1
      unfold evsT
      rw [List.length_cons, List.length_map]
    rw [e, List.length_cons]
    omega
theorem imgE_len {l : List TnA} {ser : Int} (h : RightS l ser) : (imgE l ser).length ≤ 145 := by
  unfold imgE
  have h1 := imgL_len (l := l) (fun t ht => by
    obtain ⟨k, hk, hkt⟩ := List.mem_iff_getElem.1 ht
    exact (h.2.2.1 k t (by rw [List.getElem?_eq_getElem hk, hkt])).2.2.2.1)
  have := h.1
  rw [List.length_append, List.length_singleton]
  omega
/-- A change's text. -/
def recE (e : EvL) : List UInt8 := e.kind.toUInt8 :: (fText e.ten ++ (vput e.ep.toNat ++ (vput e.num.toNat ++ fText e.text)))
theorem fText_le (a : List UInt8) : (fText a).length ≤ a.length + 10 := by
  unfold fText
  rw [List.length_append]
  have := length_vput a.length
  omega
theorem recE_len {e : EvL} (h : FormE e) : (recE e).length ≤ 105 := by
  have h1 : e.ten.length ≤ 32 ∧ e.text.length ≤ 32 := by
    rcases h with ⟨_, h1, _, _, h2⟩ | ⟨_, h1, _, _, h2⟩ | ⟨_, h1, _, _, h2⟩
    · rw [h2]; exact ⟨(wordL_len h1).2, Nat.zero_le _⟩
    · exact ⟨(wordL_len h1).2, by omega⟩
    · rw [h1, h2]; exact ⟨Nat.zero_le _, Nat.zero_le _⟩
  unfold recE
  rw [List.length_cons, List.length_append, List.length_append, List.length_append]
  have := fText_le e.ten; have := fText_le e.text; have := length_vput e.ep.toNat; have := length_vput e.num.toNat
  omega
/-- The parts of a batch. -/
def batQ (l : List EvL) : List (List UInt8) := vput l.length :: l.map fun e => fText (recE e)
def batE (l : List EvL) : List UInt8 := (batQ l).flatten
theorem flat_le : ∀ {l : List (List UInt8)} {m : Nat}, (∀ x ∈ l, x.length ≤ m) → l.flatten.length ≤ l.length * m
  | [], m, _ => Nat.zero_le _
  | x :: l, m, h => by
    have ih := flat_le (l := l) (fun y hy => h y (List.mem_cons_of_mem _ hy))
    have := h x List.mem_cons_self
    rw [List.flatten_cons, List.length_append, List.length_cons, Nat.add_mul]
    omega
theorem batE_len {l : List EvL} (h : ∀ e ∈ l, FormE e) (hl : l.length ≤ 145) : (batE l).length ≤ 20000 := by
  have h1 := flat_le (l := batQ l) (m := 115) (fun x hx => by
    unfold batQ at hx
    rcases List.mem_cons.1 hx with rfl | hx
    · have := length_vput l.length; omega
    · obtain ⟨e, he, rfl⟩ := List.mem_map.1 hx
      have := recE_len (h e he)
      have := fText_le (recE e)
      omega)
  unfold batE
  have : (batQ l).length = l.length + 1 := by unfold batQ; rw [List.length_cons, List.length_map]
  rw [this] at h1
  omega
end Go.Proofs.Ytmnpbpfeoackiaa
