/-
  Package chain in plain words over lists: the tags of a token, the texts that are summed for them. No program in sight. · Package chain and its reference: the tags of a root, a link, a binding, a seal; what they are made of. Conditions: the package's table holds the constants; texts of at most 100000 bytes. · Package chain: the iterator over the tags of a token, which turns a captured variable. Conditions: the package's table holds the constants; texts of at most 100000 bytes. · Package chain: the iterator over the tags of a token gives them all, in order. Conditions: the package's table holds the constants; texts of at most 100000 bytes. · Package chain: all tags of a token, the last one. Conditions: the package's table holds the constants; texts of at most 100000 bytes. · Package chain's reference: all tags of a token, the texts that are summed for them. Conditions: texts of at most 100000 bytes.
-/
import Derived.Test.YtejhiekikblbiaaGreatDoorMgD
import Derived.Test.YtejhiekikblbiaaGreatDoorMgE
import Derived.Shelf.Abstract
import Derived.Shelf.RegionOpen
import Derived.WalkKit
import Derived.OwnWalkIn
import Derived.TacticsInMore
import Derived.LoopNIn
import Derived.LoopIn
import Derived.Maps.AppendAt
namespace Go.Proofs.YtejhiekikblbiaaGreatDoor
open Go.RowKit

/-- A link: its text, its seal. -/
abbrev LinkL := List UInt8 × List UInt8
def rootS : List UInt8 := [114, 111, 111, 116]
def firstS : List UInt8 := [102, 105, 114, 115, 116]
def thirdS : List UInt8 := [116, 104, 105, 114, 100]
def bindS : List UInt8 := [98, 105, 110, 100]
def sealS : List UInt8 := [115, 101, 97, 108]
def rootParts (id : List UInt8) : List (List UInt8) := [rootS, id]
def nextParts (x : LinkL) : List (List UInt8) := if x.2 = [] then [firstS, x.1] else [thirdS, x.2, x.1]
def bindParts (o : List UInt8) : List (List UInt8) := [bindS, o]
def sealParts : List (List UInt8) := [sealS]
def partsL (k : List UInt8) (l : List (List UInt8)) : List UInt8 := hmacL k (frameL l)
def rootL (k id : List UInt8) : List UInt8 := partsL k (rootParts id)
def nextL (t : List UInt8) (x : LinkL) : List UInt8 := partsL t (nextParts x)
def bindL (t o : List UInt8) : List UInt8 := partsL t (bindParts o)
def sealL (t : List UInt8) : List UInt8 := partsL t sealParts
theorem length_partsL (k : List UInt8) (l) : (partsL k l).length = 32 := length_hmacL _ _
/-- The tags behind the first one. -/
def moreL : List UInt8 → List LinkL → List (List UInt8)
  | _, [] => []
  | t, x :: l => nextL t x :: moreL (nextL t x) l
def tagsL (k id : List UInt8) (l : List LinkL) : List (List UInt8) := rootL k id :: moreL (rootL k id) l
def foldT (t : List UInt8) (l : List LinkL) : List UInt8 := l.foldl nextL t
def lastL (k id : List UInt8) (l : List LinkL) : List UInt8 := foldT (rootL k id) l
theorem length_moreL : ∀ (l : List LinkL) (t : List UInt8), (moreL t l).length = l.length
  | [], _ => rfl
  | x :: l, t => by rw [moreL, List.length_cons, length_moreL l, List.length_cons]
theorem length_tagsL (k id : List UInt8) (l : List LinkL) : (tagsL k id l).length = l.length + 1 := by rw [tagsL, List.length_cons, length_moreL]
theorem moreL_get : ∀ (l : List LinkL) (t : List UInt8) (i : Nat), i ≤ l.length → (t :: moreL t l)[i]? = some (foldT t (l.take i))
  | l, t, 0, _ => by simp [foldT]
  | [], t, i + 1, h => by simp at h
  | x :: l, t, i + 1, h => by
    rw [List.getElem?_cons_succ, moreL]
    rw [moreL_get l (nextL t x) i (by simpa using h)]
    rfl
theorem tagsL_get (k id : List UInt8) (l : List LinkL) (i : Nat) (h : i ≤ l.length) : (tagsL k id l)[i]? = some (lastL k id (l.take i)) := moreL_get l _ i h
theorem foldT_snoc (t : List UInt8) (l : List LinkL) (x : LinkL) : foldT t (l ++ [x]) = nextL (foldT t l) x := by simp [foldT]
theorem lastL_snoc (k id : List UInt8) (l : List LinkL) (x : LinkL) : lastL k id (l ++ [x]) = nextL (lastL k id l) x := foldT_snoc _ _ _
theorem length_lastL (k id : List UInt8) (l : List LinkL) : (lastL k id l).length = 32 := by
  rcases List.eq_nil_or_concat l with rfl | ⟨m, x, rfl⟩
  · exact length_partsL _ _
  · rw [List.concat_eq_append, lastL_snoc]; exact length_partsL _ _
theorem length_tag (k id : List UInt8) (l : List LinkL) : ∀ t ∈ tagsL k id l, t.length = 32 := by
  intro t ht
  obtain ⟨i, hi⟩ := List.mem_iff_getElem?.1 ht
  have hlt : i < (tagsL k id l).length := (List.getElem?_eq_some_iff.1 hi).1
  rw [length_tagsL] at hlt
  rw [tagsL_get k id l i (by omega)] at hi
  rw [← Option.some.inj hi, length_lastL]

/-! ### the texts that are summed -/
def pairT (k : List UInt8) (l : List (List UInt8)) : List (List UInt8) := [innerL k (frameL l), outerL k (frameL l)]
def moreT : List UInt8 → List LinkL → List (List UInt8)
  | _, [] => []
  | t, x :: l => pairT t (nextParts x) ++ moreT (nextL t x) l
def textsL (k id : List UInt8) (l : List LinkL) : List (List UInt8) := pairT k (rootParts id) ++ moreT (rootL k id) l
theorem moreT_snoc : ∀ (l : List LinkL) (t : List UInt8) (x : LinkL), moreT t (l ++ [x]) = moreT t l ++ pairT (foldT t l) (nextParts x)
  | [], t, x => by simp [moreT, foldT]
  | y :: l, t, x => by
    rw [List.cons_append, moreT, moreT_snoc l, moreT, List.append_assoc]
    rfl
theorem textsL_snoc (k id : List UInt8) (l : List LinkL) (x : LinkL) : textsL k id (l ++ [x]) = textsL k id l ++ pairT (lastL k id l) (nextParts x) := by
  unfold textsL
  rw [moreT_snoc, List.append_assoc]; rfl
theorem length_moreT : ∀ (l : List LinkL) (t : List UInt8), (moreT t l).length = 2 * l.length
  | [], _ => rfl
  | x :: l, t => by rw [moreT, List.length_append, length_moreT l, List.length_cons]; simp [pairT]; omega

/-- Two unlike texts of one sum among these. -/
def ClashM (xs : List (List UInt8)) : Prop := ∃ p ∈ xs, ∃ q ∈ xs, p ≠ q ∧ sumL p = sumL q
theorem ClashM.more {xs ys : List (List UInt8)} (h : ClashM xs) (hs : ∀ x ∈ xs, x ∈ ys) : ClashM ys := by
  obtain ⟨p, hp, q, hq, h1, h2⟩ := h
  exact ⟨p, hs p hp, q, hs q hq, h1, h2⟩
theorem pair_clash {k m : List UInt8} {a b : List (List UInt8)} (h1 : k.length = 32) (h2 : m.length = 32) (ha : ∀ p ∈ a, p.length < 18446744073709551616) (hb : ∀ p ∈ b, p.length < 18446744073709551616) (h : partsL k a = partsL m b) :
    (k = m ∧ a = b) ∨ ClashM (pairT k a ++ pairT m b) := by
  by_cases he : k = m ∧ a = b
  · exact .inl he
  · right
    have hne : ¬ (k = m ∧ frameL a = frameL b) := fun e => he ⟨e.1, frame_inj ha hb e.2⟩
    rcases apart h1 h2 hne h with ⟨h3, h4⟩ | ⟨h3, h4⟩
    · exact ⟨_, by simp [pairT], _, by simp [pairT], h3, h4⟩
    · exact ⟨_, by simp [pairT], _, by simp [pairT], h3, h4⟩
def Fits (x : LinkL) : Prop := x.1.length < 18446744073709551616 ∧ x.2.length < 18446744073709551616
theorem fits_next {x : LinkL} (h : Fits x) : ∀ p ∈ nextParts x, p.length < 18446744073709551616 := by
  intro p hp
  unfold nextParts at hp
  split at hp
  · simp at hp
    rcases hp with rfl | rfl
    · decide
    · exact h.1
  · simp at hp
    rcases hp with rfl | rfl | rfl
    · decide
    · exact h.2
    · exact h.1
theorem fits_root {id : List UInt8} (h : id.length < 18446744073709551616) : ∀ p ∈ rootParts id, p.length < 18446744073709551616 := by
  intro p hp
  simp [rootParts] at hp
  rcases hp with rfl | rfl
  · decide
  · exact h
theorem next_inj {x y : LinkL} (h : nextParts x = nextParts y) : x = y := by
  unfold nextParts at h
  obtain ⟨a, b⟩ := x
  obtain ⟨c, d⟩ := y
  simp only at h
  split at h <;> split at h
  · simp_all
  · simp at h
  · simp at h
  · simp_all
theorem root_next {id : List UInt8} {x : LinkL} : rootParts id ≠ nextParts x := by
  unfold rootParts nextParts
  split
  · intro h
    have h1 : rootS = firstS := (List.cons.inj h).1
    exact absurd h1 (by decide)
  · intro h
    have h1 : rootS = thirdS := (List.cons.inj h).1
    exact absurd h1 (by decide)
/-- Two unlike tokens of one last tag: among the texts that were summed two clash. -/
theorem chain_apart (k m id jd : List UInt8) (hk : k.length = 32) (hm : m.length = 32) (hid : id.length < 18446744073709551616) (hjd : jd.length < 18446744073709551616) :
    ∀ (n : Nat) (a b : List LinkL), a.length + b.length ≤ n → (∀ x ∈ a, Fits x) → (∀ x ∈ b, Fits x) → lastL k id a = lastL m jd b → (k = m ∧ id = jd ∧ a = b) ∨ ClashM (textsL k id a ++ textsL m jd b) := by
  intro n
  induction n with
  | zero =>
    intro a b hn ha hb h
    obtain rfl : a = [] := List.eq_nil_of_length_eq_zero (by omega)
    obtain rfl : b = [] := List.eq_nil_of_length_eq_zero (by omega)
    rcases pair_clash hk hm (fits_root hid) (fits_root hjd) h with ⟨h1, h2⟩ | h1
    · exact .inl ⟨h1, (by simpa [rootParts] using h2), rfl⟩
    · exact .inr (h1.more (by intro x hx; simpa [textsL, moreT] using hx))
  | succ n ih =>
    intro a b hn ha hb h
    rcases List.eq_nil_or_concat a with rfl | ⟨a', x, rfl⟩ <;> rcases List.eq_nil_or_concat b with rfl | ⟨b', y, rfl⟩
    · exact ih [] [] (by simp) ha hb h
    · rw [List.concat_eq_append] at h hb ⊢
      rw [lastL_snoc] at h
      rcases pair_clash hk (length_lastL m jd b') (fits_root hid) (fits_next (hb y (by simp))) h with ⟨_, h2⟩ | h1
      · exact absurd h2 root_next
      · refine .inr (h1.more fun z hz => ?_)
        rw [textsL_snoc]
        rcases List.mem_append.1 hz with hz | hz
        · exact List.mem_append.2 (.inl (by unfold textsL; exact List.mem_append.2 (.inl hz)))
        · exact List.mem_append.2 (.inr (List.mem_append.2 (.inr hz)))
    · rw [List.concat_eq_append] at h ha ⊢
      rw [lastL_snoc] at h
      rcases pair_clash (length_lastL k id a') hm (fits_next (ha x (by simp))) (fits_root hjd) h with ⟨_, h2⟩ | h1
      · exact absurd h2.symm root_next
      · refine .inr (h1.more fun z hz => ?_)
        rw [textsL_snoc]
        rcases List.mem_append.1 hz with hz | hz
        · exact List.mem_append.2 (.inl (List.mem_append.2 (.inr hz)))
        · exact List.mem_append.2 (.inr (by unfold textsL; exact List.mem_append.2 (.inl hz)))
    · rw [List.concat_eq_append] at h ha hn ⊢
      rw [List.concat_eq_append] at h hb hn ⊢
      rw [lastL_snoc, lastL_snoc] at h
      rcases pair_clash (length_lastL k id a') (length_lastL m jd b') (fits_next (ha x (by simp))) (fits_next (hb y (by simp))) h with ⟨h1, h2⟩ | h1
      · have hxy := next_inj h2
        rcases ih a' b' (by simp at hn; omega) (fun z hz => ha z (by simp [hz])) (fun z hz => hb z (by simp [hz])) h1 with ⟨e1, e2, e3⟩ | h3
        · exact .inl ⟨e1, e2, by rw [e3, hxy]⟩
        · refine .inr (h3.more fun z hz => ?_)
          rw [textsL_snoc, textsL_snoc]
          rcases List.mem_append.1 hz with hz | hz
          · exact List.mem_append.2 (.inl (List.mem_append.2 (.inl hz)))
          · exact List.mem_append.2 (.inr (List.mem_append.2 (.inl hz)))
      · refine .inr (h1.more fun z hz => ?_)
        rw [textsL_snoc, textsL_snoc]
        rcases List.mem_append.1 hz with hz | hz
        · exact List.mem_append.2 (.inl (List.mem_append.2 (.inr hz)))
        · exact List.mem_append.2 (.inr (List.mem_append.2 (.inr hz)))
end Go.Proofs.YtejhiekikblbiaaGreatDoor

namespace Go.Proofs.YtejhiekikblbiaaGreatDoor
open Go.RowKit

theorem rd_lit (w : World) (e : TypeId) (cs : Array Value) (n : Nat) (hn : cs.size = n) (hm : n ≤ maxLen) : Rd (w.alloc (.cells cs e)) (w.alloc (.cells cs e)).heap.size 1 (.slice (some ⟨w.heap.size, 0, none⟩) n n) n cs.toList :=
  Rd.own (World.ownsRow_lit (e := e) w cs n (Nat.le_refl _) hm (by omega)) (by decide)
theorem rd_at {w W : World} {size n : Nat} {v : Value} {xs : List Value} (h : Rd w w.heap.size size v n xs) (hE : Ext w W) : Rd W W.heap.size size v n xs := (h.ext hE (Nat.le_refl _)).more hE.size
theorem parts_lit (k : List UInt8) (l : List (List UInt8)) (cs : Array Value) (hcs : cs.toList = l.map Str) (n : Nat) (hn : l.length = n) (w : World) (hT : Tab w) (hk : k.length ≤ 800000) (hl : (frameL l).length ≤ 800000) (hm : n ≤ 1000) (g : Nat := w.heap.size) (hg : w.heap.size = g := by rfl) :
    Calls Tryz.prog 56 #[.string (ofL k), .slice (some ⟨g, 0, none⟩) n n] (w.alloc (.cells cs 9)) fun e w' => e = .returned (.string (ofL (partsL k l))) ∧ Ext w w' := by
  subst hn hg
  have hsz : cs.size = l.length := by rw [← Array.length_toList, hcs, List.length_map]
  have h := rd_lit w 9 cs l.length hsz (by unfold maxLen; omega)
  rw [hcs] at h
  refine (parts_any k l _ _ (hT.ext ((Ext.rfl' w).al _)) hk h hl).mono ?_
  rintro e w' ⟨he, hE⟩
  exact ⟨he, ((Ext.rfl' w).al _).tr hE⟩
theorem len_root (id : List UInt8) : (frameL (rootParts id)).length = id.length + 20 := by simp [rootParts, frameL, length_be8, rootS]; omega
theorem len_bind (o : List UInt8) : (frameL (bindParts o)).length = o.length + 20 := by simp [bindParts, frameL, length_be8, bindS]; omega
theorem len_seal : (frameL sealParts).length = 12 := by simp [sealParts, frameL, length_be8, sealS]
theorem len_next (x : LinkL) : (frameL (nextParts x)).length ≤ x.1.length + x.2.length + 29 := by
  unfold nextParts
  split
  · simp [frameL, length_be8, firstS]; omega
  · simp [frameL, length_be8, thirdS]; omega
theorem nextParts_first {x : LinkL} (h : x.2 = []) : nextParts x = [firstS, x.1] := if_pos h
theorem nextParts_third {x : LinkL} (h : ¬ x.2 = []) : nextParts x = [thirdS, x.2, x.1] := if_neg h

theorem root_any (k id : List UInt8) (w : World) (hT : Tab w) (hk : k.length ≤ 100000) (hi : id.length ≤ 100000) : Calls Tryz.prog 24 #[.string (ofL k), .string (ofL id)] w fun e w' => e = .returned (.string (ofL (rootL k id))) ∧ Ext w w' := by
  have c := Kp.mk (parts_lit k (rootParts id) #[.string ⟨#[114, 111, 111, 116]⟩, .string (ofL id)] rfl 2 rfl w hT (by omega) (by rw [len_root]; omega) (by omega))
  obtain ⟨X, hX⟩ : ∃ X, rootL k id = X := ⟨_, rfl⟩
  rw [show partsL k (rootParts id) = X from hX] at c
  rw [hX]
  clear hX
  go_enter Tryz.func24, Tryz.ntmps24
  go_wp2_with fail
  refine c.out.mono ?_
  rintro e w1 ⟨rfl, E1⟩
  go_wp2
  go_ret
  exact ⟨rfl, E1⟩
theorem bind_any (k id : List UInt8) (w : World) (hT : Tab w) (hk : k.length ≤ 100000) (hi : id.length ≤ 100000) : Calls Tryz.prog 61 #[.string (ofL k), .string (ofL id)] w fun e w' => e = .returned (.string (ofL (bindL k id))) ∧ Ext w w' := by
  have c := Kp.mk (parts_lit k (bindParts id) #[.string ⟨#[98, 105, 110, 100]⟩, .string (ofL id)] rfl 2 rfl w hT (by omega) (by rw [len_bind]; omega) (by omega))
  obtain ⟨X, hX⟩ : ∃ X, bindL k id = X := ⟨_, rfl⟩
  rw [show partsL k (bindParts id) = X from hX] at c
  rw [hX]
  clear hX
  go_enter Tryz.func61, Tryz.ntmps61
  go_wp2_with fail
  refine c.out.mono ?_
  rintro e w1 ⟨rfl, E1⟩
  go_wp2
  go_ret
  exact ⟨rfl, E1⟩
theorem seal_any (k : List UInt8) (w : World) (hT : Tab w) (hk : k.length ≤ 100000) : Calls Tryz.prog 58 #[.string (ofL k)] w fun e w' => e = .returned (.string (ofL (sealL k))) ∧ Ext w w' := by
  have c := Kp.mk (parts_lit k sealParts #[.string ⟨#[115, 101, 97, 108]⟩] rfl 1 rfl w hT (by omega) (by rw [len_seal]; omega) (by omega))
  obtain ⟨X, hX⟩ : ∃ X, sealL k = X := ⟨_, rfl⟩
  rw [show partsL k sealParts = X from hX] at c
  rw [hX]
  clear hX
  go_enter Tryz.func58, Tryz.ntmps58
  go_wp2_with fail
  refine c.out.mono ?_
  rintro e w1 ⟨rfl, E1⟩
  go_wp2
  go_ret
  exact ⟨rfl, E1⟩

theorem isEmpty_ne {b : List UInt8} (h : ¬ b = []) : b.isEmpty = false := by cases b with
  | nil => exact absurd rfl h
  | cons x l => rfl
/-- A link as a value. -/
def linkV (x : LinkL) : Value := .agg #[.string (ofL x.1), .string (ofL x.2)]
set_option maxRecDepth 100000 in
set_option maxHeartbeats 1000000 in
theorem behind_any (t : List UInt8) (x : LinkL) (w : World) (hT : Tab w) (ht : t.length ≤ 100000) (hx : x.1.length + x.2.length ≤ 200000) : Calls Tryz.prog 109 #[.agg #[.string (ofL t)], linkV x] w fun e w' => e = .returned (.agg #[.string (ofL (nextL t x))]) ∧ Ext w w' := by
  obtain ⟨X, hX⟩ : ∃ X, nextL t x = X := ⟨_, rfl⟩
  have hln := len_next x
  obtain ⟨a, b⟩ := x
  unfold linkV
  simp only at hx hln ⊢
  rw [hX]
  obtain ⟨W, hW⟩ : ∃ W, ((w.alloc (.cells #[.string (ofL t)] 147)).alloc (.cells #[.string (ofL a), .string (ofL b)] 72)).alloc (.cells #[.string ⟨#[]⟩] 147) = W := ⟨_, rfl⟩
  have E0 : Ext w W := by rw [← hW]; exact (((Ext.rfl' w).al _).al _).al _
  have hsW : W.heap.size = w.heap.size + 1 + 1 + 1 := by rw [← hW]; simp only [World.size_alloc]
  have A4 : Arr W (w.heap.size + 1 + 1) 147 [.string ⟨#[]⟩] := by
    rw [← hW]
    have h := Arr.new ((w.alloc (.cells #[.string (ofL t)] 147)).alloc (.cells #[.string (ofL a), .string (ofL b)] 72)) 147 [.string ⟨#[]⟩]
    simp only [World.size_alloc] at h
    exact h
  have hTW := hT.ext E0
  have fin : ∀ w1, Ext W w1 → ∃ w2, w2 = w1.setCell ⟨w.heap.size + 1 + 1, 0, none⟩ (.string (ofL X)) ∧ Arr w2 (w.heap.size + 1 + 1) 147 [.string (ofL X)] ∧ Ext w w2 ∧ w1.cell? ⟨w.heap.size + 1 + 1, 0, none⟩ = some (.string ⟨#[]⟩) ∧ w1.frozen? ⟨w.heap.size + 1 + 1, 0, none⟩ = false := fun w1 h1 => by
    have A5 := A4.ext h1 A4.lt
    exact ⟨_, rfl, A5.set 0 _, (E0.tr h1).st (p := ⟨w.heap.size + 1 + 1, 0, none⟩) (by simp; omega) _, A5.cell 0, A5.frozen 0⟩
  have Fin := Kp.mk fin
  clear fin
  by_cases hs : b = []
  · have c := Kp.mk (parts_lit t (nextParts (a, b)) #[.string ⟨#[102, 105, 114, 115, 116]⟩, .string (ofL a)] (by rw [nextParts_first hs]; rfl) 2 (by rw [nextParts_first hs]; rfl) W hTW (by omega) (by omega) (by omega) _ hsW)
    rw [show partsL t (nextParts (a, b)) = X from hX, ← hW] at c
    subst hs
    rw [show ofL [] = (⟨#[]⟩ : ByteArray) from rfl] at *
    have HW := Kp.mk hW
    clear hX hln hW A4 hTW
    go_enter Tryz.func109, Tryz.ntmps109
    go_wp2_with fail
    refine c.out.mono ?_
    rintro e w1 ⟨rfl, E1⟩
    rw [HW.out] at E1
    obtain ⟨w2, hw2, B, E2, hc, hf⟩ := Fin.out w1 E1
    clear Fin E1
    go_wp2
    rw [← hw2]
    exact bodyPost_ret (v := .agg #[.string (ofL X)]) (results_cell_row rfl _ _ (w.heap.size + 1 + 1) _ _ _ _ rfl B Tryz.underlying147 rfl (by kernel_rfl)) rfl ⟨rfl, E2⟩
  · have c := Kp.mk (parts_lit t (nextParts (a, b)) #[.string ⟨#[116, 104, 105, 114, 100]⟩, .string (ofL b), .string (ofL a)] (by rw [nextParts_third hs]; rfl) 3 (by rw [nextParts_third hs]; rfl) W hTW (by omega) (by omega) (by omega) _ hsW)
    rw [show partsL t (nextParts (a, b)) = X from hX, ← hW] at c
    have d := isEmpty_ne hs
    have HW := Kp.mk hW
    clear hX hln hW A4 hTW hs
    go_enter Tryz.func109, Tryz.ntmps109
    go_wp2_with fail
    refine c.out.mono ?_
    rintro e w1 ⟨rfl, E1⟩
    rw [HW.out] at E1
    obtain ⟨w2, hw2, B, E2, hc, hf⟩ := Fin.out w1 E1
    clear Fin E1
    go_wp2
    rw [← hw2]
    exact bodyPost_ret (v := .agg #[.string (ofL X)]) (results_cell_row rfl _ _ (w.heap.size + 1 + 1) _ _ _ _ rfl B Tryz.underlying147 rfl (by kernel_rfl)) rfl ⟨rfl, E2⟩

set_option maxRecDepth 100000 in
theorem next_any (t : List UInt8) (x : LinkL) (w : World) (hT : Tab w) (ht : t.length ≤ 100000) (hx : x.1.length + x.2.length ≤ 200000) : Calls Tryz.prog 92 #[.string (ofL t), linkV x] w fun e w' => e = .returned (.string (ofL (nextL t x))) ∧ Ext w w' := by
  have E0 : Ext w (w.alloc (.cells #[.string (ofL x.1), .string (ofL x.2)] 72)) := (Ext.rfl' w).al _
  have c := Kp.mk (behind_any t x _ (hT.ext E0) ht hx)
  obtain ⟨X, hX⟩ : ∃ X, nextL t x = X := ⟨_, rfl⟩
  rw [hX] at c ⊢
  obtain ⟨a, b⟩ := x
  unfold linkV at *
  clear hX
  have hfd : ∀ w : World, (Instr.field 147 (.agg #[.string (ofL X)]) 0).run Tryz.prog w = .ok (.string (ofL X)) w := fun _ => by kernel_rfl
  go_enter Tryz.func92, Tryz.ntmps92
  go_wp2_with fail
  refine c.out.mono ?_
  rintro e w1 ⟨rfl, E1⟩
  go_wp2
  go_ret
  exact ⟨rfl, E0.tr E1⟩

/-! ### the reference's parts -/
theorem ret_parts {w : World} {cs : Array Value} {l : List (List UInt8)} (hcs : cs.toList = l.map Str) {W : World} (hE : Ext w W) (hm : l.length ≤ 1000) : RetOwn w 9 1 l.length (l.map Str) (.returned (.slice (some ⟨W.heap.size, 0, none⟩) l.length l.length)) (W.alloc (.cells cs 9)) := by
  have hsz : cs.size = l.length := by rw [← Array.length_toList, hcs, List.length_map]
  have h := World.ownsRow_lit (base := w.heap.size) (size := 1) (e := 9) W cs l.length hE.size (by unfold maxLen; omega) (by omega)
  rw [hcs] at h
  exact ⟨_, rfl, h, hE.al _⟩
theorem rrootParts_any (id : List UInt8) (w : World) : Calls Tryz.prog 44 #[.string (ofL id)] w (RetOwn w 9 1 2 ((rootParts id).map Str)) := by
  have h := ret_parts (w := w) (cs := #[.string ⟨#[114, 111, 111, 116]⟩, .string (ofL id)]) (l := rootParts id) rfl (Ext.rfl' w) (by simp [rootParts])
  have H := Kp.mk h; clear h
  go_enter Tryz.func44, Tryz.ntmps44
  go_wp2
  go_ret
  exact H.out
theorem rbindParts_any (id : List UInt8) (w : World) : Calls Tryz.prog 54 #[.string (ofL id)] w (RetOwn w 9 1 2 ((bindParts id).map Str)) := by
  have h := ret_parts (w := w) (cs := #[.string ⟨#[98, 105, 110, 100]⟩, .string (ofL id)]) (l := bindParts id) rfl (Ext.rfl' w) (by simp [bindParts])
  have H := Kp.mk h; clear h
  go_enter Tryz.func54, Tryz.ntmps54
  go_wp2
  go_ret
  exact H.out
theorem rsealParts_any (w : World) : Calls Tryz.prog 51 #[] w (RetOwn w 9 1 1 (sealParts.map Str)) := by
  have h := ret_parts (w := w) (cs := #[.string ⟨#[115, 101, 97, 108]⟩]) (l := sealParts) rfl (Ext.rfl' w) (by decide)
  have H := Kp.mk h; clear h
  go_enter Tryz.func51, Tryz.ntmps51
  go_wp2
  go_ret
  exact H.out
set_option maxRecDepth 100000 in
theorem rnextParts_any (x : LinkL) (w : World) : Calls Tryz.prog 89 #[linkV x] w (RetOwn w 9 1 (nextParts x).length ((nextParts x).map Str)) := by
  obtain ⟨a, b⟩ := x
  have E0 : Ext w (w.alloc (.cells #[.string (ofL a), .string (ofL b)] 72)) := (Ext.rfl' w).al _
  unfold linkV
  by_cases hs : b = []
  · rw [nextParts_first (x := (a, b)) hs]
    have H := Kp.mk (ret_parts (w := w) (cs := #[.string ⟨#[102, 105, 114, 115, 116]⟩, .string (ofL a)]) (l := [firstS, a]) rfl E0 (by simp))
    subst hs
    rw [show ofL [] = (⟨#[]⟩ : ByteArray) from rfl] at *
    clear E0
    go_enter Tryz.func89, Tryz.ntmps89
    go_wp2
    go_ret
    have h := H.out
    simp only [World.size_alloc] at h
    exact h
  · rw [nextParts_third (x := (a, b)) hs]
    have H := Kp.mk (ret_parts (w := w) (cs := #[.string ⟨#[116, 104, 105, 114, 100]⟩, .string (ofL b), .string (ofL a)]) (l := [thirdS, b, a]) rfl E0 (by simp))
    have d := isEmpty_ne hs
    clear E0 hs
    go_enter Tryz.func89, Tryz.ntmps89
    go_wp2
    go_ret
    have h := H.out
    simp only [World.size_alloc] at h
    exact h
end Go.Proofs.YtejhiekikblbiaaGreatDoor

namespace Go.Proofs.YtejhiekikblbiaaGreatDoor
open Go.RowKit Go.Shelf
attribute [local go_sem] Oper.semAt_some

/-- The cells of links, two each. -/
def linkCells (l : List LinkL) : List Value := l.flatMap fun x => [.string (ofL x.1), .string (ofL x.2)]
theorem linkCells_cons (x : LinkL) (l : List LinkL) : linkCells (x :: l) = .string (ofL x.1) :: .string (ofL x.2) :: linkCells l := rfl
theorem length_linkCells : ∀ l : List LinkL, (linkCells l).length = l.length * 2
  | [] => rfl
  | x :: l => by rw [linkCells_cons, List.length_cons, List.length_cons, length_linkCells l, List.length_cons]; omega
theorem linkCells_get : ∀ (l : List LinkL) (k : Nat) (h : k < l.length), (linkCells l)[k * 2]? = some (.string (ofL l[k].1)) ∧ (linkCells l)[k * 2 + 1]? = some (.string (ofL l[k].2))
  | [], k, h => by simp at h
  | x :: l, 0, _ => ⟨rfl, rfl⟩
  | x :: l, k + 1, h => by
    have ih := linkCells_get l k (by simpa using h)
    rw [show (k + 1) * 2 = k * 2 + 1 + 1 by omega, linkCells_cons]
    simp only [List.getElem?_cons_succ, List.getElem_cons_succ]
    exact ih
/-- A slice of links that is only read. -/
def RdLinks (w : World) (B : Nat) (v : Value) (l : List LinkL) : Prop := Rd w B 2 v l.length (linkCells l)
theorem RdLinks.cells {w : World} {B : Nat} {v : Value} {l : List LinkL} (h : RdLinks w B v l) : ∃ A c, v = .slice A l.length c ∧ l.length ≤ 9223372036854775807 ∧ (0 < l.length → ∃ b off, A = some ⟨b, off, none⟩ ∧ b < B ∧ ∀ k (hk : k < l.length), w.cell? ⟨b, off + k * 2, none⟩ = some (.string (ofL l[k].1)) ∧ w.cell? ⟨b, off + k * 2 + 1, none⟩ = some (.string (ofL l[k].2))) := by
  obtain ⟨A, c, rfl, hn, hl, hc⟩ := h
  refine ⟨A, c, rfl, hn, fun h0 => ?_⟩
  obtain ⟨b, off, rfl, hb, hcell⟩ := hc h0
  exact ⟨b, off, rfl, hb, fun k hk => ⟨hcell _ _ (linkCells_get l k hk).1, hcell (k * 2 + 1) _ (linkCells_get l k hk).2⟩⟩

/-- What the iterator has captured. -/
def CapW (W : World) (b : Nat) (t : List UInt8) (vl : Value) : Prop := Arr W b 147 [.string (ofL t)] ∧ Arr W (b + 1) 31 [vl] ∧ Arr W (b + 2) 148 [.func (.func 109) #[] #[]]
theorem CapW.ext {W W' : World} {b : Nat} {t : List UInt8} {vl : Value} (h : CapW W b t vl) (hE : Ext W W') : CapW W' b t vl := ⟨h.1.ext hE h.1.lt, h.2.1.ext hE h.2.1.lt, h.2.2.ext hE h.2.2.lt⟩
theorem walk_any (t : List UInt8) (A : Option Addr) (n c : Nat) (w : World) : Calls Tryz.prog 108 #[.agg #[.string (ofL t)], .slice A n c, .func (.func 109) #[] #[]] w fun e w' => ∃ b, w.heap.size ≤ b ∧ e = .returned (.func (.func 133) #[] #[.pointer (some ⟨b, 0, none⟩), .pointer (some ⟨b + 1, 0, none⟩), .pointer (some ⟨b + 2, 0, none⟩)]) ∧ CapW w' b t (.slice A n c) ∧ Ext w w' := by
  have A0 := (((Arr.new w 147 [.string (ofL t)]).alloc (.cells #[.slice A n c] 31)).alloc (.cells #[.func (.func 109) #[] #[]] 148))
  have A1 := ((Arr.new (w.alloc (.cells #[.string (ofL t)] 147)) 31 [.slice A n c]).alloc (.cells #[.func (.func 109) #[] #[]] 148))
  have A2 := Arr.new ((w.alloc (.cells #[.string (ofL t)] 147)).alloc (.cells #[.slice A n c] 31)) 148 [.func (.func 109) #[] #[]]
  have E0 := (((Ext.rfl' w).al (.cells #[.string (ofL t)] 147)).al (.cells #[.slice A n c] 31)).al (.cells #[.func (.func 109) #[] #[]] 148)
  simp only [World.size_alloc] at A1 A2
  have K := Kp.mk (And.intro A0 (And.intro A1 A2))
  clear A0 A1 A2
  go_enter Tryz.func108, Tryz.ntmps108
  go_wp2
  go_ret
  exact ⟨w.heap.size, Nat.le_refl _, rfl, K.out, E0⟩
theorem ext_grown {W W' : World} (h : Ext W W') : W.grownBy W' none := ⟨h.os, h.tape, h.output, h.size, fun k hk _ => h.block k hk⟩
end Go.Proofs.YtejhiekikblbiaaGreatDoor

namespace Go.Proofs.YtejhiekikblbiaaGreatDoor
open Go.RowKit Go.Shelf
attribute [local go_sem] Oper.semAt_some

theorem Tab.below {w W : World} {n : Nat} (h : Tab w) (hg : 1 < n) (hB : Below n w W) : Tab W :=
  ⟨by have := hB.size; have := h.1; omega, fun i hi => (hB.cell (p := ⟨1, i, none⟩) hg).trans (h.2 i hi)⟩
/-- What a round that goes on keeps. -/
def KeepW (n0 b : Nat) (W W' : World) : Prop := Below n0 W W' ∧ W'.heap[b]? = W.heap[b]? ∧ W'.heap[b + 1]? = W.heap[b + 1]? ∧ W'.heap[b + 2]? = W.heap[b + 2]?
theorem CapW.kept {n0 b : Nat} {W W' : World} {t : List UInt8} {vl : Value} (h : CapW W b t vl) (hk : KeepW n0 b W W') : CapW W' b t vl := ⟨hk.2.1.trans h.1, hk.2.2.1.trans h.2.1, hk.2.2.2.trans h.2.2⟩
theorem CapW.put {b : Nat} {W : World} {t : List UInt8} {vl : Value} (h : CapW W b t vl) (t' : List UInt8) : CapW (W.setCell ⟨b, 0, none⟩ (.string (ofL t'))) b t' vl :=
  ⟨h.1.set 0 _, h.2.1.other _ (by omega), h.2.2.other _ (by omega)⟩

set_option maxRecDepth 100000 in
set_option maxHeartbeats 4000000 in
theorem walk1_seq (n : Nat) (hn : 1 ≤ n) (b n0 : Nat) (t : List UInt8) (l : List LinkL) (vl : Value) (w : World) (hT : Tab w) (hg : 1 < n0) (hn0 : n0 ≤ b) (hcap : CapW w b t vl) (hl : RdLinks w n0 vl l) (ht : t.length ≤ 100000) (hx : ∀ x ∈ l, x.1.length + x.2.length ≤ 200000) :
    SeqC Fence.wide n Tryz.prog 133 #[.pointer (some ⟨b, 0, none⟩), .pointer (some ⟨b + 1, 0, none⟩), .pointer (some ⟨b + 2, 0, none⟩)] (fun x => #[.string (ofL x)]) (fun r => r = b) (KeepW n0 b) (fun xs => xs = t :: moreL t l) (fun pre => pre <+: t :: moreL t l) (l.length + 1) w := by
  intro l' J Jx W hW hJ hJx hY h0
  have hcW := hcap.ext hW
  have hbw : n0 ≤ w.heap.size := by have := hcap.1.lt; omega
  have hBW : Below n0 w W := ⟨hW.os, hW.tape, hW.output, hW.size, fun k hk => hW.block k (by omega)⟩
  obtain ⟨A, c, rfl, hlm, hcells⟩ := hl.cells
  have HC := Kp.mk hcells
  have HX := Kp.mk hx
  clear hcap hW hl hcells hx
  obtain ⟨fn, tmps, assign, body, hy, hR⟩ := hY [] t W h0 (by simp)
  dsimp only at hy
  have c1 := (arr_cell0 hcW.1).1
  refine callsIn_of_wp Tryz.func133 rfl trivial ?_ rfl
  simp only [Tryz.ntmps133, List.size_toArray, List.length_cons, List.length_nil, Nat.reduceAdd, Nat.reduceSub, Array.replicate_succ, Array.replicate_zero, List.push_toArray, List.append_toArray, List.nil_append, List.cons_append]
  gi_wp2
  refine hR.mono ?_
  rintro e W3 (⟨rfl, hJ3, hk3⟩ | ⟨rfl, hJx3⟩)
  · have hc3 := hcW.kept hk3
    have hB3 := hBW.trans hk3.1
    have c2 := (arr_cell0 hc3.2.1).1
    clear hR hy c1 hcW hBW hk3 h0
    gi_wp2
    gi_loopw [14] (fun i wr => ∃ (k : Nat) (tag : List UInt8) (pre : List (List UInt8)), k ≤ l.length ∧ i = .int .i64 k ∧ t :: moreL t l = pre ++ moreL tag (l.drop k) ∧ pre.length ≤ k + 1 ∧ tag.length ≤ 100000 ∧ Below n0 w wr ∧ CapW wr b tag (.slice A l.length c) ∧ J pre wr) (fun i _ => l.length - (intOf i).toNat)
    case atStart => exact ⟨0, t, [] ++ [t], by omega, rfl, rfl, by simp, ht, hB3, hc3, hJ3⟩
    case round =>
      clear hJ3 hB3 hc3 c2
      obtain ⟨k, tag, pre, hk, rfl, hit0, hpl, htl, hB, hc, hJs⟩ := hrel
      have hit := Kp.mk hit0; clear hit0
      by_cases hlt : k < l.length
      · obtain ⟨bb, off, rfl, hbb, hcl⟩ := HC.out (by omega)
        obtain ⟨⟨xa, xb⟩, hxe⟩ : ∃ x, l[k] = x := ⟨_, rfl⟩
        have q1 := (hB.cell (p := ⟨bb, off + k * 2, none⟩) hbb).trans (hcl k hlt).1
        have q2 := (hB.cell (p := ⟨bb, off + k * 2 + 1, none⟩) hbb).trans (hcl k hlt).2
        rw [hxe] at q1 q2
        have hxl : xa.length + xb.length ≤ 200000 := by have := HX.out _ (List.getElem_mem hlt); rw [hxe] at this; exact this
        have hd := Kp.mk (show moreL tag (l.drop k) = nextL tag (xa, xb) :: moreL (nextL tag (xa, xb)) (l.drop (k + 1)) by rw [List.drop_eq_getElem_cons hlt, hxe]; rfl)
        clear hcl
        have hca := hc.ext ((Ext.rfl' wr).al (.cells #[.string (ofL xa), .string (ofL xb)] 72))
        have hEa : Ext wr (wr.alloc (.cells #[.string (ofL xa), .string (ofL xb)] 72)) := (Ext.rfl' wr).al _
        have r1 := (arr_cell0 hca.1).1
        have r2 := (arr_cell0 hca.2.2).1
        have hTa := (hT.below hg hB).ext hEa
        have hbt := Kp.mk (behind_any tag (xa, xb) (wr.alloc (.cells #[.string (ofL xa), .string (ofL xb)] 72)) hTa htl hxl)
        obtain ⟨X, hXe⟩ : ∃ X, nextL tag (xa, xb) = X := ⟨_, rfl⟩
        have lX : X.length = 32 := by rw [← hXe]; exact length_partsL _ _
        rw [hXe] at hbt hd
        clear hxe hXe
        gi_wp2_with fail
        refine ⟨trivial, (callsIn_wide.2 hbt.out).mono ?_⟩
        rintro e w4 ⟨rfl, E4⟩
        have hE4 := hEa.tr E4
        have hc4 := hca.ext E4
        have hJ4 := hJ _ _ _ _ hJs (ext_grown hE4) (fun r e => by cases e)
        have hJ5 := hJ _ _ _ _ hJ4 (grownBy_setCell w4 b 0 (.string (ofL X))) (fun r e => by cases e; rfl)
        have hc5 := hc4.put X
        have hB4 : Below n0 w w4 := hB.trans ⟨hE4.os, hE4.tape, hE4.output, hE4.size, fun k hk => hE4.block k (by have := hB.size; omega)⟩
        have hB5 : Below n0 w (w4.setCell ⟨b, 0, none⟩ (.string (ofL X))) := hB4.setCell (p := ⟨b, 0, none⟩) hn0 _
        have s1 := (arr_cell0 hc4.1).1
        have s2 := (arr_cell0 hc4.1).2
        have s3 := (arr_cell0 hc5.1).1
        obtain ⟨fn, tmps, assign, body, hy, hR⟩ := hY pre X _ hJ5 (by omega)
        clear hbt hca hEa r1 r2 hTa E4 hE4 hc4 hJ4 hB4 hJs hc hB q1 q2
        gi_wp2
        refine hR.mono ?_
        rintro e W6 (⟨rfl, hJ6, hk6⟩ | ⟨rfl, hJx6⟩)
        · have hc6 := hc5.kept hk6
          have hB6 := hB5.trans hk6.1
          clear hR hy
          gi_wp2
          go_roundw
          case rel => exact ⟨k + 1, X, pre ++ [X], by omega, by go_num, by rw [hit.out, hd.out, List.append_assoc]; rfl, by rw [List.length_append]; simp; omega, by omega, hB6, hc6, hJ6⟩
          case measure => simp [intOf]; omega
        · gi_wp2
          refine bodyPost_ret (results_none rfl _ _ _) rfl ?_
          exact ⟨⟨_, rfl⟩, .inr ⟨pre ++ [X], ⟨_, by rw [hit.out, hd.out, List.append_assoc]; rfl⟩, hJx6⟩⟩
      · have hd := Kp.mk (show t :: moreL t l = pre by
          have := hit.out
          rw [List.drop_of_length_le (by omega), moreL, List.append_nil] at this
          exact this)
        gi_wp2
        go_end0
        exact ⟨⟨_, rfl⟩, .inl ⟨pre, hd.out.symm, hJs⟩⟩
  · gi_wp2
    refine bodyPost_ret (results_none rfl _ _ _) rfl ?_
    exact ⟨⟨_, rfl⟩, .inr ⟨[] ++ [t], ⟨_, rfl⟩, hJx3⟩⟩
end Go.Proofs.YtejhiekikblbiaaGreatDoor

namespace Go.Proofs.YtejhiekikblbiaaGreatDoor
open Go.RowKit Go.Shelf
attribute [local go_sem] Oper.semAt_some

/-- A token as a value. -/
def tokV (id : List UInt8) (vl : Value) (tag : List UInt8) : Value := .agg #[.string (ofL id), vl, .string (ofL tag)]
/-- Links that are short. -/
def Short1 (l : List LinkL) : Prop := ∀ x ∈ l, x.1.length + x.2.length ≤ 200000

/-- Between two rounds. -/
def TgI (w : World) (b : Nat) (pre : List (List UInt8)) (W : World) : Prop :=
  Ext w W ∧ ∃ v, Arr W (w.heap.size + 1) 23 [v] ∧ W.ownsRow (b + 3) 9 1 v pre.length (pre.map Str)

set_option maxRecDepth 100000 in
set_option maxHeartbeats 4000000 in
theorem tags_any (k id tag : List UInt8) (vl : Value) (l : List LinkL) (w : World) (hT : Tab w) (hk : k.length ≤ 100000) (hi : id.length ≤ 100000) (hl : RdLinks w w.heap.size vl l) (hx : Short1 l) (hln : l.length ≤ 1000000) :
    Calls Tryz.prog 74 #[.string (ofL k), tokV id vl tag] w (RetOwn w 9 1 (l.length + 1) ((tagsL k id l).map Str)) := by
  obtain ⟨R, hR⟩ : ∃ R, rootL k id = R := ⟨_, rfl⟩
  have lR : R.length = 32 := by rw [← hR]; exact length_partsL _ _
  have cR := Kp.mk (show ∀ W, Tab W → Calls Tryz.prog 24 #[.string (ofL k), .string (ofL id)] W fun e w' => e = .returned (.string (ofL R)) ∧ Ext W w' from fun W h => by rw [← hR]; exact root_any k id W h hk hi)
  have hres : tagsL k id l = R :: moreL R l := by unfold tagsL; rw [hR]
  rw [hres]
  obtain ⟨L, hL⟩ : ∃ L, R :: moreL R l = L := ⟨_, rfl⟩
  have HLL := Kp.mk (show L.length = l.length + 1 by rw [← hL, List.length_cons, length_moreL])
  rw [hL]
  have HEQ := Kp.mk hL
  clear hR hres hL
  have hl0 := hl
  obtain ⟨A, c, rfl, hlm, _⟩ := hl0.cells
  have HL := Kp.mk hl
  clear hl hl0
  obtain ⟨W0, hW0⟩ : ∃ W0, (w.alloc (.cells #[.string (ofL id), .slice A l.length c, .string (ofL tag)] 33)).alloc (.cells #[.slice none 0 0] 23) = W0 := ⟨_, rfl⟩
  have E0 : Ext w W0 := by rw [← hW0]; exact ((Ext.rfl' w).al _).al _
  have S0 : W0.heap.size = w.heap.size + 2 := by rw [← hW0]; simp only [World.size_alloc]
  have A0 : Arr W0 w.heap.size 33 [.string (ofL id), .slice A l.length c, .string (ofL tag)] := by
    rw [← hW0]; exact (Arr.new w 33 [.string (ofL id), .slice A l.length c, .string (ofL tag)]).alloc _
  have A1 : Arr W0 (w.heap.size + 1) 23 [.slice none 0 0] := by
    rw [← hW0]
    have h := Arr.new (w.alloc (.cells #[.string (ofL id), .slice A l.length c, .string (ofL tag)] 33)) 23 [.slice none 0 0]
    simp only [World.size_alloc] at h
    exact h
  unfold tokV
  refine (callsIn_wide (n := 3)).1 ?_
  refine callsIn_of_wp_marks Tryz.func74 rfl trivial ?_ rfl
  simp only [Tryz.ntmps74, List.size_toArray, List.length_cons, List.length_nil, Nat.reduceAdd, Nat.reduceSub, Array.replicate_succ, Array.replicate_zero, List.push_toArray, List.append_toArray, List.nil_append, List.cons_append]
  refine wpIn_wide.2 ?_
  go_upto_region 2 with fail
  clear hW0
  refine wp_region_locals (fun i v W => match i with
    | 0 => v = .string (ofL k)
    | 1 => v = .pointer (some ⟨w.heap.size, 0, none⟩)
    | 2 => v = .string (ofL id)
    | 3 => v = .string (ofL R)
    | 4 => v = .agg #[.string (ofL R)]
    | 5 => v = .pointer (some ⟨w.heap.size, 1, none⟩)
    | 6 => v = .slice A l.length c
    | 7 => ∃ b, w.heap.size + 2 ≤ b ∧ v = .func (.func 133) #[] #[.pointer (some ⟨b, 0, none⟩), .pointer (some ⟨b + 1, 0, none⟩), .pointer (some ⟨b + 2, 0, none⟩)] ∧ CapW W b R (.slice A l.length c)
    | _ => True) (by kernel_rfl) (by kernel_rfl) (by kernel_rfl) ?_ ?_ ?_
  · intro i v W1 W2 e1 e2 h
    match i, h with
    | 0, h => exact h
    | 1, h => exact h
    | 2, h => exact h
    | 3, h => exact h
    | 4, h => exact h
    | 5, h => exact h
    | 6, h => exact h
    | 7, ⟨b, h1, h2, h3⟩ => exact ⟨b, h1, h2, h3.ext e2⟩
    | (i + 8), h => exact h
  · refine locals_cons (fun u W hW hd => leaves_val rfl (v := .string (ofL k)) (by go_simp) rfl) ?_
    refine locals_cons (fun u W hW hd => leaves_val rfl (v := .pointer (some ⟨w.heap.size, 0, none⟩)) (by go_simp) rfl) ?_
    refine locals_cons (fun u W hW hd => ?_) ?_
    · have h1 : u 1 = _ := hd 1 (by kernel_rfl)
      have hc := (A0.ext hW A0.lt).cell 0
      exact leaves_val rfl (v := .string (ofL id)) (by go_simp) rfl
    refine locals_cons (fun u W hW hd => ?_) ?_
    · have h0 : u 0 = _ := hd 0 (by kernel_rfl)
      have h2 : u 2 = _ := hd 2 (by kernel_rfl)
      exact leaves_call rfl (f := 24) (args := #[.string (ofL k), .string (ofL id)]) (by go_simp) ((cR.out W (hT.ext (E0.tr hW))).mono (by rintro e9 W9 ⟨rfl, h9⟩; exact ⟨_, rfl, h9, rfl⟩))
    refine locals_cons (fun u W hW hd => ?_) ?_
    · have h3 : u 3 = _ := hd 3 (by kernel_rfl)
      exact leaves_val rfl (v := .agg #[.string (ofL R)]) (by go_simp) rfl
    refine locals_cons (fun u W hW hd => leaves_val rfl (v := .pointer (some ⟨w.heap.size, 1, none⟩)) (by go_simp) rfl) ?_
    refine locals_cons (fun u W hW hd => ?_) ?_
    · have h5 : u 5 = _ := hd 5 (by kernel_rfl)
      have hc := (A0.ext hW A0.lt).cell 1
      exact leaves_val rfl (v := .slice A l.length c) (by go_simp) rfl
    refine locals_cons (fun u W hW hd => ?_) locals_nil
    · have h4 : u 4 = _ := hd 4 (by kernel_rfl)
      have h6 : u 6 = _ := hd 6 (by kernel_rfl)
      exact leaves_call rfl (f := 108) (args := #[.agg #[.string (ofL R)], .slice A l.length c, .func (.func 109) #[] #[]]) (by go_simp) ((walk_any R A l.length c W).mono (by rintro e9 W9 ⟨b, hb, rfl, hcap, h9⟩; exact ⟨_, rfl, h9, b, by have := hW.size; omega, rfl, hcap⟩))
  · intro u W hW hV
    have h0 : u 0 = _ := hV 0 (by decide)
    have h1 : u 1 = _ := hV 1 (by decide)
    have h2 : u 2 = _ := hV 2 (by decide)
    have h3 : u 3 = _ := hV 3 (by decide)
    have h4 : u 4 = _ := hV 4 (by decide)
    have h5 : u 5 = _ := hV 5 (by decide)
    have h6 : u 6 = _ := hV 6 (by decide)
    obtain ⟨b, hb, h7, hcap⟩ := hV 7 (by decide)
    clear hV cR
    have EW := E0.tr hW
    have B1 := A1.ext hW A1.lt
    clear A0 A1
    go_wp2
    go_simp
    have hsW := EW.size
    have hbW := hcap.2.2.lt
    have hB0 : Below w.heap.size w W := EW
    obtain ⟨i0, hi, hz0, hz1, hz2⟩ := Tryz.elemStr.hi
    have hRl : RdLinks W w.heap.size (.slice A l.length c) l := HL.out.ext EW (Nat.le_refl _)
    have seq := walk1_seq (3 - 1) (by omega) b w.heap.size R l (.slice A l.length c) W (hT.ext EW) hT.1 (by omega) hcap hRl (by omega) hx
    rw [HEQ.out] at seq
    refine (wpIn_wide (n := 3)).1 ?_
    refine wpIn_range_C (F := Fence.wide) (n := 3) rfl (by omega) (gf := 133) (lb := #[.pointer (some ⟨b, 0, none⟩), .pointer (some ⟨b + 1, 0, none⟩), .pointer (some ⟨b + 2, 0, none⟩)]) rfl trivial (enters_of Tryz.func133 (by kernel_rfl) rfl)
      (encs := fun x => #[.string (ofL x)]) (C := fun r => r = b) seq (fun r e => by omega)
      (fun h1 h2 => ⟨h1.1.trans h2.1, h2.2.1.trans h1.2.1, h2.2.2.1.trans h1.2.2.1, h2.2.2.2.trans h1.2.2.2⟩)
      (fun W l o o' hl ho hc hw => ⟨belowK_b (w := w) (Nat.le_refl _) W l o o' (by omega) ho hc hw, World.putObj_heap_other (by omega), World.putObj_heap_other (by omega), World.putObj_heap_other (by omega)⟩) (Below.refl _ _) (fun _ => rfl)
      (TgI w b) (fun _ _ _ => False) ?hI (fun _ _ _ _ _ h _ _ => h.elim) ⟨EW, _, B1, World.ownsRow_nil _ _ _ _⟩
      (fun x => { tmps := #[.string (ofL k), .agg #[.string (ofL id), .slice A l.length c, .string (ofL tag)], undef, .pointer (some ⟨w.heap.size, 0, none⟩), .slice none 0 0, .pointer (some ⟨w.heap.size + 1, 0, none⟩), .string (ofL x), .string (ofL k), .pointer (some ⟨w.heap.size, 0, none⟩), .string (ofL id), .string (ofL R), .agg #[.string (ofL R)], .pointer (some ⟨w.heap.size, 1, none⟩), .slice A l.length c,
        .func (.func 133) #[] #[.pointer (some ⟨b, 0, none⟩), .pointer (some ⟨b + 1, 0, none⟩), .pointer (some ⟨b + 2, 0, none⟩)], .string (ofL x), undef, undef, undef, undef, undef], defers := [] }) ?assign ?body ?done ?stop
    case hI =>
      rintro pre X Y row ⟨h2, v, h5, h6⟩ hg hr
      refine ⟨h2.grown hg h2.size (fun k e => by rcases hr k e with h | ⟨h, _⟩ <;> omega), v, arr_kept h5 hg (fun r e => by rcases hr r e with h | ⟨h, _⟩ <;> omega), own_kept h6 hg fun r e => ?_⟩
      rcases hr r e with h | ⟨_, h⟩
      · exact .inl (by omega)
      · exact .inr h
    case assign =>
      intro l x W K hK
      gi_wp2
      exact hK
    case body =>
      rintro l' pre x V ⟨h2, v, h5, h6⟩ hlen hsz
      obtain ⟨c5, f5⟩ := arr_cell0 h5
      gi_wp2_with (gi_at_builtin; refine wpListIn_append_own _ rfl _ _ 23 rfl (b + 3) 9 i0 (.string ⟨#[]⟩) 1 16 Tryz.underlying23 hi hz0 hz1 hz2 rfl (by decide) _ _ _ rfl (h6.alloc _) ⟨V.heap.size, 0, none⟩ 1 1 [.string (ofL x)] rfl rfl (cell_one_new _ _ _) (by simp [Value.oneCell']) (by unfold maxLen; omega) (by omega) (by simp; omega) ?_; intro v' w1 hown' hgrow _; obtain ⟨g', cap', rfl⟩ := ownsRow_succ hown'; replace hgrow : (V.alloc (.cells #[.string (ofL x)] 9)).grownBy w1 v.ownBlock := hgrow; have hge : ∀ r, v.ownBlock = some r → b + 3 ≤ r := fun r e => (h6.lt r e).1; have b5 : Arr w1 (w.heap.size + 1) 23 [v] := arr_kept (h5.alloc _) hgrow (fun r e => by have := hge r e; omega); obtain ⟨c6, f6⟩ := arr_cell0 b5)
      have hB : Below (b + 3) V w1 := ((Below.refl _ V).alloc (by omega) _).grown hgrow (by simp; omega) hge
      have hlt' := hown'.lt g' rfl
      refine ⟨((KeepsOthers.alloc V _).trans ((KeepsOthers.of_grownBy hgrow fun j o ej hj => ?_).trans (KeepsOthers.setCell _ _ _))).from _, ⟨?_, (heap_setCell_other w1 ⟨w.heap.size + 1, 0, none⟩ b _ (by simp; omega)).trans (hB.block _ (by omega)), (heap_setCell_other w1 ⟨w.heap.size + 1, 0, none⟩ (b + 1) _ (by simp; omega)).trans (hB.block _ (by omega)), (heap_setCell_other w1 ⟨w.heap.size + 1, 0, none⟩ (b + 2) _ (by simp; omega)).trans (hB.block _ (by omega))⟩, ?_, _, arr_set0 b5 _, ?_⟩
      · rcases (h6.alloc (.cells #[.string (ofL x)] 9)).2 with ⟨rfl, _⟩ | ⟨g, cap, cur, rfl, _, hgb, _⟩
        · simp [Value.ownBlock] at ej
        · obtain rfl : g = j := by simpa [Value.ownBlock] using ej
          rw [hgb] at hj; cases hj; rfl
      · exact (((Below.refl w.heap.size V).alloc (by omega) _).grown hgrow (by simp; omega) (fun k e => by have := hge k e; omega)).setCell (p := ⟨w.heap.size + 1, 0, none⟩) (by simp) _
      · exact ((h2.al _).grown hgrow (by simp; omega) (fun k e => by have := hge k e; omega)).setCell (p := ⟨w.heap.size + 1, 0, none⟩) (by simp) _
      · have := hown'.kept (row := some (w.heap.size + 1)) (grownBy_setCell w1 (w.heap.size + 1) 0 (.slice (some ⟨g', 0, none⟩) (pre.length + 1) cap')) (.inr (by simp [Value.ownBlock]; omega))
        simpa [Str] using this
    case done =>
      rintro D xs V hD rfl ⟨h2, v, h5, h6⟩ hK
      obtain ⟨A', c', rfl⟩ := own_slice h6
      obtain ⟨c5, f5⟩ := arr_cell0 h5
      obtain ⟨kk, hkk⟩ : ∃ kk, xs.length = kk := ⟨_, rfl⟩
      rw [hkk] at h5 h6 c5
      have HK := Kp.mk hkk; clear hkk
      go_wp2
      refine ⟨by simp, .inl ⟨_, _, rfl, run_takeDeferred hK, ?_⟩⟩
      have q := own_eq (own_more (ownsRow_putObj h6 (.deferred none) hK rfl) (show w.heap.size ≤ b + 3 by omega)) rfl (show kk = l.length + 1 by rw [← HK.out, HLL.out])
      exact ⟨.slice A' kk c', by simp [results, Tryz.f74, go_sem], _, rfl, q, h2.grown (grownBy_putObj' _ D _) h2.size (fun r e => by cases e; omega)⟩
    case stop =>
      rintro D c pre V _ _ h _
      exact h.elim

set_option maxRecDepth 100000 in
set_option maxHeartbeats 1000000 in
theorem last_any (k id tag : List UInt8) (vl : Value) (l : List LinkL) (w : World) (hT : Tab w) (hk : k.length ≤ 100000) (hi : id.length ≤ 100000) (hl : RdLinks w w.heap.size vl l) (hx : Short1 l) (hln : l.length ≤ 1000000) :
    Calls Tryz.prog 34 #[.string (ofL k), tokV id vl tag] w fun e w' => e = .returned (.string (ofL (lastL k id l))) ∧ Ext w w' := by
  have E0 : Ext w (w.alloc (.cells #[.string (ofL id), vl, .string (ofL tag)] 33)) := (Ext.rfl' w).al _
  have c := Kp.mk (tags_any k id tag vl l _ (hT.ext E0) hk hi (hl.ext E0 (Nat.le_refl _) |>.more E0.size) hx hln)
  have hg := tagsL_get k id l l.length (Nat.le_refl _)
  rw [List.take_length] at hg
  obtain ⟨X, hX⟩ : ∃ X, lastL k id l = X := ⟨_, rfl⟩
  rw [hX] at hg ⊢
  have HG := Kp.mk hg
  obtain ⟨A, cc, rfl, hlm, _⟩ := hl.cells
  unfold tokV at *
  have w2 : (l.length : Int) + 1 - 1 = l.length := by omega
  have w1 : IntKind.i64.wrap (l.length : Int) = l.length := IntWalk.i64_in _ (by omega)
  clear hg hX hl
  go_enter Tryz.func34, Tryz.ntmps34
  go_wp2_with fail
  refine c.out.mono ?_
  rintro e w1' ⟨v, rfl, hown, E1⟩
  obtain ⟨g, cap, rfl⟩ := ownsRow_succ hown
  have hc : w1'.cell? ⟨g, l.length, none⟩ = some (.string (ofL X)) := by
    rw [hown.cellAt l.length (by omega), List.getElem?_map, HG.out]; rfl
  clear hown
  go_wp2
  go_ret
  exact ⟨rfl, E0.tr E1⟩
end Go.Proofs.YtejhiekikblbiaaGreatDoor

namespace Go.Proofs.YtejhiekikblbiaaGreatDoor
open Go.RowKit

theorem tagsL_snoc (k id : List UInt8) (l : List LinkL) (x : LinkL) : tagsL k id (l ++ [x]) = tagsL k id l ++ [lastL k id (l ++ [x])] := by
  have key : ∀ (l : List LinkL) (t : List UInt8), moreL t (l ++ [x]) = moreL t l ++ [nextL (foldT t l) x] := by
    intro l
    induction l with
    | nil => intro t; rfl
    | cons y l ih => intro t; rw [List.cons_append, moreL, ih, moreL]; rfl
  unfold tagsL
  rw [key, lastL_snoc]; rfl
theorem take_snoc {α : Type} (l : List α) (k : Nat) (h : k < l.length) : l.take (k + 1) = l.take k ++ [l[k]] := List.take_succ_eq_append_getElem h
/-- A link of links that are only read. -/
theorem RdLinks.link {w : World} {B : Nat} {A : Option Addr} {n c : Nat} {l : List LinkL} (h : RdLinks w B (.slice A n c) l) (h0 : 0 < l.length) : ∃ b off, A = some ⟨b, off, none⟩ ∧ b < B ∧ ∀ k (hk : k < l.length), w.cell? ⟨b, off + k * 2, none⟩ = some (.string (ofL l[k].1)) ∧ w.cell? ⟨b, off + k * 2 + 1, none⟩ = some (.string (ofL l[k].2)) := by
  obtain ⟨A', c', e, _, hc⟩ := h.cells
  cases e
  exact hc h0

set_option maxRecDepth 100000 in
set_option maxHeartbeats 2000000 in
theorem rtags_any (k id tag : List UInt8) (vl : Value) (l : List LinkL) (w : World) (hk : k.length ≤ 100000) (hi : id.length ≤ 100000) (hl : RdLinks w w.heap.size vl l) (hx : Short1 l) (hln : l.length ≤ 1000000) :
    Calls Tryz.prog 48 #[.string (ofL k), tokV id vl tag] w (RetOwn w 9 1 (l.length + 1) ((tagsL k id l).map Str)) := by
  obtain ⟨A, c, rfl, hlm, hcells⟩ := hl.cells
  have HC := Kp.mk hcells
  have HX := Kp.mk hx
  have A0 := Arr.new w 33 [.string (ofL id), .slice A l.length c, .string (ofL tag)]
  have E0 : Ext w (w.alloc (.cells [.string (ofL id), .slice A l.length c, .string (ofL tag)].toArray 33)) := (Ext.rfl' w).al _
  have cP := Kp.mk (fun (t : List UInt8) (ps : List (List UInt8)) (v : Value) (W : World) (h1 : t.length ≤ 100000) (h2 : Rd W W.heap.size 1 v ps.length (ps.map Str)) (h3 : (frameL ps).length ≤ 800000) => rparts_any t ps v W (by omega) h2 h3)
  unfold tokV
  clear hcells hx hl
  go_enter Tryz.func48, Tryz.ntmps48
  go_wp2_with fail
  refine (rrootParts_any id _).mono ?_
  rintro e w1 ⟨v1, rfl, own1, E1⟩
  have F1 := E0.tr E1
  have E0s : w.heap.size + 1 ≤ w1.heap.size := by have := E1.size; simp at this; omega
  have B1 := A0.ext E1 A0.lt
  obtain ⟨X, hX⟩ : ∃ X, lastL k id [] = X := ⟨_, rfl⟩
  have lX : X.length = 32 := by rw [← hX]; exact length_lastL _ _ _
  have cR := Kp.mk (show Calls Tryz.prog 43 #[.string (ofL k), v1] w1 fun e w' => e = .returned (.string (ofL X)) ∧ Ext w1 w' from by rw [← hX]; exact cP.out k (rootParts id) v1 w1 hk (Rd.own own1 (by decide)) (by rw [len_root]; omega))
  have HX0 := Kp.mk hX
  clear own1 E1 E0 A0 hX
  go_wp2_with fail
  refine cR.out.mono ?_
  rintro e w2 ⟨rfl, E2⟩
  have F2 := F1.tr E2
  have F2s := E2.size
  have B2 := (B1.ext E2 B1.lt).alloc (.cells #[.string (ofL X)] 9)
  have O2 : (w2.alloc (.cells #[.string (ofL X)] 9)).ownsRow (w.heap.size + 1) 9 1 (.slice (some ⟨w2.heap.size, 0, none⟩) 1 1) 1 [.string (ofL X)] := World.ownsRow_lit w2 #[.string (ofL X)] 1 (by have h1 := E0s; have h2 := F2s; omega) (by decide) rfl
  have G2 := F2.al (.cells #[.string (ofL X)] 9)
  clear cR F1 B1 E2 F2 E0s F2s
  go_wp2_with fail
  go_loopw [7, 5, 6] (fun i t o wr => ∃ (j : Nat) (T : List UInt8) (v : Value), v = o ∧ j ≤ l.length ∧ i = .int .i64 j ∧ t = .string (ofL T) ∧ T.length = 32 ∧ T = lastL k id (l.take j) ∧ Ext w wr ∧ Arr wr w.heap.size 33 [.string (ofL id), .slice A l.length c, .string (ofL tag)] ∧ wr.ownsRow (w.heap.size + 1) 9 1 v (j + 1) ((tagsL k id (l.take j)).map Str)) (fun i _ _ _ => l.length - (intOf i).toNat)
  case atStart => exact ⟨0, X, _, rfl, by omega, rfl, rfl, lX, HX0.out.symm, G2, B2, own_eq O2 (by rw [← HX0.out]; rfl) rfl⟩
  case round =>
    clear G2 B2 O2 HX0 lX
    obtain ⟨j, T, v, rfl, hj, rfl, rfl, lT, hT0, hE, hA, hown⟩ := hrel
    have HT := Kp.mk hT0; clear hT0
    have c1 := hA.cell 1
    simp only [List.getElem?_cons_zero, List.getElem?_cons_succ] at c1
    by_cases hlt : j < l.length
    · obtain ⟨b, off, rfl, hb, hc⟩ := HC.out (by omega)
      obtain ⟨⟨xa, xb⟩, hxe⟩ : ∃ x, l[j] = x := ⟨_, rfl⟩
      have q1 := ((bcell hE).1 b (off + j * 2) hb).trans (hc j hlt).1
      have q2 := ((bcell hE).1 b (off + j * 2 + 1) hb).trans (hc j hlt).2
      rw [hxe] at q1 q2
      have hxl : xa.length + xb.length ≤ 200000 := by have := HX.out _ (List.getElem_mem hlt); rw [hxe] at this; exact this
      have hls := Kp.mk (show lastL k id (l.take (j + 1)) = nextL T (xa, xb) by rw [take_snoc l j hlt, lastL_snoc, ← HT.out, hxe])
      have hts := Kp.mk (show tagsL k id (l.take (j + 1)) = tagsL k id (l.take j) ++ [nextL T (xa, xb)] by rw [take_snoc l j hlt, tagsL_snoc, ← take_snoc l j hlt, hls.out])
      obtain ⟨Y, hY⟩ : ∃ Y, nextL T (xa, xb) = Y := ⟨_, rfl⟩
      have lY : Y.length = 32 := by rw [← hY]; exact length_partsL _ _
      have hYk := Kp.mk hY
      have hszw : w.heap.size + 1 ≤ wr.heap.size := hA.lt
      rw [hY] at hls hts
      clear hc hxe hY HT
      go_wp2_with fail
      refine (rnextParts_any (xa, xb) _).mono ?_
      rintro e w3 ⟨v3, rfl, own3, E3⟩
      have cN := Kp.mk (show Calls Tryz.prog 43 #[.string (ofL T), v3] w3 fun e w' => e = .returned (.string (ofL Y)) ∧ Ext w3 w' from by rw [← hYk.out]; exact cP.out T (nextParts (xa, xb)) v3 w3 (by omega) (Rd.own own3 (by decide)) (by have := len_next (xa, xb); simp only at this; omega))
      have hown3 := own_ext hown (fun i _ hi => E3.block i hi)
      have F3 := hE.tr E3
      have A3 := hA.ext E3 hA.lt
      clear own3 E3 hown hE hA c1 q1 q2
      go_wp2_with fail
      refine cN.out.mono ?_
      rintro e w4 ⟨rfl, E4⟩
      have hown4 := own_ext hown3 (fun i _ hi => E4.block i hi)
      have F4 := F3.tr E4
      have A4 := A3.ext E4 A3.lt
      have hsz4 : w.heap.size + 1 ≤ w4.heap.size := A4.lt
      clear hown3 F3 A3 cN E4
      go_wp2_with (at_builtin; refine wpl_app Tryz.elemStr rfl _ _ rfl hown4 1 rfl rfl rfl (by intro u hu; simp at hu; rw [hu]; rfl) (by omega) (by omega) (by omega) ?_; intro v5 w5 hown5 hg5; have F5 := F4.own hg5 hown4 (by omega); have A5 : Arr w5 w.heap.size 33 [.string (ofL id), .slice (some ⟨b, off, none⟩) l.length c, .string (ofL tag)] := arr_kept A4 hg5 (fun r e => by have := (hown4.lt r e).1; omega); clear hown4 hg5 F4 A4)
      go_roundw
      case rel => exact ⟨j + 1, Y, v5, rfl, by omega, by go_num, rfl, lY, hls.out.symm, F5, A5, own_eq hown5 (by rw [hts.out, List.map_append]; rfl) rfl⟩
      case measure => simp [intOf]; omega
    · have ht := Kp.mk (show l.take j = l from List.take_of_length_le (by omega))
      rw [ht.out] at hown
      have hj2 : j = l.length := by omega
      clear ht HT
      go_wp2
      go_ret
      exact ⟨v, rfl, own_eq (own_more hown (by omega)) rfl (by omega), hE⟩

/-- The texts of a token's tags up to some link. -/
theorem textsL_take (k id : List UInt8) (l : List LinkL) (j : Nat) (h : j < l.length) : textsL k id (l.take (j + 1)) = textsL k id (l.take j) ++ pairT (lastL k id (l.take j)) (nextParts l[j]) := by rw [take_snoc l j h, textsL_snoc]
theorem length_textsL (k id : List UInt8) (l : List LinkL) : (textsL k id l).length = 2 + 2 * l.length := by unfold textsL; rw [List.length_append, length_moreT]; rfl

set_option maxRecDepth 100000 in
set_option maxHeartbeats 4000000 in
theorem rctexts_any (k id tag : List UInt8) (vl : Value) (l : List LinkL) (w : World) (hk : k.length ≤ 100000) (hi : id.length ≤ 100000) (hl : RdLinks w w.heap.size vl l) (hx : Short1 l) (hln : l.length ≤ 1000000) :
    Calls Tryz.prog 49 #[.string (ofL k), tokV id vl tag] w (RetOwn w 9 1 (2 + 2 * l.length) ((textsL k id l).map Str)) := by
  have E0 : Ext w (w.alloc (.cells #[.string (ofL id), vl, .string (ofL tag)] 33)) := (Ext.rfl' w).al _
  have cT := Kp.mk (rtags_any k id tag vl l _ hk hi (hl.ext E0 (Nat.le_refl _) |>.more E0.size) hx hln)
  obtain ⟨A, c, rfl, hlm, hcells⟩ := hl.cells
  have HC := Kp.mk hcells
  have HX := Kp.mk hx
  have A0 := Arr.new w 33 [.string (ofL id), .slice A l.length c, .string (ofL tag)]
  unfold tokV at *
  clear hcells hx hl
  go_enter Tryz.func49, Tryz.ntmps49
  go_wp2_with fail
  refine cT.out.mono ?_
  rintro e w1 ⟨v1, rfl, own1, E1⟩
  have F1 := E0.tr E1
  have B1 := A0.ext E1 A0.lt
  have hs1 : w.heap.size + 1 ≤ w1.heap.size := B1.lt
  obtain ⟨gt, ct, rfl⟩ := ownsRow_succ own1
  have hgt := (own1.lt gt rfl).2
  have TC := Kp.mk (show ∀ W, Ext w1 W → ∀ j, j ≤ l.length → W.cell? ⟨gt, j, none⟩ = some (.string (ofL (lastL k id (l.take j)))) from fun W hW j hj => by
    rw [(bcell hW).1 gt j hgt, own1.cellAt j (by omega), List.getElem?_map, tagsL_get k id l j hj]; rfl)
  clear cT own1 E1 E0 A0
  have q0 := B1.cell 0
  simp only [List.getElem?_cons_zero] at q0
  go_wp2_with fail
  refine (rrootParts_any id _).mono ?_
  rintro e w2 ⟨v2, rfl, own2, E2⟩
  have F2 := F1.tr E2
  have B2 := B1.ext E2 B1.lt
  have cF := Kp.mk (rframe_any (rootParts id) v2 w2 (Rd.own own2 (by decide)) (by rw [len_root]; omega))
  have T2 := E2
  clear own2 F1 B1 E2 q0
  go_wp2_with fail
  refine cF.out.mono ?_
  rintro e w3 ⟨rfl, E3⟩
  have F3 := F2.tr E3
  have B3 := B2.ext E3 B2.lt
  have T3 := T2.tr E3
  have hs31 : w1.heap.size ≤ w3.heap.size := T3.size
  clear cF F2 B2 E3 T2
  have c4 := Kp.mk (rtexts_any k (frameL (rootParts id)) w3 (by omega) (by rw [len_root]; omega))
  go_wp2_with fail
  refine c4.out.mono ?_
  rintro e w4 ⟨v4, rfl, own4, E4⟩
  have F4 := F3.tr E4
  have B4 := B3.ext E4 B3.lt
  have T4 := T3.tr E4
  have O4 := own_more own4 hs31
  clear c4 own4 F3 B3 E4 T3
  go_wp2_with fail
  go_loopw [7, 6] (fun i o wr => ∃ (j : Nat) (v : Value), v = o ∧ j ≤ l.length ∧ i = .int .i64 j ∧ Ext w wr ∧ Ext w1 wr ∧ Arr wr w.heap.size 33 [.string (ofL id), .slice A l.length c, .string (ofL tag)] ∧ wr.ownsRow w1.heap.size 9 1 v (2 + 2 * j) ((textsL k id (l.take j)).map Str)) (fun i _ _ => l.length - (intOf i).toNat)
  case atStart => exact ⟨0, v4, rfl, by omega, rfl, F4, T4, B4, O4⟩
  case round =>
    clear F4 T4 B4 O4
    obtain ⟨j, vo, rfl, hj, rfl, hE, hE1, hA, hown⟩ := hrel
    have c1 := hA.cell 1
    simp only [List.getElem?_cons_zero, List.getElem?_cons_succ] at c1
    by_cases hlt : j < l.length
    · obtain ⟨b, off, rfl, hb, hc⟩ := HC.out (by omega)
      obtain ⟨⟨xa, xb⟩, hxe⟩ : ∃ x, l[j] = x := ⟨_, rfl⟩
      have q := Kp.mk (show ∀ W, Ext wr W → W.cell? ⟨b, off + j * 2, none⟩ = some (.string (ofL xa)) ∧ W.cell? ⟨b, off + j * 2 + 1, none⟩ = some (.string (ofL xb)) from fun W hW => by
        have h1 := ((bcell (hE.tr hW)).1 b (off + j * 2) hb).trans (hc j hlt).1
        have h2 := ((bcell (hE.tr hW)).1 b (off + j * 2 + 1) hb).trans (hc j hlt).2
        rw [hxe] at h1 h2
        exact ⟨h1, h2⟩)
      have hxl : xa.length + xb.length ≤ 200000 := by have := HX.out _ (List.getElem_mem hlt); rw [hxe] at this; exact this
      obtain ⟨T, hT⟩ : ∃ T, lastL k id (l.take j) = T := ⟨_, rfl⟩
      have lT : T.length = 32 := by rw [← hT]; exact length_lastL _ _ _
      have tc := Kp.mk (show ∀ W, Ext wr W → W.cell? ⟨gt, j, none⟩ = some (.string (ofL T)) from fun W hW => by rw [← hT]; exact TC.out W (hE1.tr hW) j hj)
      obtain ⟨P, hP⟩ : ∃ P, nextParts (xa, xb) = P := ⟨_, rfl⟩
      have hPl : (frameL P).length ≤ 400000 := by have := len_next (xa, xb); rw [← hP]; simp only at this; omega
      have hts := Kp.mk (show textsL k id (l.take (j + 1)) = textsL k id (l.take j) ++ [innerL T (frameL P), outerL T (frameL P)] by rw [textsL_take k id l j hlt, hT, hxe, hP]; rfl)
      have cN := Kp.mk (show ∀ W, Calls Tryz.prog 89 #[.agg #[.string (ofL xa), .string (ofL xb)]] W fun e w' => ∃ v, e = .returned v ∧ Ext W w' ∧ Rd w' w'.heap.size 1 v P.length (P.map Str) from fun W => (rnextParts_any (xa, xb) W).mono fun e w' ⟨v, h1, h2, h3⟩ => ⟨v, h1, h3, by rw [← hP]; exact Rd.own h2 (by decide)⟩)
      have cF := Kp.mk (show ∀ W v, Rd W W.heap.size 1 v P.length (P.map Str) → Calls Tryz.prog 38 #[v] W fun e w' => e = .returned (.string (ofL (frameL P))) ∧ Ext W w' from fun W v h => rframe_any P v W h (by omega))
      obtain ⟨G, hG⟩ : ∃ G, frameL P = G := ⟨_, rfl⟩
      rw [hG] at hts cF hPl
      have cX := Kp.mk (show ∀ W, Calls Tryz.prog 52 #[.string (ofL T), .string (ofL G)] W fun e w' => ∃ v, e = .returned v ∧ Ext W w' ∧ Rd w' w'.heap.size 1 v 2 [Str (innerL T G), Str (outerL T G)] from fun W => (rtexts_any T G W (by omega) (by omega)).mono fun e w' ⟨v, h1, h2, h3⟩ => ⟨v, h1, h3, Rd.own h2 (by decide)⟩)
      have hszw : w1.heap.size ≤ wr.heap.size := hE1.size
      clear hc hxe hT hP hG hxl
      go_upto_region 6 with fail
      refine wp_region_tails (fun i v W => match i with
        | 0 => v = vo
        | 1 => v = .slice (some ⟨gt, 0, none⟩) (l.length + 1) ct
        | 2 => v = .int .i64 j
        | 3 => v = .pointer (some ⟨gt, j, none⟩)
        | 4 => v = .string (ofL T)
        | 5 => v = .pointer (some ⟨w.heap.size, 1, none⟩)
        | 6 => v = .slice (some ⟨b, off, none⟩) l.length c
        | 7 => v = .int .i64 j
        | 8 => v = .pointer (some ⟨b, off + j * 2, none⟩)
        | 9 => v = .agg #[.string (ofL xa), .string (ofL xb)]
        | 10 => Rd W W.heap.size 1 v P.length (P.map Str)
        | 11 => v = .string (ofL G)
        | 12 => Rd W W.heap.size 1 v 2 ([Str (innerL T G), Str (outerL T G)])
        | _ => True) 13 (by kernel_rfl) (by kernel_rfl) (by kernel_rfl) (by decide) (by kernel_rfl) (by kernel_rfl) (by kernel_rfl) ?_ ?_ ?_
      · intro i v W1 W2 e1 e2 h
        match i, h with
        | 0, h => exact h
        | 1, h => exact h
        | 2, h => exact h
        | 3, h => exact h
        | 4, h => exact h
        | 5, h => exact h
        | 6, h => exact h
        | 7, h => exact h
        | 8, h => exact h
        | 9, h => exact h
        | 10, h => exact rd_at h e2
        | 11, h => exact h
        | 12, h => exact rd_at h e2
        | (i + 13), h => exact h
      · refine localsR_cons (fun u W hW hd => leaves_val rfl (v := vo) (by go_simp) rfl) ?_
        refine localsR_cons (fun u W hW hd => leaves_val rfl (v := .slice (some ⟨gt, 0, none⟩) (l.length + 1) ct) (by go_simp) rfl) ?_
        refine localsR_cons (fun u W hW hd => leaves_val rfl (v := .int .i64 j) (by go_simp) rfl) ?_
        refine localsR_cons (fun u W hW hd => ?_) ?_
        · have h1 : u 1 = _ := hd 1 (by kernel_rfl)
          have h2 : u 2 = _ := hd 2 (by kernel_rfl)
          exact leaves_val rfl (v := .pointer (some ⟨gt, j, none⟩)) (by go_simp; omega) rfl
        refine localsR_cons (fun u W hW hd => ?_) ?_
        · have h3 : u 3 = _ := hd 3 (by kernel_rfl)
          have hc := tc.out W hW
          exact leaves_val rfl (v := .string (ofL T)) (by go_simp) rfl
        refine localsR_cons (fun u W hW hd => leaves_val rfl (v := .pointer (some ⟨w.heap.size, 1, none⟩)) (by go_simp) rfl) ?_
        refine localsR_cons (fun u W hW hd => ?_) ?_
        · have h5 : u 5 = _ := hd 5 (by kernel_rfl)
          have hc := (hA.ext hW hA.lt).cell 1
          exact leaves_val rfl (v := .slice (some ⟨b, off, none⟩) l.length c) (by go_simp) rfl
        refine localsR_cons (fun u W hW hd => leaves_val rfl (v := .int .i64 j) (by go_simp) rfl) ?_
        refine localsR_cons (fun u W hW hd => ?_) ?_
        · have h6 : u 6 = _ := hd 6 (by kernel_rfl)
          have h7 : u 7 = _ := hd 7 (by kernel_rfl)
          exact leaves_val rfl (v := .pointer (some ⟨b, off + j * 2, none⟩)) (by go_simp) rfl
        refine localsR_cons (fun u W hW hd => ?_) ?_
        · have h8 : u 8 = _ := hd 8 (by kernel_rfl)
          have hc := (q.out W hW).1
          have hc2 := (q.out W hW).2
          exact leaves_val rfl (v := .agg #[.string (ofL xa), .string (ofL xb)]) (by go_simp) rfl
        refine localsR_cons (fun u W hW hd => ?_) ?_
        · have h9 : u 9 = _ := hd 9 (by kernel_rfl)
          exact leaves_call rfl (f := 89) (args := #[.agg #[.string (ofL xa), .string (ofL xb)]]) (by go_simp) (cN.out W)
        refine localsR_cons (fun u W hW hd => ?_) ?_
        · have h10 := hd 10 (by kernel_rfl)
          exact leaves_call rfl (f := 38) (args := #[u 10]) (by go_simp) ((cF.out W _ h10).mono (by rintro e9 W9 ⟨rfl, h9⟩; exact ⟨_, rfl, h9, rfl⟩))
        refine localsR_cons (fun u W hW hd => ?_) localsR_nil
        · have h4 : u 4 = _ := hd 4 (by kernel_rfl)
          have h11 : u 11 = _ := hd 11 (by kernel_rfl)
          exact leaves_call rfl (f := 52) (args := #[.string (ofL T), .string (ofL G)]) (by go_simp) (cX.out W)
      · intro u W hW hV
        have h0 : u 0 = vo := hV 0 (by decide)
        obtain ⟨Ax, cx, h12, _, _, hcx⟩ := hV 12 (by decide)
        clear hV
        obtain ⟨bx, ox, rfl, hbx, hcx⟩ := hcx (by omega)
        have hown2 := own_ext hown (fun j _ hj => hW.block j hj)
        have hEW := hE.tr hW
        have hEW1 := hE1.tr hW
        have hAW := hA.ext hW hA.lt
        have hsW := hW.size
        refine wpl_app_at Tryz.elemStr rfl _ _ rfl hown2 2 (by go_simp) (by go_simp; exact ⟨rfl, rfl⟩) rfl (fun j u hu => by rw [WideShapes.add_plain]; exact hcx j u hu) (by intro u hu; simp at hu; rcases hu with rfl | rfl <;> rfl) (by omega) (by omega) (by omega) ?_
        intro v2 w2 hown3 hg3
        have hE3 := hEW.own hg3 hown2 (by omega)
        have hE31 : Ext w1 w2 := hEW1.own hg3 hown2 (Nat.le_refl _)
        have hA3 := arr_kept hAW hg3 (fun r e => by have := (hown2.lt r e).1; omega)
        clear hown2 hown hEW hEW1 hAW hg3 hE hE1 hA
        go_wp2
        go_roundw
        case rel => exact ⟨j + 1, v2, rfl, by omega, by go_num, hE3, hE31, hA3, own_eq hown3 (by rw [hts.out, List.map_append]; rfl) (by omega)⟩
        case measure => simp [intOf]; omega
    · have ht := Kp.mk (show l.take j = l from List.take_of_length_le (by omega))
      rw [ht.out] at hown
      have hj2 : j = l.length := by omega
      clear ht
      go_wp2
      go_ret
      exact ⟨vo, rfl, own_eq (own_more hown (by omega)) rfl (by omega), hE⟩
end Go.Proofs.YtejhiekikblbiaaGreatDoor
