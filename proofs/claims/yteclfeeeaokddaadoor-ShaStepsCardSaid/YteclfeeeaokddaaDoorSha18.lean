/-
  Package sha's reference: the constants out of cube roots: a number added at a digit. Condition: digits below 2 to the 32.
-/
import Derived.Test.YteclfeeeaokddaaDoorSha15
namespace Go.Proofs.YteclfeeeaokddaaDoor
open Go.RowKit

/-! ### plain -/
/-- Digits with p added at the first, q at the second, and what is carried. -/
def addP : List Nat → Nat → Nat → Nat → List Nat
  | [], _, _, _ => []
  | x :: r, p, q, c => ((x + p + c) % 4294967296) :: addP r q 0 ((x + p + c) / 4294967296)
def putL (l : List Nat) (at' n : Nat) : List Nat := l.take at' ++ addP (l.drop at') (n % 4294967296) (n / 4294967296) 0
def Dig (l : List Nat) : Prop := ∀ x ∈ l, x < 4294967296
theorem length_addP : ∀ (l : List Nat) (p q c : Nat), (addP l p q c).length = l.length
  | [], _, _, _ => rfl
  | x :: r, p, q, c => by unfold addP; rw [List.length_cons, length_addP r, List.length_cons]
theorem length_putL (l : List Nat) (a n : Nat) : (putL l a n).length = l.length := by unfold putL; rw [List.length_append, length_addP, List.length_take, List.length_drop]; omega
theorem dig_addP : ∀ (l : List Nat) (p q c : Nat), Dig (addP l p q c)
  | [], _, _, _ => by intro x hx; cases hx
  | x :: r, p, q, c => by
    intro y hy
    unfold addP at hy
    rcases List.mem_cons.1 hy with rfl | hy
    · exact Nat.mod_lt _ (by decide)
    · exact dig_addP r _ _ _ y hy
theorem dig_putL {l : List Nat} (h : Dig l) (a n : Nat) : Dig (putL l a n) := by
  intro x hx
  unfold putL at hx
  rcases List.mem_append.1 hx with hx | hx
  · exact h x (List.mem_of_mem_take hx)
  · exact dig_addP _ _ _ _ x hx
/-- What is added at digit i. -/
def pOf (at' n i : Nat) : Nat := if i = at' then n % 4294967296 else if i = at' + 1 then n / 4294967296 else 0
theorem pOf_at (a n : Nat) : pOf a n a = n % 4294967296 := if_pos rfl
theorem pOf_next (a n : Nat) : pOf a n (a + 1) = n / 4294967296 := by unfold pOf; rw [if_neg (by omega), if_pos rfl]
theorem pOf_past (a n i : Nat) (h : a + 1 < i) : pOf a n i = 0 := by unfold pOf; rw [if_neg (by omega), if_neg (by omega)]
theorem pOf_lt (a n i : Nat) (hn : n < 18446744073709551616) : pOf a n i < 4294967296 := by
  unfold pOf
  split
  · exact Nat.mod_lt _ (by decide)
  · split
    · exact Nat.div_lt_of_lt_mul hn
    · decide

abbrev V64 (x : Nat) : Value := .int .u64 x
theorem Tryd.elemU64 : Elem Tryd.prog 60 49 (.int .u64 0) 1 8 := ⟨Tryd.underlying60, info_parts (by kernel_rfl), rfl, by decide⟩
def PutPost (w : World) (g n cap base : Nat) (l : List Nat) (e : Ending) (w' : World) : Prop := e = .returned (.tuple #[]) ∧ w'.ownsRow base 49 1 (.slice (some ⟨g, 0, none⟩) n cap) n (l.map V64) ∧ Below base w w'

set_option maxRecDepth 100000 in
set_option maxHeartbeats 2000000 in
theorem put_any (g len cap base at' n : Nat) (l : List Nat) (w : World) (hown : w.ownsRow base 49 1 (.slice (some ⟨g, 0, none⟩) len cap) len (l.map V64)) (hd : Dig l) (hl : len ≤ 1000) (ha : at' + 1 ≤ len) (hn : n < 18446744073709551616) :
    Calls Tryd.prog 37 #[.slice (some ⟨g, 0, none⟩) len cap, .int .i64 at', V64 n] w (PutPost w g len cap base (putL l at' n)) := by
  have hll : l.length = len := by simpa using hown.1
  go_enter Tryd.func37, Tryd.ntmps37
  go_wp2
  go_loopw [6, 7] (fun x6 x7 wr => ∃ i c : Nat, ∃ cur : List Nat, x7 = .int .i64 i ∧ x6 = V64 c ∧ at' ≤ i ∧ i ≤ len ∧ c ≤ 3 ∧ cur.length = len ∧ Dig cur ∧ wr.ownsRow base 49 1 (.slice (some ⟨g, 0, none⟩) len cap) len (cur.map V64) ∧ Below base w wr ∧
    cur.take i ++ addP (cur.drop i) (pOf at' n i) (pOf at' n (i + 1)) c = putL l at' n) (fun _ x7 _ => len - (intOf x7).toNat)
  case atStart => exact ⟨at', 0, l, rfl, rfl, by omega, by omega, by omega, hll, hd, hown, Below.refl _ _, by rw [pOf_at, pOf_next]; rfl⟩
  case round =>
    clear hown hd hll
    obtain ⟨i, c, cur, rfl, rfl, hi1, hi2, hc, hcl, hd, hown, hB, hs0⟩ := hrel
    have HS := Kp.mk hs0; clear hs0
    have HCL := Kp.mk hcl; clear hcl
    by_cases hlt : i < len
    · obtain ⟨x, hx⟩ : ∃ x, cur[i]'(by have := HCL.out; omega) = x := ⟨_, rfl⟩
      have hxB : x < 4294967296 := by rw [← hx]; exact hd _ (List.getElem_mem _)
      obtain ⟨p, hp⟩ : ∃ p, pOf at' n i = p := ⟨_, rfl⟩
      have hpB : p < 4294967296 := by rw [← hp]; exact pOf_lt _ _ _ hn
      obtain ⟨hcell, hfro⟩ := own_cell hown i hlt
      rw [List.getElem_map, hx] at hcell
      have hb := hown.lt g rfl
      obtain ⟨y, hy⟩ : ∃ y, (x + p + c) % 4294967296 = y := ⟨_, rfl⟩
      obtain ⟨c2, hc2⟩ : ∃ c2, (x + p + c) / 4294967296 = c2 := ⟨_, rfl⟩
      have hst := HS.out
      rw [List.drop_eq_getElem_cons (by have := HCL.out; omega), hx, addP, hp, hy, hc2] at hst
      have hown2 := (hown.stored i (V64 y)).1
      have hyB : y < 4294967296 := by rw [← hy]; exact Nat.mod_lt _ (by decide)
      have HN := Kp.mk (show (cur.set i y).take (i + 1) ++ addP ((cur.set i y).drop (i + 1)) (pOf at' n (i + 1)) (pOf at' n (i + 1 + 1)) c2 = putL l at' n by
        rw [pOf_past at' n (i + 1 + 1) (by omega), ← hst, List.take_succ_eq_append_getElem (by rw [List.length_set]; have := HCL.out; omega), List.getElem_set_self, List.take_set_of_le (Nat.le_refl _), List.drop_set_of_lt (by omega), List.append_assoc]
        rfl)
      have HD := Kp.mk (show Dig (cur.set i y) from fun z hz => by
        rcases List.mem_or_eq_of_mem_set hz with h | h
        · exact hd z h
        · rw [h]; exact hyB)
      have HO := Kp.mk hown2
      have e1 : ((x : Int) + p + c) % 4294967296 = y := by omega
      have e2 : ((x : Int) + p + c) / 4294967296 = c2 := by omega
      have hc3 : c2 ≤ 3 := by omega
      clear hst hown2 hx hy hc2 HS hd
      by_cases h1 : i = at'
      · subst h1
        have e0 : (n : Int) % 4294967296 = p := by rw [pOf_at] at hp; omega
        have ne : ((i : Int) == (i : Int) + 1) = false := by simp; omega
        clear hp
        go_wp2
        go_roundw
        case rel => exact ⟨i + 1, c2, cur.set i y, by go_num, by first | rfl | (congr 1), by omega, by omega, hc3, by rw [List.length_set]; exact HCL.out, HD.out, by simpa using HO.out, hB.setCell hb.1 _, HN.out⟩
        case measure => simp [intOf]; omega
      · by_cases h2 : i = at' + 1
        · subst h2
          have e0 : (n : Int) / 4294967296 = p := by rw [pOf_next] at hp; omega
          have ne : ((at' : Int) + 1 == (at' : Int)) = false := by simp; omega
          clear hp
          go_wp2
          go_roundw
          case rel =>
            try simp only [e1]
            try simp only [e2]
            exact ⟨at' + 1 + 1, c2, cur.set (at' + 1) y, by go_num, by first | rfl | (congr 1), by omega, by omega, hc3, by rw [List.length_set]; exact HCL.out, HD.out, by simpa using HO.out, hB.setCell hb.1 _, HN.out⟩
          case measure => simp [intOf]; omega
        · have e0 : p = 0 := by rw [pOf_past at' n i (by omega)] at hp; exact hp.symm
          have ne : ((i : Int) == (at' : Int)) = false := by simp; omega
          have ne2 : ((i : Int) == (at' : Int) + 1) = false := by simp; omega
          subst e0
          have f1 : ((x : Int) + c) % 4294967296 = y := by omega
          have f2 : ((x : Int) + c) / 4294967296 = c2 := by omega
          clear hp e1 e2
          go_wp2
          go_roundw
          case rel =>
            try simp only [f1]
            try simp only [f2]
            exact ⟨i + 1, c2, cur.set i y, by go_num, by first | rfl | (congr 1), by omega, by omega, hc3, by rw [List.length_set]; exact HCL.out, HD.out, by simpa using HO.out, hB.setCell hb.1 _, HN.out⟩
          case measure => simp [intOf]; omega
    · have hf : cur = putL l at' n := by
        have := HS.out
        rw [List.take_of_length_le (by have := HCL.out; omega), List.drop_of_length_le (by have := HCL.out; omega), addP, List.append_nil] at this
        exact this
      rw [hf] at hown
      clear hf HS
      go_wp2
      exact bodyPost_end (v := .tuple #[]) (by simp [results, Tryd.results37, go_sem]) rfl ⟨rfl, hown, hB⟩
end Go.Proofs.YteclfeeeaokddaaDoor
