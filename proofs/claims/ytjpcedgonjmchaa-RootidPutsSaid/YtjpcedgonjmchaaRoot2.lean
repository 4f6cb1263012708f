/-
  Package rootid and its reference: Get. Condition: the text is at most 1000000 bytes.
-/
import Derived.Test.YtjpcedgonjmchaaRoot
namespace Go.Proofs.Ytjpcedgonjmchaa
open Go.RowKit

def rootBeg (s : List UInt8) : RS := if (rByte (s, 0)).1 ≠ 1 then rFail (rByte (s, 0)).2 2 else (rByte (s, 0)).2
def rootName (s : List UInt8) : RS := if wordL (rText (rootBeg s) 32).1 = true then (rText (rootBeg s) 32).2 else rFail (rText (rootBeg s) 32).2 4
def numK (x : RS) : Nat × RS := rNum x 1099511627776
def rootGet (s : List UInt8) : Root × Int :=
  if (rEnd (numK (numK (numK (rootName s)).2).2).2).2 ≠ 0 then (⟨[], 0, 0, 0⟩, (rEnd (numK (numK (numK (rootName s)).2).2).2).2)
  else (⟨(rText (rootBeg s) 32).1, (numK (rootName s)).1, (numK (numK (rootName s)).2).1, (numK (numK (numK (rootName s)).2).2).1⟩, 0)

theorem numK_le (x : RS) : (numK x).1 ≤ 1099511627776 := rNum_le x _
theorem numK_len (x : RS) : (numK x).2.1.length ≤ x.1.length := rNum_len x _
theorem rText_len (x : RS) (m : Int) : (rText x m).2.1.length ≤ x.1.length := by
  have h := rNum_len x m.toNat
  rw [rText_eq]
  split
  · exact h
  · split
    · simp
    · simp; omega
theorem rFail_le (x : RS) (e : Int) : (rFail x e).1.length ≤ x.1.length := by unfold rFail; split <;> simp
theorem rByte_len (x : RS) : (rByte x).2.1.length ≤ x.1.length := by
  unfold rByte
  split
  · exact Nat.le_refl _
  · split
    · simp
    · simp

/-- The record's box. -/
def RtBox (w : World) (o : Nat) (t a b c : Value) : Prop := w.heap[o]? = some (.cells #[t, a, b, c] 23 (0, 0))
theorem RtBox.cells {w : World} {o : Nat} {t a b c : Value} (h : RtBox w o t a b c) : w.cell? ⟨o, 0, none⟩ = some t ∧ w.cell? ⟨o, 1, none⟩ = some a ∧ w.cell? ⟨o, 2, none⟩ = some b ∧ w.cell? ⟨o, 3, none⟩ = some c ∧ (∀ i, w.frozen? ⟨o, i, none⟩ = false) := by
  have hc := fun i => cell_of_row w o i _ _ _ h
  have hf := fun i => frozen_of_row w o i _ _ h
  exact ⟨hc 0, hc 1, hc 2, hc 3, hf⟩
theorem RtBox.lt {w : World} {o : Nat} {t a b c : Value} (h : RtBox w o t a b c) : o < w.heap.size := (Array.getElem?_eq_some_iff.1 h).1
theorem RtBox.ext {w w' : World} {o : Nat} {t a b c : Value} (h : RtBox w o t a b c) (hE : Ext w w') : RtBox w' o t a b c := (hE.block o h.lt).trans h
theorem Only.rt {g o : Nat} {w w' : World} {t a b c : Value} (hO : Only g w w') (h : RtBox w o t a b c) (hne : o ≠ g) : RtBox w' o t a b c := (hO.block o h.lt (by simpa using hne)).trans h
theorem RtBox.set1 {w : World} {o : Nat} {t a b c : Value} (h : RtBox w o t a b c) (u : Value) : RtBox (w.setCell ⟨o, 1, none⟩ u) o t u b c := heap_setCell_same w o 1 _ _ u h
theorem RtBox.set2 {w : World} {o : Nat} {t a b c : Value} (h : RtBox w o t a b c) (u : Value) : RtBox (w.setCell ⟨o, 2, none⟩ u) o t a u c := heap_setCell_same w o 2 _ _ u h
theorem RtBox.set3 {w : World} {o : Nat} {t a b c : Value} (h : RtBox w o t a b c) (u : Value) : RtBox (w.setCell ⟨o, 3, none⟩ u) o t a b u := heap_setCell_same w o 3 _ _ u h
theorem RtBox.set0 {w : World} {o : Nat} {t a b c : Value} (h : RtBox w o t a b c) (u : Value) : RtBox (w.setCell ⟨o, 0, none⟩ u) o u a b c := heap_setCell_same w o 0 _ _ u h
theorem RtBox.far {w : World} {o : Nat} {t a b c : Value} (h : RtBox w o t a b c) {p : Addr} (hp : o ≠ p.block) (u : Value) : RtBox (w.setCell p u) o t a b c := (Below.heap_setCell w p u o hp).trans h

set_option maxRecDepth 100000 in
set_option maxHeartbeats 2000000 in
theorem numbers_any (g o b : Nat) (x : RS) (t a1 a2 a3 : Value) (W0 w : World) (E0 : Ext W0 w) (hg : W0.heap.size ≤ g) (ho : W0.heap.size ≤ o) (hgo : o ≠ g) (hbo : b ≠ o) (hbg : b ≠ g) (h : Rdr w g true x.1 x.2) (hs : x.1.length ≤ 1000000) (hb : RtBox w o t a1 a2 a3)
    (p0 : w.cell? ⟨b, 0, none⟩ = some (.pointer (some ⟨o, 1, none⟩))) (p1 : w.cell? ⟨b, 1, none⟩ = some (.pointer (some ⟨o, 2, none⟩))) (p2 : w.cell? ⟨b, 2, none⟩ = some (.pointer (some ⟨o, 3, none⟩))) :
    Calls Try.prog 34 #[.pointer (some ⟨g, 0, none⟩), .slice (some ⟨b, 0, none⟩) 3 3] w fun ee w' => ee = .returned (.tuple #[]) ∧ Ext W0 w' ∧ Rdr w' g true (numK (numK (numK x).2).2).2.1 (numK (numK (numK x).2).2).2.2 ∧
      RtBox w' o t (.int .i64 (numK x).1) (.int .i64 (numK (numK x).2).1) (.int .i64 (numK (numK (numK x).2).2).1) := by
  have l1 := numK_len x
  have l2 := numK_len (numK x).2
  obtain ⟨q1, hq1⟩ : ∃ q, numK x = q := ⟨_, rfl⟩
  obtain ⟨q2, hq2⟩ : ∃ q, numK q1.2 = q := ⟨_, rfl⟩
  obtain ⟨q3, hq3⟩ : ∃ q, numK q2.2 = q := ⟨_, rfl⟩
  have b1 := numK_le x
  have b2 := numK_le q1.2
  have b3 := numK_le q2.2
  rw [hq1] at l1 l2 b1
  rw [hq2] at l2 b2
  rw [hq3] at b3
  rw [hq1, hq2, hq3]
  have u1 : IntKind.i64.wrap (q1.1 : Int) = (q1.1 : Int) := IntWalk.i64_in _ (by omega)
  have u2 : IntKind.i64.wrap (q2.1 : Int) = (q2.1 : Int) := IntWalk.i64_in _ (by omega)
  have u3 : IntKind.i64.wrap (q3.1 : Int) = (q3.1 : Int) := IntWalk.i64_in _ (by omega)
  have Q1 := Lib.hid hq1; clear hq1
  have Q2 := Lib.hid hq2; clear hq2
  have Q3 := Lib.hid hq3; clear hq3
  clear b1 b2 b3
  go_enter Try.func34, Try.ntmps34
  go_wp2
  refine wp_loop_rounds 4 ?_
  rw [rounds_succ]
  go_wp2_with fail
  refine (num_any g x 1099511627776 _ (by exact h) hs).mono ?_
  rintro e1 w1 ⟨rfl, h1, O1⟩
  rw [show rNum x 1099511627776 = q1 from Q1.out] at h1 ⊢
  have B1 := O1.rt hb hgo
  have E1 := O1.toExt E0 hg
  obtain ⟨c0, c1, c2, c3, cf⟩ := B1.cells
  have s1 := O1.cellAt p1 hbg
  have s2 := O1.cellAt p2 hbg
  clear p0 p1 p2
  go_wp2
  obtain ⟨w2, hw2⟩ : ∃ w2, w2 = w1.setCell ⟨o, 1, none⟩ (.int .i64 q1.1) := ⟨_, rfl⟩
  rw [← hw2]
  have B2 : RtBox w2 o t (.int .i64 q1.1) a2 a3 := by rw [hw2]; exact B1.set1 _
  have h2 : Rdr w2 g true q1.2.1 q1.2.2 := by rw [hw2]; exact h1.stNew (by exact fun e => hgo e.symm) _
  have E2 : Ext W0 w2 := by rw [hw2]; exact E1.st ho _
  have r1 : w2.cell? ⟨b, 1, none⟩ = some (.pointer (some ⟨o, 2, none⟩)) := by rw [hw2]; exact cell_set_far s1 hbo _
  have r2 : w2.cell? ⟨b, 2, none⟩ = some (.pointer (some ⟨o, 3, none⟩)) := by rw [hw2]; exact cell_set_far s2 hbo _
  clear hw2 s1 s2 c0 c1 c2 c3 cf
  rw [rounds_succ]
  go_wp2_with fail
  refine (num_any g q1.2 1099511627776 _ (by exact h2) (by omega)).mono ?_
  rintro e2 w3 ⟨rfl, h3, O3⟩
  rw [show rNum q1.2 1099511627776 = q2 from Q2.out] at h3 ⊢
  have B3 := O3.rt B2 hgo
  have E3 := O3.toExt E2 hg
  obtain ⟨c0, c1, c2, c3, cf⟩ := B3.cells
  have s2 := O3.cellAt r2 hbg
  clear r1 r2
  go_wp2
  obtain ⟨w4, hw4⟩ : ∃ w4, w4 = w3.setCell ⟨o, 2, none⟩ (.int .i64 q2.1) := ⟨_, rfl⟩
  rw [← hw4]
  have B4 : RtBox w4 o t (.int .i64 q1.1) (.int .i64 q2.1) a3 := by rw [hw4]; exact B3.set2 _
  have h4 : Rdr w4 g true q2.2.1 q2.2.2 := by rw [hw4]; exact h3.stNew (by exact fun e => hgo e.symm) _
  have E4 : Ext W0 w4 := by rw [hw4]; exact E3.st ho _
  have r2 : w4.cell? ⟨b, 2, none⟩ = some (.pointer (some ⟨o, 3, none⟩)) := by rw [hw4]; exact cell_set_far s2 hbo _
  clear hw4 s2 c0 c1 c2 c3 cf
  rw [rounds_succ]
  go_wp2_with fail
  refine (num_any g q2.2 1099511627776 _ (by exact h4) (by omega)).mono ?_
  rintro e3 w5 ⟨rfl, h5, O5⟩
  rw [show rNum q2.2 1099511627776 = q3 from Q3.out] at h5 ⊢
  have B5 := O5.rt B4 hgo
  have E5 := O5.toExt E4 hg
  obtain ⟨c0, c1, c2, c3, cf⟩ := B5.cells
  clear r2
  go_wp2
  rw [rounds_succ]
  go_wp2
  go_end0
  exact ⟨rfl, E5.st ho _, h5.stNew (by exact fun e => hgo e.symm) _, B5.set3 _⟩
end Go.Proofs.Ytjpcedgonjmchaa
