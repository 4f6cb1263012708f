/-
  The law FieldPlays returns true at every input. No condition but the reach of a string and an int.
-/
import Derived.Test.YteclfeeeaokddaaFldDoes2
import Derived.Test.YteclfeeeaokddaaFldNil
import Derived.Test.YteclfeeeaokddaaFldStays
namespace Go.Proofs.Yteclfeeeaokddaa
open Go.RowKit

theorem rNum_len' (x : RS) (n : Nat) : (rNum x n).2.1.length ≤ x.1.length := rNum_len x n
theorem rFail_len (x : RS) (e : Int) : (rFail x e).1.length ≤ x.1.length := by unfold rFail; split <;> simp
theorem rStep_len (x : RS) (a : FAct) : (rStep x a).1.length ≤ x.1.length := by
  unfold rStep
  split
  · unfold rByte
    split
    · exact Nat.le_refl _
    · split
      · simp
      · simp
  · split
    · exact rNum_len x _
    · split
      · have h := rNum_len x a.m.toNat
        rw [rText_eq]
        split
        · exact h
        · split
          · simp
          · simp; omega
      · split
        · exact rFail_len _ _
        · split
          · unfold rEnd; split
            · exact rFail_len _ _
            · exact Nat.le_refl _
          · exact Nat.le_refl _

theorem Only.rbx {g G : Nat} {w w' : World} {x : RS} (hO : Only g w w') (h : RBx w G x) (hne : G ≠ g) : RBx w' G x :=
  (hO.block G h.lt (by simpa using hne)).trans h
theorem RBx.far {w : World} {G : Nat} {x : RS} (h : RBx w G x) {p : Addr} (hp : G ≠ p.block) (u : Value) : RBx (w.setCell p u) G x := (Below.heap_setCell w p u G hp).trans h
theorem RBx.set {w : World} {G : Nat} {x : RS} (h : RBx w G x) (y : RS) : RBx ((w.setCell ⟨G, 0, none⟩ (.string (ofL y.1))).setCell ⟨G, 1, none⟩ (.int .i64 y.2)) G y := by
  have h1 := heap_setCell_same w G 0 _ _ (.string (ofL y.1)) h
  have h2 := heap_setCell_same _ G 1 _ _ (.int .i64 y.2) h1
  exact h2

set_option maxRecDepth 100000 in
set_option maxHeartbeats 4000000 in
theorem fieldPlays_walk (s : ByteArray) (v : Value) (l : List FAct) (w : World) (_hs : s.size ≤ maxLen) (hv : Rd w w.heap.size 4 v l.length (l.map acells).flatten) (_hn0 : l.length ≤ maxLen) (hm : ∀ a ∈ l, a.n < 18446744073709551616 ∧ a.m ≤ 9223372036854775807) :
    Calls Try.prog 6 #[.string s, v] w fun e w' => e = .returned (.bool true) ∧ Ext w w' := by
  clear _hs _hn0
  obtain ⟨A, c, rfl, hn, hlen, hc⟩ := hv
  have skip : (500 < s.size ∨ 40 < l.length) → Calls Try.prog 6 #[.string s, .slice A l.length c] w fun e w' => e = .returned (.bool true) ∧ Ext w w' := by
    intro hor
    clear hc hm
    by_cases h1 : 500 < s.size
    · have d1 : decide ((500 : Int) < s.size) = true := by simp; omega
      go_enter Try.func6, Try.ntmps6
      go_wp2_with fail
      refine (works08_any _).mono ?_
      rintro e w1 ⟨rfl, hE⟩
      go_wp2
      go_ret
      exact ⟨rfl, hE⟩
    · have d1 : decide ((500 : Int) < s.size) = false := by simp; omega
      have d2 : decide ((40 : Int) < l.length) = true := by simp; omega
      go_enter Try.func6, Try.ntmps6
      go_wp2_with fail
      refine (works08_any _).mono ?_
      rintro e w1 ⟨rfl, hE⟩
      go_wp2
      go_ret
      exact ⟨rfl, hE⟩
  by_cases hor : 500 < s.size ∨ 40 < l.length
  · exact skip hor
  clear skip
  have hs1 : s.size ≤ 500 := by omega
  have hl1 : l.length ≤ 40 := by omega
  have d1 : decide ((500 : Int) < s.size) = false := by simp; omega
  have d2 : decide ((40 : Int) < l.length) = false := by simp; omega
  clear hor
  have HC := Lib.hid hc; clear hc
  have HM := Lib.hid hm; clear hm
  go_enter Try.func6, Try.ntmps6
  go_wp2_with fail
  refine (new_any s _).mono ?_
  rintro e w1 ⟨rfl, h1, hE1⟩
  obtain ⟨w2, hw2⟩ : ∃ w2, w2 = w1.alloc (.cells #[.string (ofL (toL s)), .int .i64 0] 37) := ⟨_, rfl⟩
  have hE2 : Ext w w2 := hE1.tr (by rw [hw2]; exact (Ext.rfl' _).al _)
  have b2 : RBx w2 w1.heap.size (toL s, 0) := by rw [hw2]; exact heap_alloc_new w1 _
  have h2 := h1.ext (show Ext w1 w2 by rw [hw2]; exact (Ext.rfl' _).al _)
  have hlt1 := h1.lt
  have HW2 := Lib.hid hw2; clear hw2
  have H2 := Lib.hid h2; clear h2 h1
  have B2 := Lib.hid b2; clear b2
  go_wp2
  rw [show w1.alloc (.cells #[.string s, .int .i64 0] 37) = w2 from by rw [HW2.out, ofL_toL]]
  clear HW2
  go_loopw [7] (fun i wr => ∃ k : Nat, ∃ x : RS, k ≤ l.length ∧ i = .int .i64 k ∧ Ext w wr ∧ Rdr wr w.heap.size true x.1 x.2 ∧ RBx wr w1.heap.size x ∧ x.1.length ≤ 500) (fun i _ => l.length - (intOf i).toNat)
  case atStart => exact ⟨0, (toL s, 0), by simp, rfl, hE2, H2.out, B2.out, by simp [length_toL]; exact hs1⟩
  case round =>
    obtain ⟨k, x, hk, rfl, hE, hR, hB, hxl⟩ := hrel
    by_cases hlt : k < l.length
    · have dk : decide ((k : Int) < l.length) = true := by simp; omega
      obtain ⟨bb, off, rfl, hbb, hc⟩ := HC.out (by omega)
      have ha : l[k].m ≤ 9223372036854775807 := (HM.out _ (List.getElem_mem hlt)).2
      generalize hg : l[k] = a at ha
      have f0 : wr.cell? ⟨bb, off + k * 4, none⟩ = some (.int .i64 a.k) := ((bcell hE).1 bb _ hbb).trans (hc _ _ (by have := flat4 l k 0 hlt (by omega); rw [Nat.add_zero] at this; rw [this, hg]; rfl))
      have f1 : wr.cell? ⟨bb, off + k * 4 + 1, none⟩ = some (.int .u64 a.n) := ((bcell hE).1 bb _ hbb).trans (by rw [Nat.add_assoc]; exact hc _ _ (by rw [flat4 l k 1 hlt (by omega), hg]; rfl))
      have f2 : wr.cell? ⟨bb, off + k * 4 + 2, none⟩ = some (.int .i64 a.m) := ((bcell hE).1 bb _ hbb).trans (by rw [Nat.add_assoc]; exact hc _ _ (by rw [flat4 l k 2 hlt (by omega), hg]; rfl))
      have f3 : wr.cell? ⟨bb, off + k * 4 + 3, none⟩ = some (.int .i64 a.e) := ((bcell hE).1 bb _ hbb).trans (by rw [Nat.add_assoc]; exact hc _ _ (by rw [flat4 l k 3 hlt (by omega), hg]; rfl))
      clear hg hc
      obtain ⟨x0, x1, _, _⟩ := hB.cells
      have hyl := rStep_len x a
      obtain ⟨y, hy⟩ : ∃ y, rStep x a = y := ⟨_, rfl⟩
      rw [hy] at hyl
      have HY := Lib.hid hy; clear hy
      have zr := hB.lt
      have SF : ∀ W : World, W.heap[w1.heap.size]? = wr.heap[w1.heap.size]? → W.heap[bb]? = wr.heap[bb]? → (W.cell? ⟨w1.heap.size, 0, none⟩ = some (.string (ofL x.1)) ∧ W.cell? ⟨w1.heap.size, 1, none⟩ = some (.int .i64 x.2)) ∧
          W.cell? ⟨bb, off + k * 4, none⟩ = some (.int .i64 a.k) ∧ W.cell? ⟨bb, off + k * 4 + 1, none⟩ = some (.int .u64 a.n) ∧ W.cell? ⟨bb, off + k * 4 + 2, none⟩ = some (.int .i64 a.m) ∧ W.cell? ⟨bb, off + k * 4 + 3, none⟩ = some (.int .i64 a.e) := fun W q1 q2 =>
        ⟨⟨(World.cell?_of_block (w := wr) (a := ⟨w1.heap.size, 0, none⟩) q1).trans x0, (World.cell?_of_block (w := wr) (a := ⟨w1.heap.size, 1, none⟩) q1).trans x1⟩,
          (World.cell?_of_block (w := wr) (a := ⟨bb, _, none⟩) q2).trans f0, (World.cell?_of_block (w := wr) (a := ⟨bb, _, none⟩) q2).trans f1, (World.cell?_of_block (w := wr) (a := ⟨bb, _, none⟩) q2).trans f2, (World.cell?_of_block (w := wr) (a := ⟨bb, _, none⟩) q2).trans f3⟩
      clear x0 x1 f0 f1 f2 f3
      go_wp2
      go_region_held3 (fun W => (W.cell? ⟨w1.heap.size, 0, none⟩ = some (.string (ofL x.1)) ∧ W.cell? ⟨w1.heap.size, 1, none⟩ = some (.int .i64 x.2)) ∧
          W.cell? ⟨bb, off + k * 4, none⟩ = some (.int .i64 a.k) ∧ W.cell? ⟨bb, off + k * 4 + 1, none⟩ = some (.int .u64 a.n) ∧ W.cell? ⟨bb, off + k * 4 + 2, none⟩ = some (.int .i64 a.m) ∧ W.cell? ⟨bb, off + k * 4 + 3, none⟩ = some (.int .i64 a.e))
        (refine SF _ ?_ ?_ <;> (repeat (first | rfl | exact q1 | exact q2 | refine (Below.heap_setCell _ _ _ _ (by first | omega | (simp <;> omega))).trans ?_ | refine (Below.heap_alloc _ _ _ (by first | omega | (simp <;> omega))).trans ?_)))
        (first | (go_at_call 23; refine (does_any w.heap.size x a _ (by first | exact hR | exact hR.ext ((Ext.rfl' _).al _) | exact hR.ext ((Ext.rfl' _).al _).dr) (by omega) ha).mono ?_; rintro e w6 ⟨rfl, h6, hO6⟩; rw [HY.out] at h6 ⊢; have z6 : wr.heap.size ≤ w6.heap.size := Nat.le_trans (by first | exact Nat.le_refl _ | (simp <;> omega)) hO6.size; have q1 : w6.heap[w1.heap.size]? = wr.heap[w1.heap.size]? := (hO6.block _ (by first | omega | (simp <;> omega)) (by first | omega | (simp <;> omega))).trans (by first | rfl | exact Below.heap_alloc _ _ _ (by first | omega | (simp <;> omega))); have q2 : w6.heap[bb]? = wr.heap[bb]? := (hO6.block _ (by first | omega | (simp <;> omega)) (by first | omega | (simp <;> omega))).trans (by first | rfl | exact Below.heap_alloc _ _ _ (by first | omega | (simp <;> omega))); try (have bz : RBx w6 wr.heap.size ([], 0) := hO6.rbx (by first | exact heap_alloc_new wr.drew _ | exact heap_alloc_new wr _) (by omega); obtain ⟨z0, z1, z2, z3⟩ := bz.cells)))
      all_goals
        go_wp2
        have hxb : RBx w6 w1.heap.size x := q1.trans hB
        first
          | (obtain ⟨W8, hW8⟩ : ∃ W, W = w6.alloc (.cells #[.string (ofL y.1), .int .i64 y.2] 37) := ⟨_, rfl⟩
             rw [← hW8]
             have b8 : RBx W8 w6.heap.size y := by rw [hW8]; exact heap_alloc_new w6 _
             have h8 : Rdr W8 w.heap.size true y.1 y.2 := by rw [hW8]; exact h6.ext ((Ext.rfl' _).al _)
             have x8 : RBx W8 w1.heap.size x := by rw [hW8]; exact hxb.ext ((Ext.rfl' _).al _)
             have E8 : Ext w W8 := by rw [hW8]; exact (hO6.toExt hE.dr (Nat.le_refl _)).al _
             clear hW8
             obtain ⟨G8, hG8⟩ : ∃ G, G = w6.heap.size := ⟨_, rfl⟩
             have n8 : w1.heap.size ≠ G8 := by omega
             rw [← hG8] at b8 ⊢
             clear hG8)
          | (obtain ⟨W8, hW8⟩ : ∃ W, W = (w6.setCell ⟨wr.heap.size, 0, none⟩ (.string (ofL y.1))).setCell ⟨wr.heap.size, 1, none⟩ (.int .i64 y.2) := ⟨_, rfl⟩
             rw [← hW8]
             have b8 : RBx W8 wr.heap.size y := by rw [hW8]; exact bz.set y
             have h8 : Rdr W8 w.heap.size true y.1 y.2 := by rw [hW8]; exact (h6.stNew (by simp; omega) _).stNew (by simp; omega) _
             have x8 : RBx W8 w1.heap.size x := by rw [hW8]; exact (hxb.far (by simp; omega) _).far (by simp; omega) _
             have E8 : Ext w W8 := by rw [hW8]; exact ((hO6.toExt (by first | exact (hE.al _).dr | exact hE.dr.al _) (Nat.le_refl _)).st (by simp; omega) _).st (by simp; omega) _
             clear hW8 bz z0 z1 z2 z3
             obtain ⟨G8, hG8⟩ : ∃ G, G = wr.heap.size := ⟨_, rfl⟩
             have n8 : w1.heap.size ≠ G8 := by omega
             rw [← hG8] at b8 ⊢
             clear hG8)
        clear hxb q1 q2 z6 hO6 h6 SF zr hB hR hE
        obtain ⟨g0, g1, g2, g3⟩ := b8.cells
        obtain ⟨t0, t1, t2, t3⟩ := x8.cells
        have e5 : (ofL y.1).size = y.1.length := size_ofL _
        go_quiet (first | (go_at_call 24; exact Calls.quiet_of_same (left_any _ true _ _ _ (by exact h8))) | (go_at_call 25; exact Calls.quiet_of_same (err_any _ _ _ _ (by exact h8))))
        go_wp2
        exact ⟨⟨k + 1, y, by omega, by go_num, ((E8.drN _).st (Nat.le_of_lt hlt1) _).st (Nat.le_of_lt hlt1) _, (h8.stNew (by simp; omega) _).stNew (by simp; omega) _, x8.set y, by omega⟩, by simp [intOf]; omega⟩
    · have dk : decide ((k : Int) < l.length) = false := by simp; omega
      go_wp2_with fail
      obtain ⟨W, hW⟩ : ∃ W, W = wr.alloc (.cells #[.bool false, .string ⟨#[]⟩, .int .i64 0] 46) := ⟨_, rfl⟩
      have hz : Rdr W wr.heap.size false [] 0 := by rw [hW]; exact heap_alloc_new wr _
      have hEW : Ext w W := by rw [hW]; exact hE.al _
      rw [← hW]
      clear hW
      refine (zero_fail _ _ _ 1 _ hz).mono ?_
      rintro e w3 ⟨rfl, rfl⟩
      go_wp2_with fail
      refine (nil_err _).mono ?_
      rintro e w4 ⟨rfl, rfl⟩
      go_wp2_with fail
      refine (nil_num 9 _).mono ?_
      rintro e w5 ⟨rfl, hE5⟩
      go_wp2_with fail
      refine (nil_left _).mono ?_
      rintro e w6 ⟨rfl, rfl⟩
      go_wp2_with fail
      refine (zero_end _ _ (hz.ext hE5)).mono ?_
      rintro e w7 ⟨rfl, rfl⟩
      go_wp2_with fail
      refine (zero_text _ _ _ 9 _ (hz.ext hE5)).mono ?_
      rintro e w8 ⟨rfl, hE8⟩
      go_wp2_with fail
      refine (works08_any _).mono ?_
      rintro e w9 ⟨rfl, hE9⟩
      go_wp2
      go_ret
      exact ⟨rfl, ((hEW.tr hE5).tr hE8).tr hE9⟩
end Go.Proofs.Yteclfeeeaokddaa
