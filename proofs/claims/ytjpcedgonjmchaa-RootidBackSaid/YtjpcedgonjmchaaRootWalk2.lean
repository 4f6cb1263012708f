/-
  The laws RootidPuts and RootidBack return true at every input. No condition but the reach of strings and structs.
-/
import Derived.Test.YtjpcedgonjmchaaRootWalk
import Derived.Test.YtjpcedgonjmchaaRootPut
namespace Go.Proofs.Ytjpcedgonjmchaa
open Go.RowKit Go.ChangeShapes Go.WideShapes

/-- A root in a box. -/
def RtB (w : World) (o : Nat) (r : Root) : Prop := RtBox w o (.string (ofL r.t)) (.int .i64 r.k) (.int .i64 r.e) (.int .i64 r.n)
theorem RtB.ext {w w' : World} {o : Nat} {r : Root} (h : RtB w o r) (hE : Ext w w') : RtB w' o r := RtBox.ext h hE
theorem RtB.cells {w : World} {o : Nat} {r : Root} (h : RtB w o r) : w.cell? ⟨o, 0, none⟩ = some (.string (ofL r.t)) ∧ w.cell? ⟨o, 1, none⟩ = some (.int .i64 r.k) ∧ w.cell? ⟨o, 2, none⟩ = some (.int .i64 r.e) ∧ w.cell? ⟨o, 3, none⟩ = some (.int .i64 r.n) :=
  ⟨(RtBox.cells h).1, (RtBox.cells h).2.1, (RtBox.cells h).2.2.1, (RtBox.cells h).2.2.2.1⟩
theorem rtb_box (w : World) (r : Root) : ∃ w2, w2 = w.alloc (.cells (rootCells r) 23) ∧ Ext w w2 ∧ w2.heap.size = w.heap.size + 1 ∧ RtB w2 w.heap.size r :=
  ⟨_, rfl, (Ext.rfl' _).al _, by simp, heap_alloc_new w _⟩

set_option maxRecDepth 100000 in
set_option maxHeartbeats 2000000 in
theorem works29_any (w : World) : Calls Try.prog 9 #[] w fun e w' => e = .returned (.bool true) ∧ Ext w w' := by
  obtain ⟨w1, hw1, E1, z1, b1⟩ := rtb_box w ⟨[97, 99, 109, 101], 1, 0, 300⟩
  have HW1 := Lib.hid hw1; clear hw1
  have hp : rootPut ⟨[97, 99, 109, 101], 1, 0, 300⟩ = ([1, 4, 97, 99, 109, 101, 1, 0, 172, 2], 0) := by decide
  have hg : rootGet [1, 4, 97, 99, 109, 101, 1, 0, 172, 2] = (⟨[97, 99, 109, 101], 1, 0, 300⟩, 0) := by
    have := rootGet_put (r := ⟨[97, 99, 109, 101], 1, 0, 300⟩) (by rw [hp])
    rwa [hp] at this
  have HP := Lib.hid hp; clear hp
  have HG := Lib.hid hg; clear hg
  obtain ⟨k0, k1, k2, k3⟩ := b1.cells
  go_enter Try.func9, Try.ntmps9
  go_wp2_with fail
  rw [show (⟨#[97, 99, 109, 101]⟩ : ByteArray) = ofL [97, 99, 109, 101] from rfl, ← HW1.out]
  refine (root_put ⟨[97, 99, 109, 101], 1, 0, 300⟩ _).mono ?_
  rintro e w2 ⟨rfl, E2⟩
  rw [HP.out]
  clear k0 k1 k2 k3
  have b2 := b1.ext E2
  go_wp2_with fail
  refine (root_get [1, 4, 97, 99, 109, 101, 1, 0, 172, 2] _ (by decide)).mono ?_
  rintro e w3 ⟨rfl, E3⟩
  rw [HG.out]
  have b3 := b2.ext E3
  obtain ⟨w4, hw4, E4, z4, b4⟩ := rtb_box w3 ⟨[97, 99, 109, 101], 1, 0, 300⟩
  have b3 := b3.ext E4
  have HW4 := Lib.hid hw4; clear hw4
  obtain ⟨k0, k1, k2, k3⟩ := b3.cells
  obtain ⟨j0, j1, j2, j3⟩ := b4.cells
  clear HW1
  have hs : (ofL [1, 4, 97, 99, 109, 101, 1, 0, 172, 2] == ⟨#[1, 4, 97, 99, 109, 101, 1, 0, 172, 2]⟩) = true := by decide
  have he := fun W => root_eql ⟨[97, 99, 109, 101], 1, 0, 300⟩ ⟨[97, 99, 109, 101], 1, 0, 300⟩ W
  rw [rootEq_self] at he
  go_upto_region 4 with fail
  rw [← HW4.out]
  clear HW4
  go_wp2
  go_ret
  exact ⟨rfl, ((E1.tr E2).tr E3).tr E4⟩

set_option maxRecDepth 100000 in
set_option maxHeartbeats 2000000 in
theorem rootidPuts_walk (r : Root) (s : ByteArray) (W : World) (_hr : r.t.length ≤ maxLen) (_hs : s.size ≤ maxLen) :
    Calls Try.prog 3 #[rootV r, .string s] W fun e W' => e = .returned (.bool true) ∧ Ext W W' := by
  obtain ⟨w1, hw1, E1, z1, b1⟩ := rtb_box W r
  have HW1 := Lib.hid hw1; clear hw1
  obtain ⟨k0, k1, k2, k3⟩ := b1.cells
  have hsz : (ofL r.t).size = r.t.length := size_ofL _
  by_cases hbig : 200 < r.t.length ∨ 300 < s.size
  · have d : (decide ((200 : Int) < r.t.length) = true) ∨ (decide ((200 : Int) < r.t.length) = false ∧ decide ((300 : Int) < s.size) = true) := by
      by_cases h : 200 < r.t.length
      · exact .inl (by simp; omega)
      · exact .inr ⟨by simp; omega, by simp; omega⟩
    clear hbig
    rcases d with d | ⟨d, d2⟩
    · go_enter Try.func3, Try.ntmps3
      go_wp2_with fail
      rw [← HW1.out]
      refine (works29_any _).mono ?_
      rintro e w2 ⟨rfl, E2⟩
      go_wp2
      go_ret
      exact ⟨rfl, E1.tr E2⟩
    · go_enter Try.func3, Try.ntmps3
      go_wp2_with fail
      rw [← HW1.out]
      refine (works29_any _).mono ?_
      rintro e w2 ⟨rfl, E2⟩
      go_wp2
      go_ret
      exact ⟨rfl, E1.tr E2⟩
  · have d : decide ((200 : Int) < r.t.length) = false := by simp; omega
    have d2 : decide ((300 : Int) < s.size) = false := by simp; omega
    have hl : (toL s).length ≤ 1000000 := by rw [length_toL]; omega
    obtain ⟨l, rfl⟩ : ∃ l, s = ofL l := ⟨toL s, (ofL_toL s).symm⟩
    rw [toL_ofL] at hl
    rw [size_ofL] at d2
    have hsz2 : (ofL l).size = l.length := size_ofL _
    obtain ⟨a, ea, ha⟩ : ∃ a ea, rootPut r = (a, ea) := ⟨_, _, rfl⟩
    obtain ⟨q, eq, hq⟩ : ∃ q eq, rootGet l = (q, eq) := ⟨_, _, rfl⟩
    have HA := Lib.hid ha; clear ha
    have HQ := Lib.hid hq; clear hq
    clear hbig _hs
    go_enter Try.func3, Try.ntmps3
    go_wp2_with fail
    rw [← HW1.out]
    refine (root_put r _).mono ?_
    rintro e w2 ⟨rfl, E2⟩
    rw [HA.out]
    clear HW1 k0 k1 k2 k3
    have b2 := b1.ext E2
    obtain ⟨k0, k1, k2, k3⟩ := b2.cells
    go_wp2_with fail
    refine (rroot_put r _).mono ?_
    rintro e w3 ⟨rfl, E3⟩
    rw [HA.out]
    clear k0 k1 k2 k3
    go_wp2_with fail
    refine (root_get l _ hl).mono ?_
    rintro e w4 ⟨rfl, E4⟩
    rw [HQ.out]
    obtain ⟨w5, hw5, E5, z5, b5⟩ := rtb_box w4 q
    have HW5 := Lib.hid hw5; clear hw5
    go_wp2_with fail
    rw [← HW5.out]
    clear HW5
    refine (rroot_get l _ hl).mono ?_
    rintro e w6 ⟨rfl, E6⟩
    rw [HQ.out]
    obtain ⟨w7, hw7, E7, z7, b7⟩ := rtb_box w6 q
    have HW7 := Lib.hid hw7; clear hw7
    have b6 := (b5.ext E6).ext E7
    obtain ⟨k0, k1, k2, k3⟩ := b6.cells
    obtain ⟨j0, j1, j2, j3⟩ := b7.cells
    have he := fun W => root_eql q q W
    rw [rootEq_self] at he
    have E8 := (((((E1.tr E2).tr E3).tr E4).tr E5).tr E6).tr E7
    clear b1 b2 b5 b6 b7 E1 E2 E3 E4 E5 E6 E7 HA HQ z1 z5 z7
    go_upto_region 7 with fail
    rw [← HW7.out]
    clear HW7
    go_wp2_with fail
    refine (works29_any _).mono ?_
    rintro e w8 ⟨rfl, E9⟩
    go_wp2
    go_ret
    exact ⟨rfl, E8.tr E9⟩
end Go.Proofs.Ytjpcedgonjmchaa
