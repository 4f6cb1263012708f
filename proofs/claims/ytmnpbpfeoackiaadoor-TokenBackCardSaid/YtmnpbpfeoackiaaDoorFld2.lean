/-
  Package field's reader: Num, Text, Byte and End do what the named plain functions say. Condition: what is left is at most 1000000 bytes.
-/
import Derived.Test.YtmnpbpfeoackiaaDoorFld
namespace Go.Proofs.YtmnpbpfeoackiaaDoor
open Go.RowKit

set_option maxRecDepth 100000 in
set_option maxHeartbeats 1000000 in
theorem number_ok (g : Nat) (s : List UInt8) (most n k : Nat) (w : World) (h : Rdr w g true s 0) (hs : s.length ≤ 1000000) (hv : vtake s = (n, k, 0)) (hn : n ≤ most) :
    Calls Tryd.prog 91 #[.pointer (some ⟨g, 0, none⟩), .int .u64 most] w fun e w' => e = .returned (.int .u64 n) ∧ Rdr w' g true (s.drop k) 0 ∧ Only g w w' := by
  obtain ⟨c0, c1, c2, f0, f1, f2⟩ := h.cells
  have hk := (vtake_ok hv).2.2.2
  have HV := Lib.hid hv; clear hv
  go_enter Tryd.func91, Tryd.ntmps91
  go_wp2_with fail
  refine (vtake_any _ _ (by rw [size_ofL]; exact hs)).mono ?_
  rintro e w1 ⟨rfl, hE1⟩
  rw [toL_ofL, HV.out]
  have h1 := h.ext hE1
  have d1 : decide (most < n) = false := by simp; omega
  go_wp2_with fail
  refine (take_any g s k _ h1 hk hs).mono ?_
  rintro e w2 ⟨rfl, hR, hO⟩
  go_wp2
  go_ret
  exact ⟨rfl, hR, (Only.of hE1).tr hO⟩

/-- What number gives up with. -/
def numErr (s : List UInt8) (most : Nat) : Int := if (vtake s).2.2 ≠ 0 then ((vtake s).2.2 : Int) else 3

set_option maxRecDepth 100000 in
set_option maxHeartbeats 1000000 in
theorem number_bad (g : Nat) (s : List UInt8) (most : Nat) (w : World) (h : Rdr w g true s 0) (hs : s.length ≤ 1000000) (hv : (vtake s).2.2 ≠ 0 ∨ most < (vtake s).1) :
    Calls Tryd.prog 91 #[.pointer (some ⟨g, 0, none⟩), .int .u64 most] w fun e w' => e = .panicked [{ v := .iface 173 (.agg #[.int .i64 (numErr s most)]), recovered := false }] ∧ Rdr w' g true s 0 ∧ Only g w w' := by
  obtain ⟨c0, c1, c2, f0, f1, f2⟩ := h.cells
  by_cases he : (vtake s).2.2 ≠ 0
  · have hx : numErr s most = ((vtake s).2.2 : Int) := if_pos he
    rw [hx]
    clear hx hv
    obtain ⟨n, k, er, hq⟩ : ∃ n k er, vtake s = (n, k, er) := ⟨_, _, _, rfl⟩
    rw [hq] at he ⊢
    have HV := Lib.hid hq; clear hq
    have t : ((er : Int) != 0) = true := by simp at he ⊢; omega
    clear he
    go_enter Tryd.func91, Tryd.ntmps91
    go_wp2_with fail
    refine (vtake_any _ _ (by rw [size_ofL]; exact hs)).mono ?_
    rintro e w1 ⟨rfl, hE1⟩
    rw [toL_ofL, HV.out]
    have h1 := h.ext hE1
    go_wp2
    simp [bodyPost]
    exact ⟨h1, Only.of hE1⟩
  · have hx : numErr s most = 3 := if_neg he
    rw [hx]
    clear hx
    obtain ⟨n, k, er, hq⟩ : ∃ n k er, vtake s = (n, k, er) := ⟨_, _, _, rfl⟩
    rw [hq] at he hv
    have he0 : er = 0 := by simpa using he
    subst he0
    have hv : most < n := by simpa using hv
    have HV := Lib.hid hq; clear hq he
    have d1 : decide (most < n) = true := by simp; omega
    go_enter Tryd.func91, Tryd.ntmps91
    go_wp2_with fail
    refine (vtake_any _ _ (by rw [size_ofL]; exact hs)).mono ?_
    rintro e w1 ⟨rfl, hE1⟩
    rw [toL_ofL, HV.out]
    have h1 := h.ext hE1
    go_wp2
    simp [bodyPost]
    exact ⟨h1, Only.of hE1⟩

set_option maxRecDepth 100000 in
set_option maxHeartbeats 1000000 in
theorem num1_ok (g b0 b1 b2 : Nat) (s : List UInt8) (most n k : Nat) (v0 : Value) (w : World) (h : Rdr w g true s 0) (hs : s.length ≤ 1000000) (hv : vtake s = (n, k, 0)) (hn : n ≤ most)
    (p0 : w.cell? ⟨b0, 0, none⟩ = some (.pointer (some ⟨g, 0, none⟩))) (p1 : w.cell? ⟨b1, 0, none⟩ = some (.int .u64 most)) (p2 : w.cell? ⟨b2, 0, none⟩ = some v0) (q2 : w.frozen? ⟨b2, 0, none⟩ = false) (hg : b2 ≠ g) :
    Calls Tryd.prog 92 #[.pointer (some ⟨b0, 0, none⟩), .pointer (some ⟨b1, 0, none⟩), .pointer (some ⟨b2, 0, none⟩)] w fun e w' => e = .returned (.tuple #[]) ∧ ∃ w1, Only g w w1 ∧ Rdr w1 g true (s.drop k) 0 ∧ w' = w1.setCell ⟨b2, 0, none⟩ (.int .u64 n) := by
  have hlt := World.block_lt_of_cell? _ _ p2
  go_enter Tryd.func92, Tryd.ntmps92
  go_wp2_with fail
  refine (number_ok g s most n k _ h hs hv hn).mono ?_
  rintro e w1 ⟨rfl, hR, hO⟩
  have p2' := (World.cell?_of_block (w := w) (a := ⟨b2, 0, none⟩) (hO.block b2 hlt (by simpa using hg))).trans p2
  have q2' := (World.frozen?_of_block (w := w) (a := ⟨b2, 0, none⟩) (hO.block b2 hlt (by simpa using hg))).trans q2
  go_wp2
  go_end0
  exact ⟨rfl, w1, hO, hR, rfl⟩

set_option maxRecDepth 100000 in
set_option maxHeartbeats 1000000 in
theorem num1_bad (g b0 b1 b2 : Nat) (s : List UInt8) (most : Nat) (w : World) (h : Rdr w g true s 0) (hs : s.length ≤ 1000000) (hv : (vtake s).2.2 ≠ 0 ∨ most < (vtake s).1)
    (p0 : w.cell? ⟨b0, 0, none⟩ = some (.pointer (some ⟨g, 0, none⟩))) (p1 : w.cell? ⟨b1, 0, none⟩ = some (.int .u64 most)) :
    Calls Tryd.prog 92 #[.pointer (some ⟨b0, 0, none⟩), .pointer (some ⟨b1, 0, none⟩), .pointer (some ⟨b2, 0, none⟩)] w fun e w' => e = .panicked [{ v := .iface 173 (.agg #[.int .i64 (numErr s most)]), recovered := false }] ∧ (∃ s', Rdr w' g true s' 0) ∧ Only g w w' := by
  go_enter Tryd.func92, Tryd.ntmps92
  go_wp2_with fail
  refine (number_bad g s most _ h hs hv).mono ?_
  rintro e w1 ⟨rfl, hR, hO⟩
  go_wp2
  simp [bodyPost]
  exact ⟨⟨s, hR⟩, hO⟩

theorem cf_num1 (caps : Array Value) (W : World) : (callFunc 92 caps).run Tryd.prog W = .ok (.enter 92 caps) W := by simp [go_sem]

theorem numErr_ne (s : List UInt8) (most : Nat) : numErr s most ≠ 0 := by
  unfold numErr
  split <;> omega
theorem rNum_ok {s : List UInt8} {most n k : Nat} (hv : vtake s = (n, k, 0)) (hn : n ≤ most) : rNum (s, 0) most = (n, (s.drop k, 0)) := by
  unfold rNum
  rw [if_neg (by simp), hv, if_neg (by simp), if_neg (by simp; omega)]
theorem rNum_no {s : List UInt8} {most : Nat} (hv : (vtake s).2.2 ≠ 0 ∨ most < (vtake s).1) : rNum (s, 0) most = (0, ([], numErr s most)) := by
  unfold rNum numErr
  rw [if_neg (by simp)]
  by_cases h : (vtake s).2.2 ≠ 0
  · rw [if_pos h, if_pos h]
  · rw [if_neg h, if_neg h, if_pos (by rcases hv with hv | hv; exact absurd hv h; exact hv)]
theorem vtake_cases (s : List UInt8) (most : Nat) : (∃ n k, vtake s = (n, k, 0) ∧ n ≤ most) ∨ ((vtake s).2.2 ≠ 0 ∨ most < (vtake s).1) := by
  by_cases h : (vtake s).2.2 ≠ 0 ∨ most < (vtake s).1
  · exact Or.inr h
  · refine Or.inl ⟨(vtake s).1, (vtake s).2.1, ?_, by omega⟩
    have : (vtake s).2.2 = 0 := by omega
    rw [← this]

set_option maxRecDepth 100000 in
set_option maxHeartbeats 1000000 in
theorem num_any (g : Nat) (x : RS) (most : Nat) (w : World) (h : Rdr w g true x.1 x.2) (hs : x.1.length ≤ 1000000) :
    Calls Tryd.prog 53 #[.pointer (some ⟨g, 0, none⟩), .int .u64 most] w fun e w' => e = .returned (.int .u64 (rNum x most).1) ∧ Rdr w' g true (rNum x most).2.1 (rNum x most).2.2 ∧ Only g w w' := by
  obtain ⟨s, er⟩ := x
  have hg := h.lt
  have hmf := Tryd.mkfn
  obtain ⟨w3, hw3, hE3, p0, p1, p2, q2, hz⟩ := boxes3 w (.pointer (some ⟨g, 0, none⟩)) (.int .u64 (most : Int)) (.int .u64 0) 84 82 82
  have HW3 := Lib.hid hw3; clear hw3
  have HZ := Lib.hid hz; clear hz
  have h3 := h.ext hE3
  by_cases h0 : er = 0
  · subst h0
    rcases vtake_cases s most with ⟨n, k, hv, hn⟩ | hv
    · rw [rNum_ok hv hn]
      go_enter Tryd.func53, Tryd.ntmps53
      go_wp2_with fail
      rw [← HW3.out]
      refine (read_ok g s 92 _ w3 h3 (fun W' => Rdr W' g true (s.drop k) 0 ∧ Only g w W' ∧ W'.cell? ⟨w.heap.size + 1 + 1, 0, none⟩ = some (.int .u64 n) ∧ W'.frozen? ⟨w.heap.size + 1 + 1, 0, none⟩ = false) (cf_num1 _) ?_).mono ?_
      · intro W hE
        obtain ⟨kc, kf⟩ := bcell hE
        have hsz := HZ.out
        refine (num1_ok g _ _ _ s most n k _ W (h3.ext hE) hs hv hn ((kc _ _ (by omega)).trans p0) ((kc _ _ (by omega)).trans p1) ((kc _ _ (by omega)).trans p2) ((kf _ _ (by omega)).trans q2) (by omega)).mono ?_
        rintro e W' ⟨rfl, w1, hO, hR, rfl⟩
        have hO' : Only g w w1 := (Only.of (hE3.tr hE)).tr hO
        have hb : w1.cell? ⟨w.heap.size + 1 + 1, 0, none⟩ = some (.int .u64 0) := (World.cell?_of_block (w := W) (a := ⟨w.heap.size + 1 + 1, 0, none⟩) (hO.block (w.heap.size + 1 + 1) (by have := hE.size; omega) (by simp; omega))).trans ((kc _ _ (by omega)).trans p2)
        have hf : w1.frozen? ⟨w.heap.size + 1 + 1, 0, none⟩ = false := (World.frozen?_of_block (w := W) (a := ⟨w.heap.size + 1 + 1, 0, none⟩) (hO.block (w.heap.size + 1 + 1) (by have := hE.size; omega) (by simp; omega))).trans ((kf _ _ (by omega)).trans q2)
        refine ⟨rfl, hR.stNew (by simp; omega) _, hO'.stNew (by simp; omega) _, ?_, ?_⟩
        · simp [go_sem, hb]
        · simp [go_sem, hf]
      rintro e w4 ⟨rfl, hR, hO, hc, hf⟩
      go_wp2
      have fin := cell_set_same hc (.int .u64 (n : Int))
      refine bodyPost_ret (v := .int .u64 (n : Int)) (by simp [results, Tryd.results53, go_sem, fin]) rfl ?_
      exact ⟨rfl, hR.stNew (by simp; omega) _, hO.stNew (by simp; omega) _⟩
    · rw [rNum_no hv]
      go_enter Tryd.func53, Tryd.ntmps53
      go_wp2_with fail
      rw [← HW3.out]
      refine (read_bad g s (numErr s most) 92 _ w3 h3 (numErr_ne _ _) (cf_num1 _) ?_).mono ?_
      · intro W hE
        obtain ⟨kc, kf⟩ := bcell hE
        have hsz := HZ.out
        exact num1_bad g _ _ _ s most W (h3.ext hE) hs hv ((kc _ _ (by omega)).trans p0) ((kc _ _ (by omega)).trans p1)
      rintro e w4 ⟨rfl, hR, hO⟩
      have hsz := HZ.out
      have p2' := (World.cell?_of_block (w := w3) (a := ⟨w.heap.size + 1 + 1, 0, none⟩) (hO.block (w.heap.size + 1 + 1) (by omega) (by simp; omega))).trans p2
      have q2' := (World.frozen?_of_block (w := w3) (a := ⟨w.heap.size + 1 + 1, 0, none⟩) (hO.block (w.heap.size + 1 + 1) (by omega) (by simp; omega))).trans q2
      have hO' : Only g w w4 := (Only.of hE3).tr hO
      clear hsz hO
      go_wp2
      have fin := cell_set_same p2' (.int .u64 0)
      refine bodyPost_ret (v := .int .u64 0) (by simp [results, Tryd.results53, go_sem, fin]) rfl ?_
      exact ⟨rfl, hR.stNew (by simp; omega) _, hO'.stNew (by simp; omega) _⟩
  · rw [rNum_bad _ h0]
    go_enter Tryd.func53, Tryd.ntmps53
    go_wp2_with fail
    rw [← HW3.out]
    refine (read_skip g s er 92 _ w3 h3 h0).mono ?_
    rintro e w4 ⟨rfl, hE⟩
    have hsz := HZ.out
    have p2' := ((bcell hE).1 _ _ (by omega)).trans p2
    have q2' := ((bcell hE).2 _ _ (by omega)).trans q2
    have hR := h3.ext hE
    have hO' : Only g w w4 := Only.of (hE3.tr hE)
    clear hsz
    go_wp2
    have fin := cell_set_same p2' (.int .u64 0)
    refine bodyPost_ret (v := .int .u64 0) (by simp [results, Tryd.results53, go_sem, fin]) rfl ?_
    exact ⟨rfl, hR.stNew (by simp; omega) _, hO'.stNew (by simp; omega) _⟩
end Go.Proofs.YtmnpbpfeoackiaaDoor
