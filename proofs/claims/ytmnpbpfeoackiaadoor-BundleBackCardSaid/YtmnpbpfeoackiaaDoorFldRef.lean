/-
  The reference's reader (package porterref08): every method does what the named plain function says. Condition: what is left is at most 1000000 bytes.
-/
import Derived.Test.YtmnpbpfeoackiaaDoorMgB
namespace Go.Proofs.YtmnpbpfeoackiaaDoor
open Go.RowKit

/-- A reader of the reference as a value. -/
abbrev rv (x : RS) : Value := .agg #[.string (ofL x.1), .int .i64 x.2]

theorem beq_int_f {a b : Int} (h : a ≠ b) : (a == b) = false := by simpa using h
theorem bne_int_t {a b : Int} (h : a ≠ b) : (a != b) = true := by simpa using h
/-- A box that holds a reader of the reference. -/
def RBx (w : World) (g : Nat) (x : RS) : Prop := w.heap[g]? = some (.cells #[.string (ofL x.1), .int .i64 x.2] 91 (0, 0))
theorem RBx.cells {w : World} {g : Nat} {x : RS} (h : RBx w g x) :
    w.cell? ⟨g, 0, none⟩ = some (.string (ofL x.1)) ∧ w.cell? ⟨g, 1, none⟩ = some (.int .i64 x.2) ∧ w.frozen? ⟨g, 0, none⟩ = false ∧ w.frozen? ⟨g, 1, none⟩ = false := by
  have hb := h
  unfold RBx at hb
  refine ⟨?_, ?_, ?_, ?_⟩ <;> simp [World.cell?, World.frozen?, hb] <;> rfl
theorem RBx.lt {w : World} {g : Nat} {x : RS} (h : RBx w g x) : g < w.heap.size := (Array.getElem?_eq_some_iff.1 h).1
theorem RBx.ext {w w' : World} {g : Nat} {x : RS} (h : RBx w g x) (hE : Ext w w') : RBx w' g x := (hE.block g h.lt).trans h
theorem rboxes (w : World) (x y : RS) : ∃ w2 : World, w2 = (w.alloc (.cells #[.string (ofL x.1), .int .i64 x.2] 91)).alloc (.cells #[.string (ofL y.1), .int .i64 y.2] 91) ∧ Ext w w2 ∧ RBx w2 w.heap.size x ∧ RBx w2 (w.heap.size + 1) y :=
  ⟨_, rfl, ((Ext.rfl' w).al _).al _, by show ((w.heap.push _).push _)[_]? = _; rw [Array.getElem?_push, if_neg (by simp), Array.getElem?_push, if_pos rfl], by show ((w.heap.push _).push _)[_]? = _; rw [Array.getElem?_push, if_pos (by simp)]⟩

theorem set2 {w : World} {b : Nat} {u v : Value} (k0 : w.cell? ⟨b, 0, none⟩ = some u) (k1 : w.cell? ⟨b, 1, none⟩ = some v) (a c : Value) :
    ((w.setCell ⟨b, 0, none⟩ a).setCell ⟨b, 1, none⟩ c).cell? ⟨b, 0, none⟩ = some a ∧ ((w.setCell ⟨b, 0, none⟩ a).setCell ⟨b, 1, none⟩ c).cell? ⟨b, 1, none⟩ = some c := by
  constructor <;> simp [go_sem, k0, k1]

set_option maxHeartbeats 400000 in
theorem r8fail (x : RS) (e : Int) (w : World) :
    Calls Tryd.prog 61 #[rv x, .int .i64 e] w fun ee w' => ee = .returned (rv (rFail x e)) ∧ Ext w w' := by
  obtain ⟨s, er⟩ := x
  by_cases hx : er ≠ 0
  · have : rFail (s, er) e = (s, er) := if_pos (Or.inl hx)
    rw [this]
    have t : (er != 0) = true := bne_int_t hx
    clear this hx
    go_enter Tryd.func61, Tryd.ntmps61
    go_wp2
    refine bodyPost_ret (v := rv (s, er)) (by simp [results, Tryd.results61, go_sem]) rfl ?_
    exact ⟨rfl, ((Ext.rfl' _).al _).al _⟩
  · have hx : er = 0 := by omega
    subst hx
    by_cases he : e = 0
    · subst he
      have : rFail (s, 0) 0 = (s, 0) := if_pos (Or.inr rfl)
      rw [this]
      go_enter Tryd.func61, Tryd.ntmps61
      go_wp2
      refine bodyPost_ret (v := rv (s, 0)) (by simp [results, Tryd.results61, go_sem]) rfl ?_
      exact ⟨rfl, ((Ext.rfl' _).al _).al _⟩
    · have : rFail (s, 0) e = ([], e) := if_neg (by simp [he])
      rw [this]
      have t : (e == 0) = false := beq_int_f he
      clear this he
      go_enter Tryd.func61, Tryd.ntmps61
      go_wp2
      refine bodyPost_ret (v := rv ([], e)) (by simp [results, Tryd.results61, go_sem]; rfl) rfl ?_
      exact ⟨rfl, ((Ext.rfl' _).al _).al _⟩

set_option maxHeartbeats 400000 in
theorem r8end (x : RS) (w : World) :
    Calls Tryd.prog 73 #[rv x] w fun ee w' => ee = .returned (rv (rEnd x)) ∧ Ext w w' := by
  obtain ⟨s, er⟩ := x
  cases s with
  | cons c r =>
    obtain ⟨w2, hw2, hE2, b0, b1⟩ := rboxes w (c :: r, er) ([], 0)
    have HW2 := Lib.hid hw2; clear hw2
    go_enter Tryd.func73, Tryd.ntmps73
    go_wp2_with fail
    rw [show (⟨#[]⟩ : ByteArray) = ofL [] from rfl, ← HW2.out]
    refine (r8fail (c :: r, er) 2 _).mono ?_
    rintro e w1 ⟨rfl, hE⟩
    obtain ⟨k0, k1, k2, k3⟩ := (b1.ext hE).cells
    clear HW2
    go_wp2
    obtain ⟨f0, f1⟩ := set2 k0 k1 (.string (ofL (rFail (c :: r, er) 2).1)) (.int .i64 (rFail (c :: r, er) 2).2)
    refine bodyPost_ret (v := rv (rFail (c :: r, er) 2)) (by simp [results, Tryd.results73, go_sem, f0, f1]) rfl ?_
    exact ⟨rfl, ((hE2.tr hE).st (by simp) _).st (by simp) _⟩
  | nil =>
    go_enter Tryd.func73, Tryd.ntmps73
    go_wp2
    refine bodyPost_ret (v := rv ([], er)) (by simp [results, Tryd.results73, go_sem]) rfl ?_
    exact ⟨rfl, ((Ext.rfl' _).al _).al _⟩

set_option maxHeartbeats 400000 in
theorem r8byte (x : RS) (w : World) (hs : x.1.length ≤ 1000000) :
    Calls Tryd.prog 60 #[rv x] w fun ee w' => ee = .returned (.tuple #[.int .u8 (rByte x).1.toNat, rv (rByte x).2]) ∧ Ext w w' := by
  obtain ⟨s, er⟩ := x
  by_cases h0 : er = 0
  · subst h0
    cases s with
    | cons c r =>
      rw [rByte_ok (by simp)]
      have e1 : (ofL (c :: r)).size = r.length + 1 := by simp [size_ofL]
      have e2 : (ofL (c :: r)).data[0]?.map (fun b => (b.toNat : Int)) = some (c.toNat : Int) := rfl
      have e3 : (ofL (c :: r)).extract 1 (r.length + 1) = ofL r := by
        have := extract_from (ofL (c :: r)) 1
        rw [e1, toL_ofL] at this
        exact this
      go_enter Tryd.func60, Tryd.ntmps60
      go_wp2
      go_region
      go_wp2
      refine bodyPost_ret (v := .tuple #[.int .u8 c.toNat, rv (r, 0)]) (by simp [results, Tryd.results60, go_sem]; rfl) rfl ?_
      exact ⟨rfl, (((Ext.rfl' _).al _).al _).dr⟩
    | nil =>
      obtain ⟨w2, hw2, hE2, b0, b1⟩ := rboxes w ([], 0) ([], 0)
      have HW2 := Lib.hid hw2; clear hw2
      go_enter Tryd.func60, Tryd.ntmps60
      go_wp2_with fail
      rw [show (⟨#[]⟩ : ByteArray) = ofL [] from rfl, ← HW2.out]
      refine (r8fail ([], 0) 1 _).mono ?_
      rintro e w1 ⟨rfl, hE⟩
      obtain ⟨k0, k1, k2, k3⟩ := (b1.ext hE).cells
      clear HW2
      go_wp2
      obtain ⟨f0, f1⟩ := set2 k0 k1 (.string (ofL (rFail ([], 0) 1).1)) (.int .i64 (rFail ([], 0) 1).2)
      refine bodyPost_ret (v := .tuple #[.int .u8 0, rv (rFail ([], 0) 1)]) (by simp [results, Tryd.results60, go_sem, f0, f1]) rfl ?_
      exact ⟨rfl, ((hE2.tr hE).st (by simp) _).st (by simp) _⟩
  · rw [rByte_bad (x := (s, er)) h0]
    have t : (er != 0) = true := bne_int_t h0
    go_enter Tryd.func60, Tryd.ntmps60
    go_wp2
    go_region
    go_wp2
    refine bodyPost_ret (v := .tuple #[.int .u8 0, rv (s, er)]) (by simp [results, Tryd.results60, go_sem]) rfl ?_
    exact ⟨rfl, (((Ext.rfl' _).al _).al _).dr⟩

set_option maxRecDepth 100000 in
set_option maxHeartbeats 1000000 in
theorem r8num (x : RS) (most : Nat) (w : World) (hs : x.1.length ≤ 1000000) :
    Calls Tryd.prog 59 #[rv x, .int .u64 most] w fun ee w' => ee = .returned (.tuple #[.int .u64 (rNum x most).1, rv (rNum x most).2]) ∧ Ext w w' := by
  obtain ⟨s, er⟩ := x
  obtain ⟨w2, hw2, hE2, b0, b1⟩ := rboxes w (s, er) ([], 0)
  have HW2 := Lib.hid hw2; clear hw2
  by_cases h0 : er = 0
  · subst h0
    rcases vtake_cases s most with ⟨n, k, hv, hn⟩ | hv
    · rw [rNum_ok hv hn]
      have hk := (vtake_ok hv).2.2.2
      have d1 : decide (most < n) = false := by simp; omega
      have HV := Lib.hid hv; clear hv
      go_enter Tryd.func59, Tryd.ntmps59
      go_wp2_with fail
      rw [show (⟨#[]⟩ : ByteArray) = ofL [] from rfl, ← HW2.out]
      refine (rvtake_any _ _ (by rw [size_ofL]; exact hs)).mono ?_
      rintro e w1 ⟨rfl, hE⟩
      rw [toL_ofL, HV.out]
      obtain ⟨k0, k1, k2, k3⟩ := (b1.ext hE).cells
      obtain ⟨j0, j1, j2, j3⟩ := (b0.ext hE).cells
      have e4 : (ofL s).size = s.length := size_ofL s
      have e3 : (ofL s).extract k s.length = ofL (s.drop k) := by rw [← size_ofL s, extract_from, toL_ofL]
      clear HW2
      go_wp2
      go_region
      go_wp2
      obtain ⟨f2, f1⟩ := set2 k0 k1 (.string (ofL (s.drop k))) (.int .i64 0)
      have f0 := cell_set_same k0 (.string (ofL (s.drop k)))
      refine bodyPost_ret (v := .tuple #[.int .u64 n, rv (s.drop k, 0)]) (by simp [results, Tryd.results59, go_sem, f0, f1]) rfl ?_
      exact ⟨rfl, ((hE2.tr hE).dr.st (by simp) _).st (by simp) _⟩
    · rw [rNum_no hv]
      by_cases he : (vtake s).2.2 ≠ 0
      · have hx : numErr s most = ((vtake s).2.2 : Int) := if_pos he
        rw [hx]
        clear hx hv
        obtain ⟨n, k, er, hq⟩ : ∃ n k er, vtake s = (n, k, er) := ⟨_, _, _, rfl⟩
        rw [hq] at he ⊢
        have HV := Lib.hid hq; clear hq
        have t : ((er : Int) != 0) = true := by simp at he ⊢; omega
        have t2 : ((er : Int) == 0) = false := by simp at he ⊢; omega
        have hf : rFail (s, 0) (er : Int) = ([], (er : Int)) := if_neg (by simp at he ⊢; omega)
        clear he
        go_enter Tryd.func59, Tryd.ntmps59
        go_wp2_with fail
        rw [show (⟨#[]⟩ : ByteArray) = ofL [] from rfl, ← HW2.out]
        refine (rvtake_any _ _ (by rw [size_ofL]; exact hs)).mono ?_
        rintro e w1 ⟨rfl, hE⟩
        rw [toL_ofL, HV.out]
        obtain ⟨j0, j1, j2, j3⟩ := (b0.ext hE).cells
        clear HW2
        go_wp2_with fail
        refine (r8fail (s, 0) er _).mono ?_
        rintro e w3 ⟨rfl, hE3⟩
        rw [hf]
        obtain ⟨k0, k1, k2, k3⟩ := ((b1.ext hE).ext hE3).cells
        go_wp2
        obtain ⟨f0, f1⟩ := set2 k0 k1 (.string (ofL [])) (.int .i64 er)
        refine bodyPost_ret (v := .tuple #[.int .u64 0, rv ([], (er : Int))]) (by simp [results, Tryd.results59, go_sem, f0, f1]) rfl ?_
        exact ⟨rfl, (((hE2.tr hE).tr hE3).st (by simp) _).st (by simp) _⟩
      · have hx : numErr s most = 3 := if_neg he
        rw [hx]
        clear hx
        obtain ⟨n, k, er, hq⟩ : ∃ n k er, vtake s = (n, k, er) := ⟨_, _, _, rfl⟩
        rw [hq] at he hv
        have he0 : er = 0 := by simpa using he
        subst he0
        have hv : most < n := by simpa using hv
        have HV := Lib.hid hq; clear hq he
        have d1 : decide (most < n) = true := by simp; omega
        go_enter Tryd.func59, Tryd.ntmps59
        go_wp2_with fail
        rw [show (⟨#[]⟩ : ByteArray) = ofL [] from rfl, ← HW2.out]
        refine (rvtake_any _ _ (by rw [size_ofL]; exact hs)).mono ?_
        rintro e w1 ⟨rfl, hE⟩
        rw [toL_ofL, HV.out]
        obtain ⟨j0, j1, j2, j3⟩ := (b0.ext hE).cells
        clear HW2
        go_wp2_with fail
        refine (r8fail (s, 0) 3 _).mono ?_
        rintro e w3 ⟨rfl, hE3⟩
        rw [show rFail (s, 0) (3 : Int) = ([], 3) from rfl]
        obtain ⟨k0, k1, k2, k3⟩ := ((b1.ext hE).ext hE3).cells
        go_wp2
        obtain ⟨f0, f1⟩ := set2 k0 k1 (.string (ofL [])) (.int .i64 3)
        refine bodyPost_ret (v := .tuple #[.int .u64 0, rv ([], 3)]) (by simp [results, Tryd.results59, go_sem, f0, f1]) rfl ?_
        exact ⟨rfl, (((hE2.tr hE).tr hE3).st (by simp) _).st (by simp) _⟩
  · rw [rNum_bad (x := (s, er)) most h0]
    have t : (er != 0) = true := bne_int_t h0
    go_enter Tryd.func59, Tryd.ntmps59
    go_wp2
    go_region
    go_wp2
    refine bodyPost_ret (v := .tuple #[.int .u64 0, rv (s, er)]) (by simp [results, Tryd.results59, go_sem]) rfl ?_
    exact ⟨rfl, (((Ext.rfl' _).al _).al _).dr⟩

/-- The reference's Text behind its Num. -/
theorem rText_eq (x : RS) (most : Int) : rText x most =
    (if (rNum x most.toNat).2.2 ≠ 0 then ([], (rNum x most.toNat).2)
     else if (rNum x most.toNat).2.1.length < (rNum x most.toNat).1 then ([], ([], 1))
     else ((rNum x most.toNat).2.1.take (rNum x most.toNat).1, ((rNum x most.toNat).2.1.drop (rNum x most.toNat).1, 0))) := rfl

set_option maxRecDepth 100000 in
set_option maxHeartbeats 1000000 in
theorem r8text_pos (x : RS) (M : Nat) (w : World) (hs : x.1.length ≤ 1000000) (hb : M ≤ 9223372036854775807) :
    Calls Tryd.prog 58 #[rv x, .int .i64 M] w fun ee w' => ee = .returned (.tuple #[.string (ofL (rText x M).1), rv (rText x M).2]) ∧ Ext w w' := by
  have hM : ((M : Nat) : Int).toNat = M := by simp
  obtain ⟨w2, hw2, hE2, b0, b1⟩ := rboxes w x ([], 0)
  have HW2 := Lib.hid hw2; clear hw2
  have hl0 := rNum_len x M
  have hn0 := rNum_le x M
  rw [rText_eq, hM]
  obtain ⟨q, hq⟩ : ∃ q, rNum x M = q := ⟨_, rfl⟩
  rw [hq] at hl0 hn0
  rw [hq]
  obtain ⟨n, s', er⟩ := q
  have HQ := Lib.hid hq; clear hq
  simp only [] at hl0 hn0
  have e4 : (ofL s').size = s'.length := size_ofL s'
  have hu : IntKind.u64.wrap (M : Int) = (M : Int) := U64.wrap (by show _ < _; omega)
  have d0 : decide ((M : Int) < 0) = false := by simp <;> omega
  by_cases h0 : er = 0
  · subst h0
    rw [if_neg (by simp)]
    by_cases hl : s'.length < n
    · rw [if_pos (by exact hl)]
      have d1 : decide (s'.length < n) = true := by simp; omega
      have hu2 : IntKind.u64.wrap (s'.length : Int) = (s'.length : Int) := U64.wrap (by show _ < _; omega)
      clear hn0 hl0 hb
      go_enter Tryd.func58, Tryd.ntmps58
      go_wp2_with fail
      rw [show (⟨#[]⟩ : ByteArray) = ofL [] from rfl, ← HW2.out]
      refine (r8num x M _ hs).mono ?_
      rintro e w1 ⟨rfl, hE⟩
      rw [HQ.out]
      obtain ⟨w3, hw3⟩ : ∃ w3, w3 = w1.alloc (.cells #[.string (ofL s'), .int .i64 0] 91) := ⟨_, rfl⟩
      have hE3 : Ext w1 w3 := by rw [hw3]; exact (Ext.rfl' _).al _
      have HW3 := Lib.hid hw3; clear hw3
      clear HW2
      go_wp2_with fail
      rw [← HW3.out]
      refine (r8fail (s', 0) 1 _).mono ?_
      rintro e w4 ⟨rfl, hE4⟩
      rw [show rFail (s', 0) (1 : Int) = ([], 1) from rfl]
      obtain ⟨k0, k1, k2, k3⟩ := (((b1.ext hE).ext hE3).ext hE4).cells
      clear HW3
      go_wp2
      obtain ⟨f0, f1⟩ := set2 k0 k1 (.string (ofL [])) (.int .i64 1)
      refine bodyPost_ret (v := .tuple #[.string (ofL []), rv ([], 1)]) (by simp [results, Tryd.results58, go_sem, f0, f1]; rfl) rfl ?_
      exact ⟨rfl, ((((hE2.tr hE).tr hE3).tr hE4).st (by simp) _).st (by simp) _⟩
    · rw [if_neg (by exact hl)]
      have d1 : decide (s'.length < n) = false := by simp; omega
      have hu2 : IntKind.u64.wrap (s'.length : Int) = (s'.length : Int) := U64.wrap (by show _ < _; omega)
      have e3 : (ofL s').extract n s'.length = ofL (s'.drop n) := by rw [← size_ofL s', extract_from, toL_ofL]
      have e5 : (ofL s').extract 0 n = ofL (s'.take n) := by rw [extract_to, toL_ofL]
      have hl : n ≤ s'.length := by omega
      clear hn0 hl0 hb
      go_enter Tryd.func58, Tryd.ntmps58
      go_wp2_with fail
      rw [show (⟨#[]⟩ : ByteArray) = ofL [] from rfl, ← HW2.out]
      refine (r8num x M _ hs).mono ?_
      rintro e w1 ⟨rfl, hE⟩
      rw [HQ.out]
      obtain ⟨w3, hw3⟩ : ∃ w3, w3 = w1.alloc (.cells #[.string (ofL s'), .int .i64 0] 91) := ⟨_, rfl⟩
      have hE3 : Ext w1 w3 := by rw [hw3]; exact (Ext.rfl' _).al _
      have b3 : RBx w3 w1.heap.size (s', 0) := by rw [hw3]; exact heap_alloc_new w1 _
      have HW3 := Lib.hid hw3; clear hw3
      clear HW2
      obtain ⟨k0, k1, k2, k3⟩ := ((b1.ext hE).ext hE3).cells
      obtain ⟨j0, j1, j2, j3⟩ := b3.cells
      go_wp2
      rw [← HW3.out]
      clear HW3
      go_region
      go_wp2
      obtain ⟨f2, f1⟩ := set2 k0 k1 (.string (ofL (s'.drop n))) (.int .i64 0)
      have f0 := cell_set_same k0 (.string (ofL (s'.drop n)))
      refine bodyPost_ret (v := .tuple #[.string (ofL (s'.take n)), rv (s'.drop n, 0)]) (by simp [results, Tryd.results58, go_sem, f0, f1]) rfl ?_
      exact ⟨rfl, (((hE2.tr hE).tr hE3).dr.st (by simp) _).st (by simp) _⟩
  · rw [if_pos (by exact h0)]
    have t : (er != 0) = true := bne_int_t h0
    clear h0 hn0 hl0 hb
    go_enter Tryd.func58, Tryd.ntmps58
    go_wp2_with fail
    rw [show (⟨#[]⟩ : ByteArray) = ofL [] from rfl, ← HW2.out]
    refine (r8num x M _ hs).mono ?_
    rintro e w1 ⟨rfl, hE⟩
    rw [HQ.out]
    obtain ⟨w3, hw3⟩ : ∃ w3, w3 = w1.alloc (.cells #[.string (ofL s'), .int .i64 er] 91) := ⟨_, rfl⟩
    have hE3 : Ext w1 w3 := by rw [hw3]; exact (Ext.rfl' _).al _
    have b3 : RBx w3 w1.heap.size (s', er) := by rw [hw3]; exact heap_alloc_new w1 _
    have HW3 := Lib.hid hw3; clear hw3
    clear HW2
    obtain ⟨k0, k1, k2, k3⟩ := ((b1.ext hE).ext hE3).cells
    obtain ⟨j0, j1, j2, j3⟩ := b3.cells
    go_wp2
    rw [← HW3.out]
    clear HW3
    go_region
    go_wp2
    obtain ⟨f2, f1⟩ := set2 k0 k1 (.string (ofL s')) (.int .i64 er)
    have f0 := cell_set_same k0 (.string (ofL s'))
    refine bodyPost_ret (v := .tuple #[.string (ofL []), rv (s', er)]) (by simp [results, Tryd.results58, go_sem, f0, f1]; rfl) rfl ?_
    exact ⟨rfl, (((hE2.tr hE).tr hE3).dr.st (by simp) _).st (by simp) _⟩

set_option maxRecDepth 100000 in
set_option maxHeartbeats 1000000 in
theorem r8text_neg (x : RS) (most : Int) (w : World) (hs : x.1.length ≤ 1000000) (hb : most < 0) :
    Calls Tryd.prog 58 #[rv x, .int .i64 most] w fun ee w' => ee = .returned (.tuple #[.string (ofL (rText x most).1), rv (rText x most).2]) ∧ Ext w w' := by
  have hM : most.toNat = 0 := by omega
  obtain ⟨w2, hw2, hE2, b0, b1⟩ := rboxes w x ([], 0)
  have HW2 := Lib.hid hw2; clear hw2
  have hl0 := rNum_len x 0
  have hn0 := rNum_le x 0
  rw [rText_eq, hM]
  obtain ⟨q, hq⟩ : ∃ q, rNum x 0 = q := ⟨_, rfl⟩
  rw [hq] at hl0 hn0
  rw [hq]
  obtain ⟨n, s', er⟩ := q
  have HQ := Lib.hid hq; clear hq
  simp only [] at hl0 hn0
  have e4 : (ofL s').size = s'.length := size_ofL s'
  have d0 : decide (most < 0) = true := by simp; omega
  by_cases h0 : er = 0
  · subst h0
    rw [if_neg (by simp)]
    by_cases hl : s'.length < n
    · rw [if_pos (by exact hl)]
      have d1 : decide (s'.length < n) = true := by simp; omega
      have hu2 : IntKind.u64.wrap (s'.length : Int) = (s'.length : Int) := U64.wrap (by show _ < _; omega)
      clear hn0 hl0 hb
      go_enter Tryd.func58, Tryd.ntmps58
      go_wp2_with fail
      rw [show (⟨#[]⟩ : ByteArray) = ofL [] from rfl, ← HW2.out]
      refine (r8num x 0 _ hs).mono ?_
      rintro e w1 ⟨rfl, hE⟩
      rw [HQ.out]
      obtain ⟨w3, hw3⟩ : ∃ w3, w3 = w1.alloc (.cells #[.string (ofL s'), .int .i64 0] 91) := ⟨_, rfl⟩
      have hE3 : Ext w1 w3 := by rw [hw3]; exact (Ext.rfl' _).al _
      have HW3 := Lib.hid hw3; clear hw3
      clear HW2
      go_wp2_with fail
      rw [← HW3.out]
      refine (r8fail (s', 0) 1 _).mono ?_
      rintro e w4 ⟨rfl, hE4⟩
      rw [show rFail (s', 0) (1 : Int) = ([], 1) from rfl]
      obtain ⟨k0, k1, k2, k3⟩ := (((b1.ext hE).ext hE3).ext hE4).cells
      clear HW3
      go_wp2
      obtain ⟨f0, f1⟩ := set2 k0 k1 (.string (ofL [])) (.int .i64 1)
      refine bodyPost_ret (v := .tuple #[.string (ofL []), rv ([], 1)]) (by simp [results, Tryd.results58, go_sem, f0, f1]; rfl) rfl ?_
      exact ⟨rfl, ((((hE2.tr hE).tr hE3).tr hE4).st (by simp) _).st (by simp) _⟩
    · rw [if_neg (by exact hl)]
      have d1 : decide (s'.length < n) = false := by simp; omega
      have hu2 : IntKind.u64.wrap (s'.length : Int) = (s'.length : Int) := U64.wrap (by show _ < _; omega)
      have e3 : (ofL s').extract n s'.length = ofL (s'.drop n) := by rw [← size_ofL s', extract_from, toL_ofL]
      have e5 : (ofL s').extract 0 n = ofL (s'.take n) := by rw [extract_to, toL_ofL]
      have hl : n ≤ s'.length := by omega
      clear hn0 hl0 hb
      go_enter Tryd.func58, Tryd.ntmps58
      go_wp2_with fail
      rw [show (⟨#[]⟩ : ByteArray) = ofL [] from rfl, ← HW2.out]
      refine (r8num x 0 _ hs).mono ?_
      rintro e w1 ⟨rfl, hE⟩
      rw [HQ.out]
      obtain ⟨w3, hw3⟩ : ∃ w3, w3 = w1.alloc (.cells #[.string (ofL s'), .int .i64 0] 91) := ⟨_, rfl⟩
      have hE3 : Ext w1 w3 := by rw [hw3]; exact (Ext.rfl' _).al _
      have b3 : RBx w3 w1.heap.size (s', 0) := by rw [hw3]; exact heap_alloc_new w1 _
      have HW3 := Lib.hid hw3; clear hw3
      clear HW2
      obtain ⟨k0, k1, k2, k3⟩ := ((b1.ext hE).ext hE3).cells
      obtain ⟨j0, j1, j2, j3⟩ := b3.cells
      go_wp2
      rw [← HW3.out]
      clear HW3
      go_region
      go_wp2
      obtain ⟨f2, f1⟩ := set2 k0 k1 (.string (ofL (s'.drop n))) (.int .i64 0)
      have f0 := cell_set_same k0 (.string (ofL (s'.drop n)))
      refine bodyPost_ret (v := .tuple #[.string (ofL (s'.take n)), rv (s'.drop n, 0)]) (by simp [results, Tryd.results58, go_sem, f0, f1]) rfl ?_
      exact ⟨rfl, (((hE2.tr hE).tr hE3).dr.st (by simp) _).st (by simp) _⟩
  · rw [if_pos (by exact h0)]
    have t : (er != 0) = true := bne_int_t h0
    clear h0 hn0 hl0 hb
    go_enter Tryd.func58, Tryd.ntmps58
    go_wp2_with fail
    rw [show (⟨#[]⟩ : ByteArray) = ofL [] from rfl, ← HW2.out]
    refine (r8num x 0 _ hs).mono ?_
    rintro e w1 ⟨rfl, hE⟩
    rw [HQ.out]
    obtain ⟨w3, hw3⟩ : ∃ w3, w3 = w1.alloc (.cells #[.string (ofL s'), .int .i64 er] 91) := ⟨_, rfl⟩
    have hE3 : Ext w1 w3 := by rw [hw3]; exact (Ext.rfl' _).al _
    have b3 : RBx w3 w1.heap.size (s', er) := by rw [hw3]; exact heap_alloc_new w1 _
    have HW3 := Lib.hid hw3; clear hw3
    clear HW2
    obtain ⟨k0, k1, k2, k3⟩ := ((b1.ext hE).ext hE3).cells
    obtain ⟨j0, j1, j2, j3⟩ := b3.cells
    go_wp2
    rw [← HW3.out]
    clear HW3
    go_region
    go_wp2
    obtain ⟨f2, f1⟩ := set2 k0 k1 (.string (ofL s')) (.int .i64 er)
    have f0 := cell_set_same k0 (.string (ofL s'))
    refine bodyPost_ret (v := .tuple #[.string (ofL []), rv (s', er)]) (by simp [results, Tryd.results58, go_sem, f0, f1]; rfl) rfl ?_
    exact ⟨rfl, (((hE2.tr hE).tr hE3).dr.st (by simp) _).st (by simp) _⟩

theorem r8text (x : RS) (most : Int) (w : World) (hs : x.1.length ≤ 1000000) (hb : most ≤ 9223372036854775807) :
    Calls Tryd.prog 58 #[rv x, .int .i64 most] w fun ee w' => ee = .returned (.tuple #[.string (ofL (rText x most).1), rv (rText x most).2]) ∧ Ext w w' := by
  by_cases h : most < 0
  · exact r8text_neg x most w hs h
  · obtain ⟨M, rfl⟩ : ∃ M : Nat, most = M := ⟨most.toNat, by omega⟩
    exact r8text_pos x M w hs (by omega)
end Go.Proofs.YtmnpbpfeoackiaaDoor
