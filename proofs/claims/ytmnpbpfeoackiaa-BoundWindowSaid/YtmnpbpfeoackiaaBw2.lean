/-
  Package bucket: a bucket at a later time, one taken. Condition: its numbers are such, and the time.
-/
import Derived.Test.YtmnpbpfeoackiaaBw1
namespace Go.Proofs.Ytmnpbpfeoackiaa
open Go.RowKit

/-- The state behind box and result. -/
theorem bk_two (w : World) (c f h a : Nat) : ∃ V, (w.alloc (.cells #[.int .i64 c, .int .i64 f, .int .i64 h, .int .i64 a] 63)).alloc (.cells #[.int .i64 0, .int .i64 0, .int .i64 0, .int .i64 0] 63) = V ∧ Ext w V ∧ BkB V w.heap.size c f h a ∧ BkB V (w.heap.size + 1) 0 0 0 0 := by
  refine ⟨_, rfl, ((Ext.rfl' w).al _).al _, Arr.alloc (Arr.new w _ (bkC c f h a)) _, ?_⟩
  have H := Arr.new (w.alloc (.cells #[.int .i64 c, .int .i64 f, .int .i64 h, .int .i64 a] 63)) 63 (bkC 0 0 0 0)
  rw [World.size_alloc] at H
  exact H
theorem bkAt_ok {c f h a now : Nat} (H : BkOk c f h a) (hn : now ≤ 1099511627776) : BkOk c f (bkAt c f (h, a) now).1 (bkAt c f (h, a) now).2 := by
  refine ⟨H.cB, H.fB, bkAt_cap H.hB, ?_⟩
  unfold bkAt
  split
  · exact H.aB
  · exact hn

set_option maxRecDepth 100000 in
set_option maxHeartbeats 1000000 in
theorem bkat_any {c f h a : Nat} (H : BkOk c f h a) (now : Nat) (hn : now ≤ 1099511627776) (w : World) : Calls Try.prog 48 #[bkV c f h a, .int .i64 now] w fun e w' => e = .returned (bkV c f (bkAt c f (h, a) now).1 (bkAt c f (h, a) now).2) ∧ Ext w w' := by
  obtain ⟨W, hW, E0, A0, A1⟩ := bk_two w c f h a
  have HW := Kp.mk hW
  have cR := Kp.mk (fun W => right_bk H W)
  have h1 := H.cB; have h2 := H.fB; have h3 := H.hB; have h4 := H.aB
  obtain ⟨x, hx⟩ : ∃ x, (bkAt c f (h, a) now).1 = x := ⟨_, rfl⟩
  obtain ⟨y, hy⟩ : ∃ y, (bkAt c f (h, a) now).2 = y := ⟨_, rfl⟩
  rw [hx, hy]
  unfold bkAt at hx hy
  dsimp only at hx hy
  unfold bkV at cR ⊢
  clear hW H
  by_cases hna : now ≤ a
  · rw [if_pos hna] at hx hy
    dsimp only at hx hy
    subst hx hy
    have q1 : decide ((now : Int) ≤ (a : Int)) = true := by simp; exact hna
    go_enter Try.func48, Try.ntmps48
    go_upto_region 1 with fail
    rw [HW.out]
    clear HW
    obtain ⟨c0, c1, c2, c3, cf⟩ := BkB.cells A0
    go_wp2_with fail
    refine (cR.out _).mono ?_
    rintro e W1 ⟨rfl, E1⟩
    have B0 := Arr.ext A0 E1 (Arr.lt A0)
    have B1 := Arr.ext A1 E1 (Arr.lt A1)
    have F1 := E0.tr E1
    clear c0 c1 c2 c3 cf A0 A1 E0 E1
    obtain ⟨c0, c1, c2, c3, cf⟩ := BkB.cells B0
    obtain ⟨d0, d1, d2, d3, df⟩ := BkB.cells B1
    have f0 := df 0; have f1 := df 1; have f2 := df 2; have f3 := df 3
    clear cf df B0
    go_wp2
    have z := bk_store F1 (show w.heap.size ≤ w.heap.size + 1 by omega) B1 c f h a
    revert z
    generalize World.setCell _ ⟨w.heap.size + 1, 3, none⟩ (.int .i64 (a : Int)) = wz
    intro ⟨zE, zA⟩
    obtain ⟨z0, z1, z2, z3, _⟩ := zA.cells
    refine bodyPost_ret (v := .agg #[.int .i64 c, .int .i64 f, .int .i64 h, .int .i64 a]) (by simp [results, Try.results48, go_sem, z0, z1, z2, z3]) rfl ?_
    exact ⟨rfl, zE⟩
  · rw [if_neg hna] at hx hy
    dsimp only at hx hy
    subst hy
    have q1 : decide ((now : Int) ≤ (a : Int)) = false := by simp; omega
    have q2 : decide ((1099511627776 : Int) < (now : Int)) = false := by simp; omega
    obtain ⟨dt, hdt⟩ : ∃ d, now - a = d := ⟨_, rfl⟩
    have hsub : (now : Int) - (a : Int) = (dt : Int) := by omega
    have hwr : IntKind.i64.wrap ((now : Int) - (a : Int)) = (dt : Int) := by rw [hsub]; exact IntWalk.i64_in _ (by omega)
    obtain ⟨m, hm⟩ : ∃ m, min (f * dt) 9223372036854775807 = m := ⟨_, rfl⟩
    obtain ⟨s, hs⟩ : ∃ s, min (h + m) 9223372036854775807 = s := ⟨_, rfl⟩
    have cM := fun W => smul_any f dt (by omega) (by omega) W
    have cA := fun W => sadd_any h m (by omega) (by omega) W
    simp only [hm] at cM
    simp only [hs] at cA
    have hmin : min (c : Int) (s : Int) = (x : Int) := by rw [hdt] at hx; omega
    replace cM := Kp.mk cM; replace cA := Kp.mk cA
    have HMIN := Kp.mk hmin; have HWR := Kp.mk hwr
    clear hx hm hs hdt hsub hmin hwr
    go_enter Try.func48, Try.ntmps48
    go_upto_region 1 with fail
    rw [HW.out]
    clear HW
    obtain ⟨c0, c1, c2, c3, cf⟩ := BkB.cells A0
    go_wp2_with fail
    refine (cR.out _).mono ?_
    rintro e W1 ⟨rfl, E1⟩
    have B0 := Arr.ext A0 E1 (Arr.lt A0)
    have B1 := Arr.ext A1 E1 (Arr.lt A1)
    have F1 := E0.tr E1
    clear c0 c1 c2 c3 cf A0 A1 E0 E1 cR
    obtain ⟨c0, c1, c2, c3, cf⟩ := BkB.cells B0
    go_upto_region 3 with fail
    clear c0 c1 c2 c3 cf q1 q2
    refine wp_region_tailsE (fun i v W => match i with
      | 0 => v = .pointer (some ⟨w.heap.size, 0, none⟩)
      | 1 => v = .int .i64 c
      | 2 => v = .pointer (some ⟨w.heap.size, 2, none⟩)
      | 3 => v = .int .i64 h
      | 4 => v = .pointer (some ⟨w.heap.size, 1, none⟩)
      | 5 => v = .int .i64 f
      | 6 => v = .int .i64 now
      | 7 => v = .pointer (some ⟨w.heap.size, 3, none⟩)
      | 8 => v = .int .i64 a
      | 9 => v = .int .i64 dt
      | 10 => v = .int .i64 m
      | 11 => v = .int .i64 s
      | 12 => v = .int .i64 x
      | 13 => v = .pointer (some ⟨w.heap.size, 2, none⟩)
      | _ => True) 14 (by kernel_rfl) (by kernel_rfl) (by kernel_rfl) (by decide) (by kernel_rfl) (by kernel_rfl) (by kernel_rfl) (by kernel_rfl) ?_ ?_ ?_
    · intro i v W1 W2 e1 e2 h
      match i, h with
      | 0, h => exact h
      | 1, h => exact h
      | 2, h => exact h
      | 3, h => exact h
      | 4, h => exact h
      | 5, h => exact h
      | 6, h => exact h
      | 7, h => exact h
      | 8, h => exact h
      | 9, h => exact h
      | 10, h => exact h
      | 11, h => exact h
      | 12, h => exact h
      | 13, h => exact h
      | (i + 14), h => exact h
    · intro HF
      refine localsR_cons (fun u W hW hd => ?_) ?_
      · refine opLeaves_ev HF rfl fun ev zc zg zf zt => ?_
        have t2 : ev (.tmp 2) = .pointer (some ⟨w.heap.size, 0, none⟩) := zt 2
        clear zt
        exact ev_val (v := .pointer (some ⟨w.heap.size, 0, none⟩)) (by go_simp) rfl
      refine localsR_cons (fun u W hW hd => ?_) ?_
      · refine opLeaves_ev HF rfl fun ev zc zg zf zt => ?_
        have t19 : ev (.tmp 19) = u 0 := zt 19
        clear zt
        have h0 : u 0 = _ := hd 0 (by kernel_rfl)
        obtain ⟨c0, c1, c2, c3, _⟩ := BkB.cells (Arr.ext B0 hW (Arr.lt B0))
        exact ev_val (v := .int .i64 c) (by go_simp) rfl
      refine localsR_cons (fun u W hW hd => ?_) ?_
      · refine opLeaves_ev HF rfl fun ev zc zg zf zt => ?_
        have t2 : ev (.tmp 2) = .pointer (some ⟨w.heap.size, 0, none⟩) := zt 2
        clear zt
        exact ev_val (v := .pointer (some ⟨w.heap.size, 2, none⟩)) (by go_simp) rfl
      refine localsR_cons (fun u W hW hd => ?_) ?_
      · refine opLeaves_ev HF rfl fun ev zc zg zf zt => ?_
        have t21 : ev (.tmp 21) = u 2 := zt 21
        clear zt
        have h2 : u 2 = _ := hd 2 (by kernel_rfl)
        obtain ⟨c0, c1, c2, c3, _⟩ := BkB.cells (Arr.ext B0 hW (Arr.lt B0))
        exact ev_val (v := .int .i64 h) (by go_simp) rfl
      refine localsR_cons (fun u W hW hd => ?_) ?_
      · refine opLeaves_ev HF rfl fun ev zc zg zf zt => ?_
        have t2 : ev (.tmp 2) = .pointer (some ⟨w.heap.size, 0, none⟩) := zt 2
        clear zt
        exact ev_val (v := .pointer (some ⟨w.heap.size, 1, none⟩)) (by go_simp) rfl
      refine localsR_cons (fun u W hW hd => ?_) ?_
      · refine opLeaves_ev HF rfl fun ev zc zg zf zt => ?_
        have t23 : ev (.tmp 23) = u 4 := zt 23
        clear zt
        have h4 : u 4 = _ := hd 4 (by kernel_rfl)
        obtain ⟨c0, c1, c2, c3, _⟩ := BkB.cells (Arr.ext B0 hW (Arr.lt B0))
        exact ev_val (v := .int .i64 f) (by go_simp) rfl
      refine localsR_cons (fun u W hW hd => ?_) ?_
      · refine opLeaves_ev HF rfl fun ev zc zg zf zt => ?_
        have t1 : ev (.tmp 1) = .int .i64 now := zt 1
        clear zt
        exact ev_val (v := .int .i64 now) (by go_simp) rfl
      refine localsR_cons (fun u W hW hd => ?_) ?_
      · refine opLeaves_ev HF rfl fun ev zc zg zf zt => ?_
        have t2 : ev (.tmp 2) = .pointer (some ⟨w.heap.size, 0, none⟩) := zt 2
        clear zt
        exact ev_val (v := .pointer (some ⟨w.heap.size, 3, none⟩)) (by go_simp) rfl
      refine localsR_cons (fun u W hW hd => ?_) ?_
      · refine opLeaves_ev HF rfl fun ev zc zg zf zt => ?_
        have t26 : ev (.tmp 26) = u 7 := zt 26
        clear zt
        have h7 : u 7 = _ := hd 7 (by kernel_rfl)
        obtain ⟨c0, c1, c2, c3, _⟩ := BkB.cells (Arr.ext B0 hW (Arr.lt B0))
        exact ev_val (v := .int .i64 a) (by go_simp) rfl
      refine localsR_cons (fun u W hW hd => ?_) ?_
      · refine opLeaves_ev HF rfl fun ev zc zg zf zt => ?_
        have t25 : ev (.tmp 25) = u 6 := zt 25
        have t27 : ev (.tmp 27) = u 8 := zt 27
        clear zt
        have h6 : u 6 = _ := hd 6 (by kernel_rfl)
        have h8 : u 8 = _ := hd 8 (by kernel_rfl)
        have hwr := HWR.out
        exact ev_val (v := .int .i64 dt) (by go_simp) rfl
      refine localsR_cons (fun u W hW hd => ?_) ?_
      · refine opLeaves_ev HF rfl fun ev zc zg zf zt => ?_
        have t24 : ev (.tmp 24) = u 5 := zt 24
        have t28 : ev (.tmp 28) = u 9 := zt 28
        clear zt
        have h5 : u 5 = _ := hd 5 (by kernel_rfl)
        have h9 : u 9 = _ := hd 9 (by kernel_rfl)
        exact ev_call (f := 19) (args := #[.int .i64 f, .int .i64 dt]) (by go_simp) ((cM.out W).mono (by rintro e9 W9 ⟨rfl, h9⟩; exact ⟨_, rfl, h9, rfl⟩))
      refine localsR_cons (fun u W hW hd => ?_) ?_
      · refine opLeaves_ev HF rfl fun ev zc zg zf zt => ?_
        have t22 : ev (.tmp 22) = u 3 := zt 22
        have t29 : ev (.tmp 29) = u 10 := zt 29
        clear zt
        have h3 : u 3 = _ := hd 3 (by kernel_rfl)
        have h10 : u 10 = _ := hd 10 (by kernel_rfl)
        exact ev_call (f := 20) (args := #[.int .i64 h, .int .i64 m]) (by go_simp) ((cA.out W).mono (by rintro e9 W9 ⟨rfl, h9⟩; exact ⟨_, rfl, h9, rfl⟩))
      refine localsR_cons (fun u W hW hd => ?_) ?_
      · refine opLeaves_ev HF rfl fun ev zc zg zf zt => ?_
        have t20 : ev (.tmp 20) = u 1 := zt 20
        have t30 : ev (.tmp 30) = u 11 := zt 30
        clear zt
        have h1 : u 1 = _ := hd 1 (by kernel_rfl)
        have h11 : u 11 = _ := hd 11 (by kernel_rfl)
        have hmin := HMIN.out
        exact ev_val (v := .int .i64 x) (by go_simp) rfl
      refine localsR_cons (fun u W hW hd => ?_) localsR_nil
      · refine opLeaves_ev HF rfl fun ev zc zg zf zt => ?_
        have t2 : ev (.tmp 2) = .pointer (some ⟨w.heap.size, 0, none⟩) := zt 2
        clear zt
        exact ev_val (v := .pointer (some ⟨w.heap.size, 2, none⟩)) (by go_simp) rfl
    · intro u3 W3 hW3 hV
      have h12 : u3 12 = _ := hV 12 (by decide)
      have h13 : u3 13 = _ := hV 13 (by decide)
      have B0 := Arr.ext B0 hW3 (Arr.lt B0)
      have B1 := Arr.ext B1 hW3 (Arr.lt B1)
      have F3 := F1.tr hW3
      clear hV hW3 F1 cM cA
      obtain ⟨c0, c1, c2, c3, cf⟩ := BkB.cells B0
      have f2 := cf 2; have f3 := cf 3
      go_simp
      go_upto_region 5 with fail
      obtain ⟨V, hV⟩ : ∃ V : World, (W3.setCell ⟨w.heap.size, 2, none⟩ (.int .i64 x)).setCell ⟨w.heap.size, 3, none⟩ (.int .i64 now) = V := ⟨_, rfl⟩
      rw [hV]
      have C0 : BkB V w.heap.size c f x now := by rw [← hV]; exact (Arr.set B0 2 _).set 3 _
      have C1 : BkB V (w.heap.size + 1) 0 0 0 0 := by rw [← hV]; exact bk_other (bk_other B1 (by omega) _ _) (by omega) _ _
      have F4 : Ext w V := by rw [← hV]; exact (F3.st (p := ⟨w.heap.size, 2, none⟩) (Nat.le_refl _) _).st (p := ⟨w.heap.size, 3, none⟩) (Nat.le_refl _) _
      clear hV B0 B1 F3 c0 c1 c2 c3 cf f2 f3 h12 h13
      have B0 := C0; have B1 := C1
      clear C0
      obtain ⟨c0, c1, c2, c3, cf⟩ := BkB.cells B0
      obtain ⟨d0, d1, d2, d3, df⟩ := BkB.cells B1
      have f0 := df 0; have f1 := df 1; have f2 := df 2; have f3 := df 3
      clear cf df B0
      go_wp2
      have z := bk_store F4 (show w.heap.size ≤ w.heap.size + 1 by omega) B1 c f x now
      revert z
      generalize World.setCell _ ⟨w.heap.size + 1, 3, none⟩ (.int .i64 (now : Int)) = wz
      intro ⟨zE, zA⟩
      obtain ⟨z0, z1, z2, z3, _⟩ := zA.cells
      refine bodyPost_ret (v := .agg #[.int .i64 c, .int .i64 f, .int .i64 x, .int .i64 now]) (by simp [results, Try.results48, go_sem, z0, z1, z2, z3]) rfl ?_
      exact ⟨rfl, zE⟩
set_option maxRecDepth 100000 in
set_option maxHeartbeats 1000000 in
theorem bktake_any {c f h a : Nat} (H : BkOk c f h a) (now : Nat) (hn : now ≤ 1099511627776) (w : World) : Calls Try.prog 33 #[bkV c f h a, .int .i64 now] w fun e w' => e = .returned (.tuple #[bkV c f (bkTake c f (h, a) now).1.1 (bkTake c f (h, a) now).1.2, .bool (bkTake c f (h, a) now).2]) ∧ Ext w w' := by
  obtain ⟨W, hW, E0, A0, A1⟩ := bk_two w c f h a
  have HW := Kp.mk hW
  have cR := Kp.mk (fun W => right_bk H W)
  have cA := Kp.mk (fun W => bkat_any H now hn W)
  unfold bkTake
  obtain ⟨⟨x, y⟩, hxy⟩ : ∃ x, bkAt c f (h, a) now = x := ⟨_, rfl⟩
  have hok := bkAt_ok H hn
  rw [hxy] at cA hok ⊢
  dsimp only at cA hok ⊢
  obtain ⟨⟨⟨rx, ry⟩, rb⟩, hr⟩ : ∃ r, (if x = 0 then ((x, y), false) else ((x - 1, y), true)) = r := ⟨_, rfl⟩
  rw [hr]
  dsimp only
  have HR := Kp.mk hr
  clear hr
  unfold bkV at cR cA ⊢
  have hxB := hok.hB
  have hcB := H.cB
  clear hW H hxy hok
  go_enter Try.func33, Try.ntmps33
  go_upto_region 1 with fail
  rw [HW.out]
  clear HW
  obtain ⟨c0, c1, c2, c3, cf⟩ := BkB.cells A0
  go_wp2_with fail
  refine (cR.out _).mono ?_
  rintro e W1 ⟨rfl, E1⟩
  have B0 := Arr.ext A0 E1 (Arr.lt A0)
  have B1 := Arr.ext A1 E1 (Arr.lt A1)
  have F1 := E0.tr E1
  clear c0 c1 c2 c3 cf A0 A1 E0 E1 cR
  obtain ⟨c0, c1, c2, c3, cf⟩ := BkB.cells B0
  go_wp2_with fail
  refine (cA.out _).mono ?_
  rintro e W2 ⟨rfl, E2⟩
  have C0 := Arr.ext B0 E2 (Arr.lt B0)
  have C1 := Arr.ext B1 E2 (Arr.lt B1)
  have F2 := F1.tr E2
  clear c0 c1 c2 c3 cf B0 B1 F1 E2 cA
  obtain ⟨c0, c1, c2, c3, cf⟩ := BkB.cells C0
  have g0 := cf 0; have g1 := cf 1; have g2 := cf 2; have g3 := cf 3
  go_upto_region 4 with fail
  have z := bk_store F2 (Nat.le_refl _) C0 c f x y
  obtain ⟨V, hV⟩ : ∃ V : World, (((W2.setCell ⟨w.heap.size, 0, none⟩ (.int .i64 c)).setCell ⟨w.heap.size, 1, none⟩ (.int .i64 f)).setCell ⟨w.heap.size, 2, none⟩ (.int .i64 x)).setCell ⟨w.heap.size, 3, none⟩ (.int .i64 y) = V := ⟨_, rfl⟩
  rw [hV] at z ⊢
  obtain ⟨F3, B0⟩ := z
  have B1 : BkB V (w.heap.size + 1) 0 0 0 0 := by rw [← hV]; exact bk_other (bk_other (bk_other (bk_other C1 (by omega) _ _) (by omega) _ _) (by omega) _ _) (by omega) _ _
  have he := bk_eql c f x y V
  clear c0 c1 c2 c3 cf g0 g1 g2 g3 hV C0 C1 F2
  by_cases hx0 : x = 0
  · obtain rfl := hx0
    have hr := HR.out
    rw [if_pos rfl] at hr
    obtain ⟨⟨rfl, rfl⟩, rfl⟩ : (0 = rx ∧ y = ry) ∧ false = rb := by simpa using hr
    clear hr HR he
    obtain ⟨c0, c1, c2, c3, cf⟩ := BkB.cells B0
    obtain ⟨d0, d1, d2, d3, df⟩ := BkB.cells B1
    have f0 := df 0; have f1 := df 1; have f2 := df 2; have f3 := df 3
    clear cf df B0
    go_wp2
    have z := bk_store F3 (show w.heap.size ≤ w.heap.size + 1 by omega) B1 c f 0 y
    revert z
    rw [show ((0 : Nat) : Int) = 0 from rfl]
    generalize World.setCell _ ⟨w.heap.size + 1, 3, none⟩ (.int .i64 (y : Int)) = wz
    intro ⟨zE, zA⟩
    obtain ⟨z0, z1, z2, z3, _⟩ := zA.cells
    refine bodyPost_ret (v := .tuple #[.agg #[.int .i64 c, .int .i64 f, .int .i64 0, .int .i64 y], .bool false]) (by simp [results, Try.results33, go_sem, z0, z1, z2, z3]) rfl ?_
    exact ⟨rfl, zE⟩
  · have hr := HR.out
    rw [if_neg hx0] at hr
    rw [decide_eq_false hx0] at he
    obtain ⟨x1, hx1⟩ : ∃ x1, x - 1 = x1 := ⟨_, rfl⟩
    rw [hx1] at hr
    obtain ⟨⟨rfl, rfl⟩, rfl⟩ : (x1 = rx ∧ y = ry) ∧ true = rb := by simpa using hr
    clear hr HR he
    have hwr : IntKind.i64.wrap ((x : Int) - 1) = (x1 : Int) := by rw [show (x : Int) - 1 = (x1 : Int) by omega]; exact IntWalk.i64_in _ (by omega)
    clear hx1
    obtain ⟨c0, c1, c2, c3, cf⟩ := BkB.cells B0
    have g2 := cf 2
    go_upto_region 7 with fail
    clear hx0
    have C0 : BkB (V.setCell ⟨w.heap.size, 2, none⟩ (.int .i64 x1)) w.heap.size c f x1 y := Arr.set B0 2 _
    have C1 := bk_other B1 (show w.heap.size + 1 ≠ w.heap.size by omega) 2 (.int .i64 x1)
    have F4 := F3.st (p := ⟨w.heap.size, 2, none⟩) (Nat.le_refl _) (.int .i64 x1)
    clear c0 c1 c2 c3 cf g2 B0 B1 F3 hwr
    revert C0 C1 F4
    generalize V.setCell ⟨w.heap.size, 2, none⟩ (.int .i64 x1) = V2
    intro B0 B1 F4
    obtain ⟨c0, c1, c2, c3, cf⟩ := BkB.cells B0
    obtain ⟨d0, d1, d2, d3, df⟩ := BkB.cells B1
    have f0 := df 0; have f1 := df 1; have f2 := df 2; have f3 := df 3
    clear cf df B0
    go_wp2
    have z := bk_store F4 (show w.heap.size ≤ w.heap.size + 1 by omega) B1 c f x1 y
    revert z
    generalize World.setCell _ ⟨w.heap.size + 1, 3, none⟩ (.int .i64 (y : Int)) = wz
    intro ⟨zE, zA⟩
    obtain ⟨z0, z1, z2, z3, _⟩ := zA.cells
    refine bodyPost_ret (v := .tuple #[.agg #[.int .i64 c, .int .i64 f, .int .i64 x1, .int .i64 y], .bool true]) (by simp [results, Try.results33, go_sem, z0, z1, z2, z3]) rfl ?_
    exact ⟨rfl, zE⟩
end Go.Proofs.Ytmnpbpfeoackiaa
