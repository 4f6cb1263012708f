/-
  Package rate: one is taken. Condition: the bucket's numbers are such, and the time.
-/
import Derived.Test.YtmnpbpfeoackiaaBw5
namespace Go.Proofs.Ytmnpbpfeoackiaa
open Go.RowKit

set_option maxRecDepth 100000 in
set_option maxHeartbeats 1000000 in
theorem rtake_any {w : World} {B p m1 m2 : Nat} {cap fill : Nat} {o : Option (Nat × Nat × Nat × Nat)} (H : RtAt w B p m1 m2 cap fill o) {h t : Nat} (ho : bkOf cap fill o = (cap, fill, h, t)) (hk : BkOk cap fill h t) (now : Nat) (hn : now ≤ 1099511627776) :
    Calls Try.prog 17 #[.pointer (some ⟨p, 0, none⟩), .string ⟨#[97]⟩, .string ⟨#[103, 111, 108, 100]⟩, .int .i64 now] w fun e w' => e = .returned (.int .i64 (if (bkTake cap fill (h, t) now).2 = true then 0 else 17)) ∧ RtAt w' B p m1 m2 cap fill (some (cap, fill, (bkTake cap fill (h, t) now).1.1, (bkTake cap fill (h, t) now).1.2)) ∧ OneT m2 w w' := by
  have cT := Kp.mk (fun W => bktake_any hk now hn W)
  obtain ⟨⟨⟨h', t'⟩, tk⟩, htk⟩ : ∃ r, bkTake cap fill (h, t) now = r := ⟨_, rfl⟩
  rw [htk] at cT ⊢
  dsimp only at cT ⊢
  unfold bkV at cT
  have cO := Kp.mk (fun W (hW : Ext w W) => of_any (H.ext hW) ho)
  unfold bkV whoV at cO
  have c0 := H.box.cell 0
  simp only [List.getElem?_cons_zero] at c0
  have hnil := run_clsNil m1 w
  clear hk ho htk
  go_enter Try.func17, Try.ntmps17
  go_upto_region 3 with fail
  clear c0 hnil
  go_upto_region 5 with fail
  obtain ⟨W1, hW1, E1, A1⟩ : ∃ W, w.alloc (.cells #[.string ⟨#[97]⟩, .string ⟨#[103, 111, 108, 100]⟩] 61) = W ∧ Ext w W ∧ Arr W w.heap.size 61 [.string ⟨#[97]⟩, .string ⟨#[103, 111, 108, 100]⟩] := ⟨_, rfl, (Ext.rfl' w).al _, Arr.new w _ [.string ⟨#[97]⟩, .string ⟨#[103, 111, 108, 100]⟩]⟩
  rw [hW1]
  have d0 := A1.cell 0; have d1 := A1.cell 1
  simp only [List.getElem?_cons_zero, List.getElem?_cons_succ] at d0 d1
  clear hW1
  go_wp2_with fail
  refine (cO.out W1 E1).mono ?_
  rintro e W2 ⟨rfl, E2⟩
  have A2 := A1.ext E2 A1.lt
  have F2 := E1.tr E2
  clear d0 d1 A1 E1 E2 cO
  go_upto_region 6 with fail
  obtain ⟨W3, hW3, E3, B3⟩ := bk_new W2 cap fill h t
  rw [hW3]
  have A3 := A2.ext E3 A2.lt
  have F3 := F2.tr E3
  have hs2 := F2.size
  obtain ⟨c0, c1, c2, c3, cf⟩ := BkB.cells B3
  have k0 := cf 0; have k1 := cf 1; have k2 := cf 2; have k3 := cf 3
  clear hW3 A2 F2 E3
  go_wp2_with fail
  refine (cT.out W3).mono ?_
  rintro e W4 ⟨rfl, E4⟩
  have A4 := A3.ext E4 A3.lt
  have B4 := Arr.ext B3 E4 (Arr.lt B3)
  have F4 := F3.tr E4
  clear c0 c1 c2 c3 cf k0 k1 k2 k3 A3 B3 F3 E4 cT
  obtain ⟨c0, c1, c2, c3, cf⟩ := BkB.cells B4
  have k0 := cf 0; have k1 := cf 1; have k2 := cf 2; have k3 := cf 3
  go_upto_region 9 with fail
  have z := bk_store F4 hs2 B4 cap fill h' t'
  obtain ⟨V, hV⟩ : ∃ V : World, (((W4.setCell ⟨W2.heap.size, 0, none⟩ (.int .i64 cap)).setCell ⟨W2.heap.size, 1, none⟩ (.int .i64 fill)).setCell ⟨W2.heap.size, 2, none⟩ (.int .i64 h')).setCell ⟨W2.heap.size, 3, none⟩ (.int .i64 t') = V := ⟨_, rfl⟩
  rw [hV] at z ⊢
  obtain ⟨F5, B5⟩ := z
  have hlt := A4.lt
  have hltW : w.heap.size < W2.heap.size := by
    rcases Nat.lt_or_ge w.heap.size W2.heap.size with h | h
    · exact h
    · have hb := B4
      unfold BkB Arr at hb
      have ha := A4
      unfold Arr at ha
      rw [show W2.heap.size = w.heap.size by omega] at hb
      rw [ha] at hb
      cases hb
  have A5 : Arr V w.heap.size 61 [.string ⟨#[97]⟩, .string ⟨#[103, 111, 108, 100]⟩] := by
    have hne : w.heap.size ≠ W2.heap.size := by omega
    rw [← hV]
    exact (heap_setCell_other _ ⟨W2.heap.size, 3, none⟩ _ _ hne).trans ((heap_setCell_other _ ⟨W2.heap.size, 2, none⟩ _ _ hne).trans ((heap_setCell_other _ ⟨W2.heap.size, 1, none⟩ _ _ hne).trans ((heap_setCell_other _ ⟨W2.heap.size, 0, none⟩ _ _ hne).trans A4)))
  have H5 := H.ext F5
  clear c0 c1 c2 c3 cf k0 k1 k2 k3 hV A4 B4 F4
  refine wp_region_tailsE (fun i v W => match i with
    | 0 => v = .pointer (some ⟨p, 0, none⟩)
    | 1 => v = .pointer (some ⟨p, 0, none⟩)
    | 2 => v = .pointer (some ⟨p, 1, none⟩)
    | 3 => v = .map (some m2)
    | 4 => v = .agg #[.string ⟨#[97]⟩, .string ⟨#[103, 111, 108, 100]⟩]
    | 5 => v = .agg #[.int .i64 cap, .int .i64 fill, .int .i64 h', .int .i64 t']
    | _ => True) 6 (by kernel_rfl) (by kernel_rfl) (by kernel_rfl) (by decide) (by kernel_rfl) (by kernel_rfl) (by kernel_rfl) (by kernel_rfl) ?_ ?_ ?_
  · intro i v W1 W2 e1 e2 h
    match i, h with
    | 0, h => exact h
    | 1, h => exact h
    | 2, h => exact h
    | 3, h => exact h
    | 4, h => exact h
    | 5, h => exact h
    | (i + 6), h => exact h
  · intro HF
    refine localsR_cons (fun u W hW hd => ?_) ?_
    · refine opLeaves_ev HF rfl fun ev zc zg zf zt => ?_
      have t0 : ev (.tmp 0) = .pointer (some ⟨p, 0, none⟩) := zt 0
      clear zt
      exact ev_val (v := .pointer (some ⟨p, 0, none⟩)) (by go_simp) rfl
    refine localsR_cons (fun u W hW hd => ?_) ?_
    · refine opLeaves_ev HF rfl fun ev zc zg zf zt => ?_
      have t42 : ev (.tmp 42) = u 0 := zt 42
      clear zt
      have h0 : u 0 = _ := hd 0 (by kernel_rfl)
      exact ev_val (v := .pointer (some ⟨p, 0, none⟩)) (by go_simp) rfl
    refine localsR_cons (fun u W hW hd => ?_) ?_
    · refine opLeaves_ev HF rfl fun ev zc zg zf zt => ?_
      have t43 : ev (.tmp 43) = u 1 := zt 43
      clear zt
      have h1 : u 1 = _ := hd 1 (by kernel_rfl)
      exact ev_val (v := .pointer (some ⟨p, 1, none⟩)) (by go_simp) rfl
    refine localsR_cons (fun u W hW hd => ?_) ?_
    · refine opLeaves_ev HF rfl fun ev zc zg zf zt => ?_
      have t44 : ev (.tmp 44) = u 2 := zt 44
      clear zt
      have h2 : u 2 = _ := hd 2 (by kernel_rfl)
      have c1 := (H5.ext hW).box.cell 1
      simp only [List.getElem?_cons_zero, List.getElem?_cons_succ] at c1
      exact ev_val (v := .map (some m2)) (by go_simp) rfl
    refine localsR_cons (fun u W hW hd => ?_) ?_
    · refine opLeaves_ev HF rfl fun ev zc zg zf zt => ?_
      have t10 : ev (.tmp 10) = .pointer (some ⟨w.heap.size, 0, none⟩) := zt 10
      clear zt
      have d0 := (A5.ext hW A5.lt).cell 0; have d1 := (A5.ext hW A5.lt).cell 1
      simp only [List.getElem?_cons_zero, List.getElem?_cons_succ] at d0 d1
      exact ev_val (v := .agg #[.string ⟨#[97]⟩, .string ⟨#[103, 111, 108, 100]⟩]) (by go_simp) rfl
    refine localsR_cons (fun u W hW hd => ?_) localsR_nil
    · refine opLeaves_ev HF rfl fun ev zc zg zf zt => ?_
      have t11 : ev (.tmp 11) = .pointer (some ⟨W2.heap.size, 0, none⟩) := zt 11
      clear zt
      obtain ⟨c0, c1, c2, c3, _⟩ := BkB.cells (Arr.ext B5 hW (Arr.lt B5))
      exact ev_val (v := .agg #[.int .i64 cap, .int .i64 fill, .int .i64 h', .int .i64 t']) (by go_simp) rfl
  · intro u9 W9 hW9 hV
    have h3 : u9 3 = _ := hV 3 (by decide)
    have h4 : u9 4 = _ := hV 4 (by decide)
    have h5 : u9 5 = _ := hV 5 (by decide)
    have H9 := H5.ext hW9
    have F9 := F5.tr hW9
    have hr := run_bkPut m2 o cap fill h' t' W9 H9.bks
    unfold whoV at hr
    obtain ⟨V8, hV8, hm8, ho8, -⟩ := map_turn (o' := .map (bkMap (some (cap, fill, h', t'))) (bkClock (some (cap, fill, h', t')))) H9.bks
    have hos : V8.os = W9.os ∧ V8.tape = W9.tape ∧ V8.output = W9.output ∧ V8.heap.size = W9.heap.size := by rw [← hV8]; exact ⟨rfl, rfl, rfl, Array.size_setIfInBounds⟩
    rw [hV8] at hr
    have hp := H9.ne
    have hm12 : m1 ≠ m2 := by
      rintro rfl
      have e1 := H9.cls
      rw [H9.bks] at e1
      have e2 : (Obj.map (bkMap o) (bkClock o)) = .map (clsMap (clsV cap fill)) 1 := Option.some.inj e1
      have e3 : bkMap o = clsMap (clsV cap fill) := by injection e2
      cases o with
      | none => exact absurd (congrArg Array.size e3) (by simp [bkMap, clsMap])
      | some q =>
        obtain ⟨q1, q2, q3, q4⟩ := q
        have e4 := congrArg (fun x : Array MapEntry => x.toList.map (·.key)) e3
        simp [bkMap, clsMap, whoV] at e4
    have H8 : RtAt V8 B p m1 m2 cap fill (some (cap, fill, h', t')) := ⟨(ho8 p hp.2).trans H9.box, (ho8 m1 hm12).trans H9.cls, hm8, H9.pB, H9.m1B, H9.m2B⟩
    have T8 : OneT m2 w V8 := (OneT.of F9).tr ⟨hos.1, hos.2.1, hos.2.2.1, Nat.le_of_eq hos.2.2.2.symm, fun k _ hk => ho8 k hk⟩
    clear hV hW9 H5 F5 H9 F9 hV8 hm8 ho8 hos hp hm12 A5 B5
    refine wpl_mapPut rfl _ _ _ rfl (by go_simp) (by go_simp) (by go_simp) hr ?_
    clear hr h3 h4 h5
    go_simp
    cases tk with
    | true =>
      go_wp2
      go_ret
      exact ⟨rfl, H8, T8⟩
    | false =>
      go_wp2
      go_ret
      exact ⟨rfl, H8, T8⟩
end Go.Proofs.Ytmnpbpfeoackiaa
