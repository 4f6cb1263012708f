/-
  porterlaw48.BoundWindow: what the law walks. No condition.
-/
import Derived.Test.YtmnpbpfeoackiaaBw6
import Derived.Test.YtmnpbpfeoackiaaBg4
namespace Go.Proofs.Ytmnpbpfeoackiaa
open Go.RowKit

/-- What was asked, in memory. -/
def askCells (l : List (ByteArray × ByteArray × Int)) : List Value := l.flatMap fun x => [.string x.1, .string x.2.1, .int .i64 x.2.2]
theorem askCells_get : ∀ (l : List (ByteArray × ByteArray × Int)) (k : Nat) (h : k < l.length), (askCells l)[k * 3]? = some (.string l[k].1) ∧ (askCells l)[k * 3 + 1]? = some (.string l[k].2.1) ∧ (askCells l)[k * 3 + 2]? = some (.int .i64 l[k].2.2)
  | [], k, h => by simp at h
  | x :: l, 0, _ => ⟨rfl, rfl, rfl⟩
  | x :: l, k + 1, h => by
    have ih := askCells_get l k (by simpa using h)
    rw [show (k + 1) * 3 = k * 3 + 1 + 1 + 1 by omega]
    unfold askCells at ih ⊢
    simp only [List.flatMap_cons, List.cons_append, List.nil_append, List.getElem?_cons_succ, List.getElem_cons_succ]
    exact ih
theorem win_ok {cap fill l0 l1 last n : Nat} {b : Nat × Nat} (h : BkInv cap fill l0 l1 b last n) (hn : n ≤ 60) : n ≤ winN cap fill l1 := by
  have := h.most
  unfold winN
  obtain ⟨q, hq⟩ : ∃ q, fill * l1 = q := ⟨_, rfl⟩
  rw [hq] at this ⊢
  omega

set_option maxRecDepth 100000 in
set_option maxHeartbeats 4000000 in
theorem boundWindow_walk (nm : ByteArray) (c f : Int) (v1 : Value) (xs : List (ByteArray × ByteArray × Int)) (l0 l1 : Int) (w : World) (hR : Rd w w.heap.size 3 v1 xs.length (askCells xs)) (hxs : xs.length ≤ maxLen) :
    Calls Try.prog 4 #[.agg #[.string nm, .int .i64 c, .int .i64 f], v1, .agg #[.int .i64 l0, .int .i64 l1]] w fun e w' => e = .returned (.bool true) ∧ Ext w w' := by
  obtain ⟨A, cc, rfl, -, -, hc⟩ := hR
  obtain ⟨n, hn⟩ : ∃ n, xs.length = n := ⟨_, rfl⟩
  rw [hn] at hc hxs
  rw [hn]
  unfold maxLen at hxs
  have HN := Kp.mk hn
  clear hn
  obtain ⟨w0, hw0, E0, C0, A0⟩ : ∃ w0, (w.alloc (.cells #[.string nm, .int .i64 c, .int .i64 f] 23)).alloc (.cells #[.int .i64 l0, .int .i64 l1] 35) = w0 ∧ Ext w w0 ∧ Arr w0 w.heap.size 23 [.string nm, .int .i64 c, .int .i64 f] ∧ Arr w0 (w.heap.size + 1) 35 [.int .i64 l0, .int .i64 l1] := by
    refine ⟨_, rfl, ((Ext.rfl' w).al _).al _, (Arr.new w _ [.string nm, .int .i64 c, .int .i64 f]).alloc _, ?_⟩
    have h := Arr.new (w.alloc (.cells #[.string nm, .int .i64 c, .int .i64 f] 23)) 35 [.int .i64 l0, .int .i64 l1]
    rw [World.size_alloc] at h
    exact h
  have HW0 := Kp.mk hw0
  clear hw0
  have k0 := C0.cell 0; have kf := C0.frozen 0
  simp only [List.getElem?_cons_zero] at k0
  go_enter Try.func4, Try.ntmps4
  go_upto_region 1 with fail
  rw [HW0.out]
  clear HW0
  go_upto_region 2 with fail
  obtain ⟨V1, hV1⟩ : ∃ V : World, w0.setCell ⟨w.heap.size, 0, none⟩ (.string ⟨#[103, 111, 108, 100]⟩) = V := ⟨_, rfl⟩
  rw [hV1]
  have C1 : Arr V1 w.heap.size 23 [.string ⟨#[103, 111, 108, 100]⟩, .int .i64 c, .int .i64 f] := by rw [← hV1]; exact C0.set 0 _
  have A1 : Arr V1 (w.heap.size + 1) 35 [.int .i64 l0, .int .i64 l1] := by
    have hne : w.heap.size + 1 ≠ w.heap.size := by omega
    rw [← hV1]
    exact (heap_setCell_other w0 ⟨w.heap.size, 0, none⟩ _ _ hne).trans A0
  have F1 : Ext w V1 := by rw [← hV1]; exact E0.st (p := ⟨w.heap.size, 0, none⟩) (Nat.le_refl _) _
  clear hV1 C0 A0 E0 k0 kf
  have k0 := C1.cell 0; have k1 := C1.cell 1; have k2 := C1.cell 2
  simp only [List.getElem?_cons_zero, List.getElem?_cons_succ] at k0 k1 k2
  go_wp2_with fail
  obtain ⟨V2, hV2, E2, B2⟩ : ∃ V, V1.alloc (.cells #[.string ⟨#[103, 111, 108, 100]⟩, .int .i64 c, .int .i64 f] 23) = V ∧ Ext V1 V ∧ Arr V V1.heap.size 23 [.string ⟨#[103, 111, 108, 100]⟩, .int .i64 c, .int .i64 f] := ⟨_, rfl, (Ext.rfl' V1).al _, Arr.new V1 _ [.string ⟨#[103, 111, 108, 100]⟩, .int .i64 c, .int .i64 f]⟩
  rw [hV2]
  have j0 := B2.cell 0; have j1 := B2.cell 1; have j2 := B2.cell 2
  simp only [List.getElem?_cons_zero, List.getElem?_cons_succ] at j0 j1 j2
  have C2 := C1.ext E2 C1.lt
  have A2 := A1.ext E2 A1.lt
  have F2 := F1.tr E2
  have hlB := B2.lt
  have HA := Kp.mk A2; have HC := Kp.mk C2
  clear hV2 E2 B2 k0 k1 k2 C1 A1 F1
  cases htm : (timedB c && timedB f) with
  | false =>
    refine (new_bad V1.heap.size 1 c f V2 j0 j1 j2 hlB htm).mono ?_
    rintro e w5 ⟨rfl, E5⟩
    have E0 := F2.tr E5
    clear htm j0 j1 j2 C2 A2 hc
    go_upto_region 4 with fail
    go_wp2_with fail
    refine (bo_works _).mono ?_
    rintro e w1 ⟨rfl, E1⟩
    go_wp2
    go_ret
    exact ⟨rfl, E0.tr E1⟩
  | true =>
    have hcf : (0 ≤ c ∧ c ≤ 1099511627776) ∧ 0 ≤ f ∧ f ≤ 1099511627776 := by
      unfold timedB at htm
      simp only [Bool.and_eq_true, decide_eq_true_eq] at htm
      exact htm
    obtain ⟨cap, rfl⟩ : ∃ k : Nat, c = k := ⟨c.toNat, by omega⟩
    obtain ⟨fill, rfl⟩ : ∃ k : Nat, f = k := ⟨f.toNat, by omega⟩
    have hcap : cap ≤ 1099511627776 := by omega
    have hfill : fill ≤ 1099511627776 := by omega
    refine (new_ok V1.heap.size 1 cap fill V2 j0 j1 j2 hlB htm).mono ?_
    rintro e w5 ⟨p, m1, m2, rfl, R5, E5⟩
    have C5 := C2.ext E5 C2.lt
    have A5 := A2.ext E5 A2.lt
    have F5 := F2.tr E5
    have hB := F2.size
    have hlC := C2.lt
    have hlA := A2.lt
    clear htm j0 j1 j2 C2 A2 hcf F2
    have d0 := A5.cell 0; have d1 := A5.cell 1
    simp only [List.getElem?_cons_zero, List.getElem?_cons_succ] at d0 d1
    obtain ⟨bb, hbb⟩ : ∃ b, (decide ((60 : Int) < (n : Int)) || decide (l0 < 0) || decide (1099511627776 < l0) || decide (l1 < 0) || decide (1099511627776 < l1)) = b := ⟨_, rfl⟩
    have HBB := Kp.mk hbb
    clear hbb
    go_upto_region 3 with fail
    go_cut [46] (fun x wx => x = .bool bb ∧ wx = w5)
    case first =>
      have hb := HBB.out
      by_cases p1 : (60 : Int) < (n : Int)
      · have q1 := decide_eq_true p1
        go_wp2_with fail
        go_meet
        exact ⟨by rw [← hb, q1]; rfl, rfl⟩
      · have q1 := decide_eq_false p1
        by_cases p2 : l0 < 0
        · have q2 := decide_eq_true p2
          go_wp2_with fail
          go_meet
          exact ⟨by rw [← hb, q1, q2]; rfl, rfl⟩
        · have q2 := decide_eq_false p2
          by_cases p3 : (1099511627776 : Int) < l0
          · have q3 := decide_eq_true p3
            go_wp2_with fail
            go_meet
            exact ⟨by rw [← hb, q1, q2, q3]; rfl, rfl⟩
          · have q3 := decide_eq_false p3
            by_cases p4 : l1 < 0
            · have q4 := decide_eq_true p4
              go_wp2_with fail
              go_meet
              exact ⟨by rw [← hb, q1, q2, q3, q4]; rfl, rfl⟩
            · have q4 := decide_eq_false p4
              by_cases p5 : (1099511627776 : Int) < l1
              · have q5 := decide_eq_true p5
                go_wp2_with fail
                go_meet
                exact ⟨by rw [← hb, q1, q2, q3, q4, q5]; rfl, rfl⟩
              · have q5 := decide_eq_false p5
                go_wp2_with fail
                go_meet
                exact ⟨by rw [← hb, q1, q2, q3, q4, q5]; rfl, rfl⟩
    case rest =>
      obtain ⟨rfl, rfl⟩ := hcut
      cases bb with
      | true =>
        have E0 := F5
        clear d0 d1
        go_upto_region 4 with fail
        go_wp2_with fail
        refine (bo_works _).mono ?_
        rintro e w1 ⟨rfl, E1⟩
        go_wp2
        go_ret
        exact ⟨rfl, E0.tr E1⟩
      | false =>
        have hb := HBB.out
        simp only [Bool.or_eq_false_iff, decide_eq_false_iff_not] at hb
        obtain ⟨k0, rfl⟩ : ∃ k : Nat, l0 = k := ⟨l0.toNat, by omega⟩
        obtain ⟨k1, rfl⟩ : ∃ k : Nat, l1 = k := ⟨l1.toNat, by omega⟩
        have hk0 : k0 ≤ 1099511627776 := by omega
        have hk1 : k1 ≤ 1099511627776 := by omega
        have hn60 : n ≤ 60 := by omega
        have HBG := Kp.mk (BkInv.begin cap fill k0 k1)
        clear hb HBB d0 d1
        go_upto_region 10 with fail
        go_loopw [11, 9, 10] (fun i nn ls wr => ∃ (j m last h t : Nat) (o : Option (Nat × Nat × Nat × Nat)), i = .int .i64 j ∧ nn = .int .i64 m ∧ ls = .int .i64 last ∧ j ≤ n ∧ m ≤ j ∧ last ≤ 1099511627776 ∧ Ext V2 wr ∧ Ext w wr ∧ RtAt wr V2.heap.size p m1 m2 cap fill o ∧ bkOf cap fill o = (cap, fill, h, t) ∧ BkInv cap fill k0 k1 (h, t) last m) (fun i _ _ _ => n - (intOf i).toNat)
        case atStart => exact ⟨0, 0, 0, 0, 0, none, rfl, rfl, rfl, Nat.zero_le _, Nat.le_refl _, by omega, E5, F5, R5, rfl, HBG.out⟩
        case round =>
          clear E5 F5 R5 HBG C5 A5
          obtain ⟨j, m, last, h, t, o, rfl, rfl, rfl, hj, hm, hlast, EV, EW, R, hbk, hinv⟩ := hrel
          have A5 := HA.out.ext EV HA.out.lt
          have C5 := HC.out.ext EV HC.out.lt
          have d0 := A5.cell 0; have d1 := A5.cell 1
          simp only [List.getElem?_cons_zero, List.getElem?_cons_succ] at d0 d1
          by_cases hjn : j < n
          · obtain ⟨b, off, rfl, hbw, hcell⟩ := hc (by omega)
            obtain ⟨⟨s, u, x⟩, hx⟩ : ∃ x, xs[j]'(by rw [HN.out]; exact hjn) = x := ⟨_, rfl⟩
            have hg := askCells_get xs j (by rw [HN.out]; exact hjn)
            rw [hx] at hg
            have c0 := ((bcell EW).1 b _ hbw).trans (hcell _ _ hg.1)
            have c1 := ((bcell EW).1 b _ hbw).trans (hcell _ _ hg.2.1)
            have c2 := ((bcell EW).1 b _ hbw).trans (hcell _ _ hg.2.2)
            dsimp only at c0 c1 c2
            rw [← Nat.add_assoc] at c1 c2
            have HI := Kp.mk hinv; have HBK := Kp.mk hbk
            have hsz := EW.size
            have hm2 := (Array.getElem?_eq_some_iff.1 R.bks).1
            have hm2B := R.m2B
            clear hg hx hcell hinv hbk hc
            go_upto_region 13 with fail
            obtain ⟨V5, hV5, E5, B5⟩ : ∃ V, wr.alloc (.cells #[.string s, .string u, .int .i64 x] 42) = V ∧ Ext wr V ∧ Arr V wr.heap.size 42 [.string s, .string u, .int .i64 x] := ⟨_, rfl, (Ext.rfl' wr).al _, Arr.new wr _ [.string s, .string u, .int .i64 x]⟩
            rw [hV5]
            have b2 := B5.cell 2
            simp only [List.getElem?_cons_zero, List.getElem?_cons_succ] at b2
            clear c0 c1 c2 hV5 d0 d1
            by_cases p1 : x < (last : Int)
            · have q1 := decide_eq_true p1
              have E0 := EW.tr E5
              go_upto_region 14 with fail
              go_wp2_with fail
              refine (bo_works _).mono ?_
              rintro e w1 ⟨rfl, E1⟩
              go_wp2
              go_ret
              exact ⟨rfl, E0.tr E1⟩
            · have q1 := decide_eq_false p1
              by_cases p2 : (1099511627776 : Int) < x
              · have q2 := decide_eq_true p2
                have E0 := EW.tr E5
                go_upto_region 14 with fail
                go_wp2_with fail
                refine (bo_works _).mono ?_
                rintro e w1 ⟨rfl, E1⟩
                go_wp2
                go_ret
                exact ⟨rfl, E0.tr E1⟩
              · have q2 := decide_eq_false p2
                obtain ⟨now, rfl⟩ : ∃ k : Nat, x = k := ⟨x.toNat, by omega⟩
                have hnow : now ≤ 1099511627776 := by omega
                have hln : last ≤ now := by omega
                have hstep := HI.out.step (now := now) hln
                have hk : BkOk cap fill h t := ⟨hcap, hfill, HI.out.capB, by have := HI.out.time; omega⟩
                have cT := rtake_any (R.ext E5) HBK.out hk now hnow
                obtain ⟨⟨⟨h', t'⟩, tk⟩, htk⟩ : ∃ r, bkTake cap fill (h, t) now = r := ⟨_, rfl⟩
                rw [htk] at cT hstep
                dsimp only at cT hstep
                have HS := Kp.mk hstep
                replace cT := Kp.mk cT
                clear htk hk hstep p1 p2
                go_wp2_with fail
                refine cT.out.mono ?_
                rintro e w6 ⟨rfl, R6, T6⟩
                have G6 := T6.toExt (EV.tr E5) hm2B
                have K6 := T6.toExt (EW.tr E5) (by omega)
                have B6 := T6.arr B5 (by omega)
                have A6 := HA.out.ext G6 HA.out.lt
                have b2 := B6.cell 2
                have d0 := A6.cell 0; have d1 := A6.cell 1
                simp only [List.getElem?_cons_zero, List.getElem?_cons_succ] at b2 d0 d1
                clear cT T6 EV EW E5 B5 A5 C5 R q1 q2
                cases tk with
                | false =>
                  have hs2 := HS.out
                  rw [if_neg (by rintro ⟨h, _⟩; cases h)] at hs2
                  have HS2 := Kp.mk hs2
                  clear hs2 HS
                  go_wp2_with fail
                  go_roundw
                  case rel => exact ⟨j + 1, m, now, h', t', some (cap, fill, h', t'), by go_num, rfl, rfl, hjn, by omega, hnow, G6, K6, R6, rfl, HS2.out⟩
                  case measure => simp [intOf]; omega
                | true =>
                  by_cases p3 : k0 ≤ now
                  · have q3 : decide ((k0 : Int) ≤ (now : Int)) = true := by simp; exact p3
                    obtain ⟨dd, hdd⟩ : ∃ d, now - k0 = d := ⟨_, rfl⟩
                    have hw : IntKind.i64.wrap ((now : Int) - (k0 : Int)) = (dd : Int) := by rw [show (now : Int) - (k0 : Int) = (dd : Int) by omega]; exact IntWalk.i64_in _ (by omega)
                    by_cases p4 : dd ≤ k1
                    · have q4 : decide ((dd : Int) ≤ (k1 : Int)) = true := by simp; exact p4
                      have hs2 := HS.out
                      rw [if_pos ⟨rfl, p3, by omega⟩] at hs2
                      have HS2 := Kp.mk hs2
                      clear hs2 HS hdd
                      go_wp2_with fail
                      go_roundw
                      case rel => exact ⟨j + 1, m + 1, now, h', t', some (cap, fill, h', t'), by go_num, by go_num, rfl, hjn, by omega, hnow, G6, K6, R6, rfl, HS2.out⟩
                      case measure => simp [intOf]; omega
                    · have q4 : decide ((dd : Int) ≤ (k1 : Int)) = false := by simp; omega
                      have hs2 := HS.out
                      rw [if_neg (by rintro ⟨_, _, h⟩; omega)] at hs2
                      have HS2 := Kp.mk hs2
                      clear hs2 HS hdd
                      go_wp2_with fail
                      go_roundw
                      case rel => exact ⟨j + 1, m, now, h', t', some (cap, fill, h', t'), by go_num, rfl, rfl, hjn, by omega, hnow, G6, K6, R6, rfl, HS2.out⟩
                      case measure => simp [intOf]; omega
                  · have q3 : decide ((k0 : Int) ≤ (now : Int)) = false := by simp; omega
                    have hs2 := HS.out
                    rw [if_neg (by rintro ⟨_, h, _⟩; omega)] at hs2
                    have HS2 := Kp.mk hs2
                    clear hs2 HS
                    go_wp2_with fail
                    go_roundw
                    case rel => exact ⟨j + 1, m, now, h', t', some (cap, fill, h', t'), by go_num, rfl, rfl, hjn, by omega, hnow, G6, K6, R6, rfl, HS2.out⟩
                    case measure => simp [intOf]; omega
          · have hle := win_ok hinv (by omega)
            have cW := Kp.mk (fun W => window_any (.string ⟨#[103, 111, 108, 100]⟩) cap fill k1 (by omega) (by omega) (by omega) W)
            obtain ⟨wn, hwn⟩ : ∃ r, winN cap fill k1 = r := ⟨_, rfl⟩
            rw [hwn] at cW hle
            have q1 : decide ((m : Int) ≤ (wn : Int)) = true := by simp; exact hle
            have c0 := C5.cell 0; have c1 := C5.cell 1; have c2 := C5.cell 2
            simp only [List.getElem?_cons_zero, List.getElem?_cons_succ] at c0 c1 c2
            clear hwn hinv hbk R hc
            go_wp2_with fail
            refine (cW.out _).mono ?_
            rintro e w6 ⟨rfl, E6⟩
            have E0 := EW.tr E6
            clear cW c0 c1 c2 d0 d1 A5 C5
            go_wp2_with fail
            refine (bo_works _).mono ?_
            rintro e w1 ⟨rfl, E1⟩
            go_wp2
            go_ret
            exact ⟨rfl, E0.tr E1⟩
end Go.Proofs.Ytmnpbpfeoackiaa
