/-
  Package ring: whether a state may be. Condition: what is read is in memory.
-/
import Derived.Test.YtmnpbpfeoackiaaBt3
namespace Go.Proofs.Ytmnpbpfeoackiaa
open Go.RowKit

set_option maxRecDepth 100000 in
set_option maxHeartbeats 2000000 in
theorem rightS_any {v : Value} {l : List TnA} {ser : Int} {w : World} (H : RdTns w v l) (hl : l.length ≤ 1000) (hk : ∀ t ∈ l, t.keys.length ≤ 1000) : Calls Try.prog 36 #[.agg #[v, .int .i64 ser]] w fun e w' => e = .returned (.bool (bP (RightS l ser))) ∧ Ext w w' := by
  obtain ⟨A, c, rfl, -, -⟩ := H.cells
  obtain ⟨W, hW, E0, A0⟩ : ∃ W, w.alloc (.cells #[.slice A l.length c, .int .i64 ser] 26) = W ∧ Ext w W ∧ Arr W w.heap.size 26 [.slice A l.length c, .int .i64 ser] := ⟨_, rfl, (Ext.rfl' w).al _, Arr.new w _ [.slice A l.length c, .int .i64 ser]⟩
  have HW := Kp.mk hW
  have H0 := H.at E0
  have hcl := Kp.mk (show 0 < l.length → ∃ b off, A = some ⟨b, off, none⟩ ∧ b < W.heap.size ∧ ∀ (k : Nat) (x : TnA), l[k]? = some x → ∀ W', Ext W W' → W'.cell? ⟨b, off + k * 4, none⟩ = some (.string (ofL x.name)) ∧ W'.cell? ⟨b, off + k * 4 + 1, none⟩ = some (.int .i64 x.ep) ∧ W'.cell? ⟨b, off + k * 4 + 2, none⟩ = some (.int .i64 x.nx) ∧ W'.cell? ⟨b, off + k * 4 + 3, none⟩ = some (.slice x.A x.keys.length x.c) from by
    obtain ⟨A', c', he, _, hcell⟩ := H0.cells
    cases he
    exact hcell)
  have cR := Kp.mk (fun W' (hW' : Ext W W') => trises_any (H0.at hW') hl)
  have cT := Kp.mk (fun (t : TnA) (ht : t ∈ l) W' (hW' : Ext W W') => right_any ((H0.2 t ht).at hW') (hk t ht))
  obtain ⟨n, hn⟩ : ∃ n, l.length = n := ⟨_, rfl⟩
  rw [hn] at hcl hl A0 hW HW
  simp only [hn] at cR
  rw [hn]
  have HN := Kp.mk hn
  obtain ⟨rb, hrb⟩ : ∃ b, bP (RightS l ser) = b := ⟨_, rfl⟩
  rw [hrb]
  have HB := Kp.mk hrb
  obtain ⟨eb, heb⟩ : ∃ b, bP (FromP ser 0) = b := ⟨_, rfl⟩
  have cE := Kp.mk (fun W => from_any ser 0 W)
  rw [heb] at cE
  have HEB := Kp.mk heb
  clear hW hn hrb heb H H0 hk
  go_enter Try.func36, Try.ntmps36
  go_upto_region 1 with fail
  rw [HW.out]
  clear HW
  have c0 := A0.cell 0; have c1 := A0.cell 1
  simp only [List.getElem?_cons_zero, List.getElem?_cons_succ] at c0 c1
  by_cases h16 : 16 < n
  · have q1 : decide ((16 : Int) < (n : Int)) = true := by simp; omega
    have hno : ¬ RightS l ser := fun h => by have := h.1; rw [HN.out] at this; omega
    have EE := E0
    obtain rfl : rb = false := by rw [← HB.out]; exact bP_no hno
    clear hno HB
    go_wp2
    go_ret
    exact ⟨rfl, EE⟩
  · have q1 : decide ((16 : Int) < (n : Int)) = false := by simp; omega
    go_wp2_with fail
    refine (cE.out _).mono ?_
    rintro e W1 ⟨rfl, E1⟩
    have A1 := A0.ext E1 A0.lt
    clear c0 c1 cE
    have c0 := A1.cell 0
    simp only [List.getElem?_cons_zero] at c0
    cases eb with
    | false =>
      have hno : ¬ RightS l ser := fun h => by have := bP_yes h.2.1; rw [HEB.out] at this; cases this
      have EE := E0.tr E1
      clear c0
      obtain rfl : rb = false := by rw [← HB.out]; exact bP_no hno
      clear hno HB
      go_wp2
      go_ret
      exact ⟨rfl, EE⟩
    | true =>
      go_upto_region 4 with fail
      clear c0 A1
      go_loopw [18] (fun i wr => ∃ j : Nat, i = .int .i64 j ∧ j ≤ n ∧ Ext W wr ∧ (∀ (k : Nat) (x : TnA), k < j → l[k]? = some x → RightT x)) (fun i _ => n - (intOf i).toNat)
      case atStart => exact ⟨0, rfl, Nat.zero_le _, E1, fun k _ h => absurd h (by omega)⟩
      case round =>
        clear E1
        obtain ⟨j, rfl, hjn, E, hpre⟩ := hrel
        have HPRE := Kp.mk hpre
        clear hpre
        have AR := A0.ext E A0.lt
        have EE := E0.tr E
        by_cases hlt : j < n
        · obtain ⟨b, off, rfl, hbw, hcell⟩ := hcl.out (by omega)
          obtain ⟨x, hx⟩ : ∃ x, l[j]? = some x := ⟨_, List.getElem?_eq_getElem (by rw [HN.out]; exact hlt)⟩
          obtain ⟨d0, d1, d2, d3⟩ := hcell j x hx wr E
          have HX := Kp.mk hx
          clear hcell hx
          go_upto_region 6 with fail
          obtain ⟨V5, hV5, E5, B5⟩ : ∃ V, wr.alloc (.cells #[.string (ofL x.name), .int .i64 x.ep, .int .i64 x.nx, .slice x.A x.keys.length x.c] 47) = V ∧ Ext wr V ∧ Arr V wr.heap.size 47 (tnC x) := ⟨_, rfl, (Ext.rfl' wr).al _, Arr.new wr _ (tnC x)⟩
          rw [hV5]
          have b0 := B5.cell 0; have b1 := B5.cell 1; have b2 := B5.cell 2; have b3 := B5.cell 3
          simp only [tnC, List.getElem?_cons_zero, List.getElem?_cons_succ] at b0 b1 b2 b3
          have c5 := cT.out x (List.mem_of_getElem? HX.out) V5 (E.tr E5)
          unfold tnV at c5
          obtain ⟨tb, htb⟩ : ∃ b, bP (RightT x) = b := ⟨_, rfl⟩
          rw [htb] at c5
          replace c5 := Kp.mk c5
          have HTB := Kp.mk htb
          replace E := E.tr E5
          replace EE := EE.tr E5
          clear hV5 d0 d1 d2 d3 E5 B5 AR htb
          go_wp2_with fail
          refine c5.out.mono ?_
          rintro e W6 ⟨rfl, E6⟩
          replace E := E.tr E6
          replace EE := EE.tr E6
          clear c5 b0 b1 b2 b3 E6
          cases tb with
          | false =>
            have hno : ¬ RightS l ser := fun h => by
              have := bP_yes (h.2.2.1 j x HX.out)
              rw [HTB.out] at this
              cases this
            obtain rfl : rb = false := by rw [← HB.out]; exact bP_no hno
            clear hno HB
            go_wp2
            go_ret
            exact ⟨rfl, EE⟩
          | true =>
            have HP2 := Kp.mk (show ∀ (k : Nat) (y : TnA), k < j + 1 → l[k]? = some y → RightT y from fun k y hk hy => by
              by_cases hkj : k < j
              · exact HPRE.out k y hkj hy
              · obtain rfl : k = j := by omega
                rw [HX.out] at hy
                obtain rfl := Option.some.inj hy
                exact Classical.byContradiction fun h => by have := HTB.out; rw [bP_no h] at this; cases this)
            go_wp2_with fail
            go_roundw
            case rel => exact ⟨j + 1, by go_num, hlt, E, HP2.out⟩
            case measure => simp [intOf]; omega
        · have c0 := AR.cell 0
          simp only [List.getElem?_cons_zero] at c0
          have hall : ∀ (k : Nat) (x : TnA), l[k]? = some x → RightT x := fun k x hx => HPRE.out k x (by
            have := (List.getElem?_eq_some_iff.1 hx).1
            rw [HN.out] at this
            omega) hx
          have hbE : FromP ser 0 := Classical.byContradiction fun h => by have := HEB.out; rw [bP_no h] at this; cases this
          have hrb : bP (RisesT l) = rb := by
            rw [← HB.out]
            by_cases hr : RisesT l
            · rw [bP_yes hr, bP_yes (show RightS l ser from ⟨by rw [HN.out]; omega, hbE, hall, hr⟩)]
            · rw [bP_no hr, bP_no (fun h : RightS l ser => hr h.2.2.2)]
          have cR2 := cR.out wr E
          rw [hrb] at cR2
          replace cR2 := Kp.mk cR2
          clear hall hbE hrb HPRE cR
          go_wp2_with fail
          refine cR2.out.mono ?_
          rintro e W9 ⟨rfl, E9⟩
          go_wp2
          go_ret
          exact ⟨rfl, EE.tr E9⟩
end Go.Proofs.Ytmnpbpfeoackiaa
