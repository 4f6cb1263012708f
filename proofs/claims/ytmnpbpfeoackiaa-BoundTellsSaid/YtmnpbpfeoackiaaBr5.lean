/-
  The reference's answer: how many blocks a state needs, whether it is more than is gone through. Condition: what is read is in memory.
-/
import Derived.Test.YtmnpbpfeoackiaaBr4
namespace Go.Proofs.Ytmnpbpfeoackiaa
open Go.RowKit

set_option maxRecDepth 100000 in
set_option maxHeartbeats 1000000 in
theorem rbimage_any {v : Value} {l : List TnA} {ser : Int} {w : World} (H : RdTns w v l) (hl : l.length ≤ 1000) (hk : ∀ t ∈ l, t.keys.length ≤ 1000 ∧ t.name.length ≤ 1000) : Calls Try.prog 15 #[.agg #[v, .int .i64 ser]] w fun e w' => e = .returned (.int .i64 (imN l ser)) ∧ Ext w w' := by
  obtain ⟨A, c, rfl, -, -⟩ := H.cells
  obtain ⟨W, hW, E0, A0⟩ : ∃ W, w.alloc (.cells #[.slice A l.length c, .int .i64 ser] 26) = W ∧ Ext w W ∧ Arr W w.heap.size 26 [.slice A l.length c, .int .i64 ser] := ⟨_, rfl, (Ext.rfl' w).al _, Arr.new w _ [.slice A l.length c, .int .i64 ser]⟩
  have HW := Kp.mk hW
  have a0 := A0.cell 0; have a1 := A0.cell 1
  simp only [List.getElem?_cons_zero, List.getElem?_cons_succ] at a0 a1
  unfold imN
  by_cases hR : RightS l ser
  · have hlen := imgE_len hR
    have hform := imgE_form hR
    have hbl := batE_len hform hlen
    have hpos : 0 < (imgE l ser).length := by unfold imgE; rw [List.length_append, List.length_singleton]; omega
    rw [bP_yes hR, if_pos rfl]
    have cI := Kp.mk (rimage_yes (H.at E0) hR)
    obtain ⟨es, hes⟩ : ∃ es, imgE l ser = es := ⟨_, rfl⟩
    rw [hes] at hlen hform hbl hpos cI ⊢
    have HF := Kp.mk hform
    obtain ⟨n, hn⟩ : ∃ n, es.length = n := ⟨_, rfl⟩
    obtain ⟨R, hRR⟩ : ∃ R, batE es = R := ⟨_, rfl⟩
    rw [hRR] at hbl ⊢
    have HN := Kp.mk hn; have HR := Kp.mk hRR
    have hsz : (ofL R).size = R.length := size_ofL R
    have q1 : ((n : Int) == 0) = false := by simp; omega
    have cB := Kp.mk (fun W => rblocks_any (R.length : Int) W)
    rw [hn] at cI hlen
    clear hes hform hn hRR hW H hl hk hR hpos
    go_enter Try.func15, Try.ntmps15
    go_upto_region 1 with fail
    rw [HW.out]
    clear HW
    go_wp2_with fail
    refine cI.out.mono ?_
    rintro e w1 ⟨v, rfl, own1, E1⟩
    have F1 := E0.tr E1
    obtain ⟨oA, oc, rfl⟩ := own_slice own1
    have cT := rbatch_any (l := es) (w := w1) (by rw [HN.out]; exact Rd.own own1 (by omega)) HF.out (by rw [HN.out]; exact hlen)
    rw [HR.out] at cT
    replace cT := Kp.mk cT
    clear own1 E0 E1 A0 a0 a1 cI
    go_wp2_with fail
    refine cT.out.mono ?_
    rintro e w2 ⟨rfl, E2⟩
    have F2 := F1.tr E2
    clear F1 E2 cT
    go_wp2_with fail
    refine (cB.out _).mono ?_
    rintro e w3 ⟨rfl, rfl⟩
    go_wp2
    go_ret
    exact ⟨rfl, F2⟩
  · rw [bP_no hR, if_neg (by decide)]
    have cI := Kp.mk (rimage_no (H.at E0) hl hk hR)
    clear hW H hl hk hR
    go_enter Try.func15, Try.ntmps15
    go_upto_region 1 with fail
    rw [HW.out]
    clear HW
    go_wp2_with fail
    refine cI.out.mono ?_
    rintro e w1 ⟨rfl, E1⟩
    go_wp2
    go_ret
    exact ⟨rfl, E0.tr E1⟩
/-- Whether a state is more than is gone through. -/
def GreatP (l : List TnA) : Prop := 20 < l.length ∨ ∃ (k : Nat) (t : TnA), l[k]? = some t ∧ (12 < t.keys.length ∨ 100 < t.name.length)
set_option maxRecDepth 100000 in
set_option maxHeartbeats 1000000 in
theorem great_any {v : Value} {l : List TnA} {ser : Int} {w : World} (H : RdTns w v l) : Calls Try.prog 5 #[.agg #[v, .int .i64 ser]] w fun e w' => e = .returned (.bool (bP (GreatP l))) ∧ Ext w w' := by
  obtain ⟨A, c, rfl, hlm, -⟩ := H.cells
  obtain ⟨W, hW, E0, A0⟩ : ∃ W, w.alloc (.cells #[.slice A l.length c, .int .i64 ser] 26) = W ∧ Ext w W ∧ Arr W w.heap.size 26 [.slice A l.length c, .int .i64 ser] := ⟨_, rfl, (Ext.rfl' w).al _, Arr.new w _ [.slice A l.length c, .int .i64 ser]⟩
  have HW := Kp.mk hW
  have hcl := Kp.mk (show 0 < l.length → ∃ b off, A = some ⟨b, off, none⟩ ∧ b < w.heap.size ∧ ∀ (k : Nat) (x : TnA), l[k]? = some x → ∀ W', Ext w W' → W'.cell? ⟨b, off + k * 4, none⟩ = some (.string (ofL x.name)) ∧ W'.cell? ⟨b, off + k * 4 + 1, none⟩ = some (.int .i64 x.ep) ∧ W'.cell? ⟨b, off + k * 4 + 2, none⟩ = some (.int .i64 x.nx) ∧ W'.cell? ⟨b, off + k * 4 + 3, none⟩ = some (.slice x.A x.keys.length x.c) from by
    obtain ⟨A', c', he, _, hcell⟩ := H.cells
    cases he
    exact hcell)
  obtain ⟨n, hn⟩ : ∃ n, l.length = n := ⟨_, rfl⟩
  rw [hn] at hcl hlm A0 hW HW
  rw [hn]
  have HN := Kp.mk hn
  obtain ⟨rb, hrb⟩ : ∃ b, bP (GreatP l) = b := ⟨_, rfl⟩
  rw [hrb]
  have HB := Kp.mk hrb
  have c0 := A0.cell 0
  simp only [List.getElem?_cons_zero] at c0
  clear hW hn hrb H
  go_enter Try.func5, Try.ntmps5
  go_upto_region 1 with fail
  rw [HW.out]
  clear HW
  by_cases h20 : 20 < n
  · have q1 : decide ((20 : Int) < (n : Int)) = true := by simp; omega
    obtain rfl : rb = true := by rw [← HB.out]; exact bP_yes (.inl (by rw [HN.out]; exact h20))
    clear HB
    go_wp2
    go_ret
    exact ⟨rfl, E0⟩
  · have q1 : decide ((20 : Int) < (n : Int)) = false := by simp; omega
    go_upto_region 4 with fail
    clear q1 c0
    go_loopw [3] (fun i wr => ∃ j : Nat, i = .int .i64 j ∧ j ≤ n ∧ wr = W ∧ (∀ (k : Nat) (x : TnA), k < j → l[k]? = some x → ¬ (12 < x.keys.length ∨ 100 < x.name.length))) (fun i _ => n - (intOf i).toNat)
    case atStart => exact ⟨0, rfl, Nat.zero_le _, rfl, fun k _ h => absurd h (by omega)⟩
    case round =>
      obtain ⟨j, rfl, hjn, rfl, hpre⟩ := hrel
      have HPRE := Kp.mk hpre
      clear hpre
      have c0 := A0.cell 0
      simp only [List.getElem?_cons_zero] at c0
      by_cases hlt : j < n
      · obtain ⟨b, off, rfl, hbw, hcell⟩ := hcl.out (by omega)
        obtain ⟨x, hx⟩ : ∃ x, l[j]? = some x := ⟨_, List.getElem?_eq_getElem (by rw [HN.out]; exact hlt)⟩
        obtain ⟨d0, d1, d2, d3⟩ := hcell j x hx wr E0
        have HX := Kp.mk hx
        have hsx : (ofL x.name).size = x.name.length := size_ofL _
        clear hcell hx
        by_cases p1 : 12 < x.keys.length
        · have q1 : decide ((12 : Int) < (x.keys.length : Int)) = true := by simp; omega
          obtain rfl : rb = true := by rw [← HB.out]; exact bP_yes (.inr ⟨j, x, HX.out, .inl p1⟩)
          clear HB
          go_wp2
          go_ret
          exact ⟨rfl, E0⟩
        · have q1 : decide ((12 : Int) < (x.keys.length : Int)) = false := by simp; omega
          by_cases p2 : 100 < x.name.length
          · have q2 : decide ((100 : Int) < (x.name.length : Int)) = true := by simp; omega
            obtain rfl : rb = true := by rw [← HB.out]; exact bP_yes (.inr ⟨j, x, HX.out, .inr p2⟩)
            clear HB
            go_wp2
            go_ret
            exact ⟨rfl, E0⟩
          · have q2 : decide ((100 : Int) < (x.name.length : Int)) = false := by simp; omega
            have HP2 := Kp.mk (show ∀ (k : Nat) (y : TnA), k < j + 1 → l[k]? = some y → ¬ (12 < y.keys.length ∨ 100 < y.name.length) from fun k y hk hy => by
              by_cases hkj : k < j
              · exact HPRE.out k y hkj hy
              · obtain rfl : k = j := by omega
                rw [HX.out] at hy
                obtain rfl := Option.some.inj hy
                omega)
            go_wp2
            go_roundw
            case rel => exact ⟨j + 1, by go_num, hlt, trivial, HP2.out⟩
            case measure => simp [intOf]; omega
      · obtain rfl : rb = false := by
          rw [← HB.out]
          refine bP_no ?_
          rintro (h | ⟨k, t, ht, h⟩)
          · rw [HN.out] at h; exact h20 h
          · refine HPRE.out k t ?_ ht h
            have := (List.getElem?_eq_some_iff.1 ht).1
            rw [HN.out] at this
            omega
        clear HB
        go_wp2
        go_ret
        exact ⟨rfl, E0⟩
end Go.Proofs.Ytmnpbpfeoackiaa
