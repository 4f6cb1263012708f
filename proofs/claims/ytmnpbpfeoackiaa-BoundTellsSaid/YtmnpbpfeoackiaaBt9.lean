/-
  Package bound: how many blocks a state needs. Condition: what is read is in memory.
-/
import Derived.Test.YtmnpbpfeoackiaaBt8
import Derived.Test.YtmnpbpfeoackiaaBlk
namespace Go.Proofs.Ytmnpbpfeoackiaa
open Go.RowKit

/-- How many blocks a state needs. -/
noncomputable def imN (l : List TnA) (ser : Int) : Nat := if bP (RightS l ser) = true then blkN (batE (imgE l ser)).length else 0
theorem rdE_nil (w : World) : Rd w w.heap.size 5 (.slice none 0 0) ([] : List EvL).length (evsC []) := ⟨none, 0, rfl, by decide, rfl, fun h => absurd h (by decide)⟩
set_option maxRecDepth 100000 in
set_option maxHeartbeats 1000000 in
theorem bimage_any {v : Value} {l : List TnA} {ser : Int} {w : World} (H : RdTns w v l) (hl : l.length ≤ 1000) (hk : ∀ t ∈ l, t.keys.length ≤ 1000) : Calls Try.prog 14 #[.agg #[v, .int .i64 ser]] w fun e w' => e = .returned (.int .i64 (imN l ser)) ∧ Ext w w' := by
  obtain ⟨A, c, rfl, -, -⟩ := H.cells
  obtain ⟨W, hW, E0, A0⟩ : ∃ W, w.alloc (.cells #[.slice A l.length c, .int .i64 ser] 26) = W ∧ Ext w W ∧ Arr W w.heap.size 26 [.slice A l.length c, .int .i64 ser] := ⟨_, rfl, (Ext.rfl' w).al _, Arr.new w _ [.slice A l.length c, .int .i64 ser]⟩
  have HW := Kp.mk hW
  have a0 := A0.cell 0; have a1 := A0.cell 1
  simp only [List.getElem?_cons_zero, List.getElem?_cons_succ] at a0 a1
  unfold imN
  by_cases hR : RightS l ser
  · have hlen := imgE_len hR
    have hform := imgE_form hR
    have hbl := batE_len hform hlen
    have hpos : 0 < (imgE l ser).length := by unfold imgE; rw [List.length_append, List.length_singleton]; omega
    rw [bP_yes hR, if_pos rfl]
    have cI := Kp.mk (pimage_yes (H.at E0) hR)
    obtain ⟨es, hes⟩ : ∃ es, imgE l ser = es := ⟨_, rfl⟩
    rw [hes] at hlen hform hbl hpos cI ⊢
    have HF := Kp.mk hform
    obtain ⟨n, hn⟩ : ∃ n, es.length = n := ⟨_, rfl⟩
    obtain ⟨R, hRR⟩ : ∃ R, batE es = R := ⟨_, rfl⟩
    rw [hRR] at hbl ⊢
    have HN := Kp.mk hn; have HR := Kp.mk hRR
    have hsz : (ofL R).size = R.length := size_ofL R
    have q1 : decide ((n : Int) < 1) = false := by simp; omega
    have cB := Kp.mk (fun W => eblocks_any (R.length : Int) W)
    rw [hn] at cI hlen
    clear hes hform hn hRR hW H hl hk hR hpos
    go_enter Try.func14, Try.ntmps14
    go_upto_region 1 with fail
    rw [HW.out]
    clear HW
    go_wp2_with fail
    refine cI.out.mono ?_
    rintro e w1 ⟨v, rfl, own1, E1⟩
    have F1 := E0.tr E1
    obtain ⟨oA, oc, rfl⟩ := own_slice own1
    have cT := batch_any (l := es) (w := w1) (by rw [HN.out]; exact Rd.own own1 (by omega)) HF.out (by rw [HN.out]; exact hlen)
    rw [HR.out] at cT
    replace cT := Kp.mk cT
    clear own1 E0 E1 A0 a0 a1 cI
    go_wp2_with fail
    refine cT.out.mono ?_
    rintro e w2 ⟨rfl, E2⟩
    have F2 := F1.tr E2
    clear F1 E2 cT
    go_wp2_with fail
    refine (cB.out _).mono ?_
    rintro e w3 ⟨rfl, rfl⟩
    go_wp2
    go_ret
    exact ⟨rfl, F2⟩
  · rw [bP_no hR, if_neg (by decide)]
    have cI := Kp.mk (pimage_no (H.at E0) hl hk hR)
    obtain ⟨R, hRR⟩ : ∃ R, batE [] = R := ⟨_, rfl⟩
    have cT := Kp.mk (fun W => batch_any (l := []) (w := W) (rdE_nil W) (fun e he => by cases he) (by decide))
    simp only [hRR] at cT
    clear hW H hl hk hR hRR
    go_enter Try.func14, Try.ntmps14
    go_upto_region 1 with fail
    rw [HW.out]
    clear HW
    go_wp2_with fail
    refine cI.out.mono ?_
    rintro e w1 ⟨rfl, E1⟩
    have F1 := E0.tr E1
    clear E0 E1 A0 a0 a1 cI
    go_wp2_with fail
    refine (cT.out _).mono ?_
    rintro e w2 ⟨rfl, E2⟩
    have F2 := F1.tr E2
    go_wp2
    go_ret
    exact ⟨rfl, F2⟩
end Go.Proofs.Ytmnpbpfeoackiaa
