/-
  Package plan: the changes that make a state. Condition: what is read is in memory.
-/
import Derived.Test.YtmnpbpfeoackiaaBt4
namespace Go.Proofs.Ytmnpbpfeoackiaa
open Go.RowKit

theorem oneCell_evl (k n p : Int) (s t : ByteArray) : ∀ u ∈ [Value.int .i64 k, .string s, .int .i64 n, .int .i64 p, .string t], u.oneCell' = true := by
  intro u hu
  simp only [List.mem_cons, List.not_mem_nil, or_false] at hu
  rcases hu with rfl | rfl | rfl | rfl | rfl <;> rfl
theorem imgL_take {l : List TnA} {j : Nat} {x : TnA} (h : l[j]? = some x) : imgL (l.take (j + 1)) = imgL (l.take j) ++ evsT x := by
  obtain ⟨hj, rfl⟩ := List.getElem?_eq_some_iff.1 h
  rw [List.take_succ_eq_append_getElem hj, imgL_snoc]
theorem take_le_len {l : List TnA} (h : ∀ t ∈ l, t.keys.length ≤ 8) (hl : l.length ≤ 16) (j : Nat) : (imgL (l.take j)).length ≤ 144 := by
  have h1 := imgL_len (l := l.take j) (fun t ht => h t (List.mem_of_mem_take ht))
  have : (l.take j).length ≤ 16 := by rw [List.length_take]; omega
  omega
set_option maxRecDepth 100000 in
set_option maxHeartbeats 2000000 in
theorem pimage_no {v : Value} {l : List TnA} {ser : Int} {w : World} (H : RdTns w v l) (hl : l.length ≤ 1000) (hk : ∀ t ∈ l, t.keys.length ≤ 1000) (hR : ¬ RightS l ser) : Calls Try.prog 23 #[.agg #[v, .int .i64 ser]] w fun e w' => e = .returned (.slice none 0 0) ∧ Ext w w' := by
  obtain ⟨A, c, rfl, -, -⟩ := H.cells
  obtain ⟨W, hW, E0, A0⟩ : ∃ W, w.alloc (.cells #[.slice A l.length c, .int .i64 ser] 26) = W ∧ Ext w W ∧ Arr W w.heap.size 26 [.slice A l.length c, .int .i64 ser] := ⟨_, rfl, (Ext.rfl' w).al _, Arr.new w _ [.slice A l.length c, .int .i64 ser]⟩
  have HW := Kp.mk hW
  have cR := Kp.mk (rightS_any (ser := ser) (H.at E0) hl hk)
  rw [bP_no hR] at cR
  have c0 := A0.cell 0; have c1 := A0.cell 1
  simp only [List.getElem?_cons_zero, List.getElem?_cons_succ] at c0 c1
  clear hW H hl hk hR
  go_enter Try.func23, Try.ntmps23
  go_upto_region 1 with fail
  rw [HW.out]
  clear HW
  go_wp2_with fail
  refine cR.out.mono ?_
  rintro e w1 ⟨rfl, E1⟩
  go_wp2
  go_ret
  exact ⟨rfl, E0.tr E1⟩
set_option maxRecDepth 100000 in
set_option maxHeartbeats 2000000 in
theorem pimage_yes {v : Value} {l : List TnA} {ser : Int} {w : World} (H : RdTns w v l) (hR : RightS l ser) : Calls Try.prog 23 #[.agg #[v, .int .i64 ser]] w fun e w' => ∃ v, e = .returned v ∧ w'.ownsRow w.heap.size 71 5 v (imgE l ser).length (evsC (imgE l ser)) ∧ Ext w w' := by
  obtain ⟨A, c, rfl, -, -⟩ := H.cells
  obtain ⟨W, hW, E0, A0⟩ : ∃ W, w.alloc (.cells #[.slice A l.length c, .int .i64 ser] 26) = W ∧ Ext w W ∧ Arr W w.heap.size 26 [.slice A l.length c, .int .i64 ser] := ⟨_, rfl, (Ext.rfl' w).al _, Arr.new w _ [.slice A l.length c, .int .i64 ser]⟩
  have HW := Kp.mk hW
  have H0 := H.at E0
  have hk8 : ∀ t ∈ l, t.keys.length ≤ 8 := fun t ht => by
    obtain ⟨k, hk, hkt⟩ := List.mem_iff_getElem.1 ht
    exact (hR.2.2.1 k t (by rw [List.getElem?_eq_getElem hk, hkt])).2.2.2.1
  have hl16 := hR.1
  have HTL := Kp.mk (take_le_len hk8 hl16)
  have cR := Kp.mk (rightS_any (ser := ser) H0 (by omega) (fun t ht => by have := hk8 t ht; omega))
  rw [bP_yes hR] at cR
  have hcl := Kp.mk (show 0 < l.length → ∃ b off, A = some ⟨b, off, none⟩ ∧ b < w.heap.size ∧ ∀ (k : Nat) (x : TnA), l[k]? = some x → ∀ W', Ext w W' → W'.cell? ⟨b, off + k * 4, none⟩ = some (.string (ofL x.name)) ∧ W'.cell? ⟨b, off + k * 4 + 1, none⟩ = some (.int .i64 x.ep) ∧ W'.cell? ⟨b, off + k * 4 + 2, none⟩ = some (.int .i64 x.nx) ∧ W'.cell? ⟨b, off + k * 4 + 3, none⟩ = some (.slice x.A x.keys.length x.c) from by
    obtain ⟨A', c', he, _, hcell⟩ := H.cells
    cases he
    exact hcell)
  have HK := Kp.mk (fun (t : TnA) (ht : t ∈ l) => And.intro (H.2 t ht).cells (hk8 t ht))
  obtain ⟨n, hn⟩ : ∃ n, l.length = n := ⟨_, rfl⟩
  rw [hn] at hcl A0 hW HW cR hl16
  rw [hn]
  have HN := Kp.mk hn
  have c0 := A0.cell 0; have c1 := A0.cell 1
  simp only [List.getElem?_cons_zero, List.getElem?_cons_succ] at c0 c1
  clear hW hn H H0 hk8 hR
  go_enter Try.func23, Try.ntmps23
  go_upto_region 1 with fail
  rw [HW.out]
  clear HW
  go_wp2_with fail
  refine cR.out.mono ?_
  rintro e w1 ⟨rfl, E1⟩
  have A1 := A0.ext E1 A0.lt
  clear c0 c1 cR
  have c0 := A1.cell 0
  simp only [List.getElem?_cons_zero] at c0
  go_upto_region 5 with fail
  clear c0 A1
  have E01 := E0.tr E1
  have A2 := A0.ext E1 A0.lt
  clear E0 E1 A0
  go_loopw [14, 3] (fun i o wr => ∃ j : Nat, i = .int .i64 j ∧ j ≤ n ∧ Ext w wr ∧ Arr wr w.heap.size 26 [.slice A n c, .int .i64 ser] ∧ wr.ownsRow w.heap.size 71 5 o (imgL (l.take j)).length (evsC (imgL (l.take j)))) (fun i _ _ => n - (intOf i).toNat)
  case atStart => exact ⟨0, rfl, Nat.zero_le _, E01, A2, World.ownsRow_nil _ _ _ _⟩
  case round =>
    clear E01 A2
    obtain ⟨j, rfl, hjn, E, AS, O⟩ := hrel
    have hNL := HTL.out j
    obtain ⟨N, hN⟩ : ∃ N, (imgL (l.take j)).length = N := ⟨_, rfl⟩
    rw [hN] at O hNL
    obtain ⟨oA, oc, rfl⟩ := own_slice O
    have HNN := Kp.mk hN
    clear hN
    have hsz := E.size
    by_cases hlt : j < n
    · obtain ⟨b, off, rfl, hbw, hcell⟩ := hcl.out (by omega)
      obtain ⟨x, hx⟩ : ∃ x, l[j]? = some x := ⟨_, List.getElem?_eq_getElem (by rw [HN.out]; exact hlt)⟩
      obtain ⟨d0, d1, d2, d3⟩ := hcell j x hx wr E
      have HX := Kp.mk hx
      clear hcell hx
      go_upto_region 7 with fail
      obtain ⟨V5, hV5, E5, B5⟩ : ∃ V, wr.alloc (.cells #[.string (ofL x.name), .int .i64 x.ep, .int .i64 x.nx, .slice x.A x.keys.length x.c] 47) = V ∧ Ext wr V ∧ Arr V wr.heap.size 47 (tnC x) := ⟨_, rfl, (Ext.rfl' wr).al _, Arr.new wr _ (tnC x)⟩
      rw [hV5]
      have b0 := B5.cell 0; have b1 := B5.cell 1; have b2 := B5.cell 2
      simp only [tnC, List.getElem?_cons_zero, List.getElem?_cons_succ] at b0 b1 b2
      have O5 := own_ext O (fun i _ hi => E5.block i hi)
      have AS5 := AS.ext E5 AS.lt
      have F5 := E.tr E5
      have hs5 := F5.size
      clear hV5 d0 d1 d2 d3 O AS E E5
      go_upto_region 8 with (at_builtin; refine wpl_app Try.elemEvt rfl _ _ rfl O5 1 rfl rfl rfl (oneCell_evl 1 x.nx x.ep (ofL x.name) ⟨#[]⟩) (by omega) (by omega) hs5 ?_; intro v7 w7 O7 hg7; have F7 := F5.own hg7 O5 (Nat.le_refl _); have B7 := arr_kept_type B5 O5 (by decide) hg7; have AS7 := arr_kept_type AS5 O5 (by decide) hg7; clear hg7 O5 F5 B5 AS5 b0 b1 b2)
      have hm8 := (HK.out x (List.mem_of_getElem? HX.out)).2
      have HKC := Kp.mk (HK.out x (List.mem_of_getElem? HX.out)).1
      obtain ⟨m, hm⟩ : ∃ m, x.keys.length = m := ⟨_, rfl⟩
      unfold tnC at B7
      rw [hm] at B7 hm8 HKC
      have HM := Kp.mk hm
      have O7' := own_eq O7 (show _ = evsC (imgL (l.take j) ++ (evT x :: (x.keys.take 0).map (evK x))) by rw [evsC_append]; rfl) rfl
      have b3 := B7.cell 3
      simp only [List.getElem?_cons_zero, List.getElem?_cons_succ] at b3
      clear O7 hm
      go_upto_region 9 with fail
      clear b3
      obtain ⟨g5, hg5⟩ : ∃ g, wr.heap.size = g := ⟨_, rfl⟩
      rw [hg5] at B7 ⊢
      clear hg5
      go_loopw [31, 3] (fun i o wq => ∃ k : Nat, i = .int .i64 k ∧ k ≤ m ∧ Ext w wq ∧ Arr wq w.heap.size 26 [.slice (some ⟨b, off, none⟩) n c, .int .i64 ser] ∧ Arr wq g5 47 [.string (ofL x.name), .int .i64 x.ep, .int .i64 x.nx, .slice x.A m x.c] ∧ wq.ownsRow w.heap.size 71 5 o (N + 1 + k) (evsC (imgL (l.take j) ++ (evT x :: (x.keys.take k).map (evK x))))) (fun i _ _ => m - (intOf i).toNat)
      case atStart => exact ⟨0, rfl, Nat.zero_le _, F7, AS7, B7, O7'⟩
      case round =>
        clear F7 AS7 B7 O7'
        obtain ⟨k, rfl, hkm, G, AG, BG, OG⟩ := hrel
        obtain ⟨pA, pc, rfl⟩ := own_slice OG
        have hsG := G.size
        by_cases hlk : k < m
        · obtain ⟨bk, ok, hA, hbk, hkc⟩ := HKC.out (by omega)
          obtain ⟨y, hy⟩ : ∃ y, x.keys[k]? = some y := ⟨_, List.getElem?_eq_getElem (by rw [HM.out]; exact hlk)⟩
          obtain ⟨d0, d1⟩ := hkc k y hy _ G
          have HY := Kp.mk hy
          rw [hA]
          rw [hA] at BG
          have HAA := Kp.mk hA
          clear hkc hy hA
          go_upto_region 11 with fail
          obtain ⟨V6, hV6, E6, K6⟩ : ∃ V, wr.alloc (.cells #[.int .i64 y.num, .string (ofL y.text)] 73) = V ∧ Ext wr V ∧ Arr V wr.heap.size 73 [.int .i64 y.num, .string (ofL y.text)] := ⟨_, rfl, (Ext.rfl' wr).al _, Arr.new wr _ [.int .i64 y.num, .string (ofL y.text)]⟩
          rw [hV6]
          have q0 := K6.cell 0; have q1 := K6.cell 1
          have B6 := BG.ext E6 BG.lt
          have b0 := B6.cell 0
          simp only [List.getElem?_cons_zero, List.getElem?_cons_succ] at q0 q1 b0
          have O6 := own_ext OG (fun i _ hi => E6.block i hi)
          have AS6 := AG.ext E6 AG.lt
          have F6 := G.tr E6
          have hs6 := F6.size
          clear hV6 d0 d1 OG AG BG G E6 K6
          go_upto_region 12 with (at_builtin; refine wpl_app Try.elemEvt rfl _ _ rfl O6 1 rfl rfl rfl (oneCell_evl 2 y.num 0 (ofL x.name) (ofL y.text)) (by omega) (by omega) hs6 ?_; intro v8 w8 O8 hg8; have F8 := F6.own hg8 O6 (Nat.le_refl _); have B8 := arr_kept_type B6 O6 (by decide) hg8; have AS8 := arr_kept_type AS6 O6 (by decide) hg8; clear hg8 O6 F6 B6 AS6 b0 q0 q1)
          have O8' := own_eq O8 (show _ = evsC (imgL (l.take j) ++ (evT x :: (x.keys.take (k + 1)).map (evK x))) by
            obtain ⟨hk1, hk2⟩ := List.getElem?_eq_some_iff.1 HY.out
            rw [List.take_succ_eq_append_getElem hk1, List.map_append, hk2, ← List.cons_append, ← List.append_assoc, evsC_append (imgL (l.take j) ++ _)]
            rfl) rfl
          clear O8
          go_wp2
          go_roundw
          case rel => exact ⟨k + 1, by go_num, hlk, F8, AS8, B8, own_eq O8' rfl rfl⟩
          case measure => simp [intOf]; omega
        · obtain rfl : k = m := by omega
          have OO := own_eq OG (show _ = evsC (imgL (l.take (j + 1))) by
            rw [imgL_take HX.out, show x.keys.take k = x.keys from List.take_of_length_le (by rw [HM.out]; exact Nat.le_refl _)]
            rfl) (show _ = (imgL (l.take (j + 1))).length by
            rw [imgL_take HX.out, List.length_append, HNN.out]
            unfold evsT
            rw [List.length_cons, List.length_map, HM.out]
            omega)
          clear OG
          go_wp2
          go_roundw
          case rel => exact ⟨j + 1, by go_num, hlt, G, AG, OO⟩
          case measure => simp [intOf]; omega
    · have c1 := AS.cell 1
      simp only [List.getElem?_cons_zero, List.getElem?_cons_succ] at c1
      obtain rfl : j = n := by omega
      have hfin : (imgE l ser).length = N + 1 := by
        unfold imgE
        rw [List.length_append, ← HNN.out, List.take_of_length_le (by rw [HN.out]; exact Nat.le_refl _)]
        rfl
      have HFIN := Kp.mk hfin
      have HTK := Kp.mk (show l.take j = l from List.take_of_length_le (by rw [HN.out]; exact Nat.le_refl _))
      clear hfin
      go_wp2_with (at_builtin; refine wpl_app Try.elemEvt rfl _ _ rfl O 1 rfl rfl rfl (oneCell_evl 4 ser 0 ⟨#[]⟩ ⟨#[]⟩) (by omega) (by omega) hsz ?_; intro v9 w9 O9 hg9)
      have F9 := E.own hg9 O (Nat.le_refl _)
      clear hg9
      refine bodyPost_ret (results_tmp rfl _ _ _) rfl ⟨v9, rfl, own_eq O9 (show _ = evsC (imgE l ser) by rw [HTK.out]; unfold imgE; rw [evsC_append]; rfl) HFIN.out.symm, F9⟩
end Go.Proofs.Ytmnpbpfeoackiaa
