/-
  The reference's answer for states: the changes that make one. Condition: what is read is in memory.
-/
import Derived.Test.YtmnpbpfeoackiaaBr1
import Derived.Test.YtmnpbpfeoackiaaBr3
import Derived.Test.YtmnpbpfeoackiaaArr
namespace Go.Proofs.Ytmnpbpfeoackiaa
open Go.RowKit

set_option maxRecDepth 100000 in
set_option maxHeartbeats 2000000 in
theorem rimage_no {v : Value} {l : List TnA} {ser : Int} {w : World} (H : RdTns w v l) (hl : l.length ≤ 1000) (hk : ∀ t ∈ l, t.keys.length ≤ 1000 ∧ t.name.length ≤ 1000) (hR : ¬ RightS l ser) : Calls Try.prog 26 #[.agg #[v, .int .i64 ser]] w fun e w' => e = .returned (.slice none 0 0) ∧ Ext w w' := by
  obtain ⟨A, c, rfl, -, -⟩ := H.cells
  obtain ⟨W, hW, E0, A0⟩ : ∃ W, w.alloc (.cells #[.slice A l.length c, .int .i64 ser] 26) = W ∧ Ext w W ∧ Arr W w.heap.size 26 [.slice A l.length c, .int .i64 ser] := ⟨_, rfl, (Ext.rfl' w).al _, Arr.new w _ [.slice A l.length c, .int .i64 ser]⟩
  have HW := Kp.mk hW
  have cR := Kp.mk (rrightS_any (ser := ser) (H.at E0) hl hk)
  rw [bP_no hR] at cR
  have c0 := A0.cell 0; have c1 := A0.cell 1
  simp only [List.getElem?_cons_zero, List.getElem?_cons_succ] at c0 c1
  clear hW H hl hk hR
  go_enter Try.func26, Try.ntmps26
  go_upto_region 1 with fail
  rw [HW.out]
  clear HW
  go_wp2_with fail
  refine cR.out.mono ?_
  rintro e w1 ⟨rfl, E1⟩
  go_wp2
  go_ret
  exact ⟨rfl, E0.tr E1⟩
set_option maxRecDepth 100000 in
set_option maxHeartbeats 2000000 in
theorem rimage_yes {v : Value} {l : List TnA} {ser : Int} {w : World} (H : RdTns w v l) (hR : RightS l ser) : Calls Try.prog 26 #[.agg #[v, .int .i64 ser]] w fun e w' => ∃ v, e = .returned v ∧ w'.ownsRow w.heap.size 71 5 v (imgE l ser).length (evsC (imgE l ser)) ∧ Ext w w' := by
  obtain ⟨A, c, rfl, -, -⟩ := H.cells
  obtain ⟨W, hW, E0, A0⟩ : ∃ W, w.alloc (.cells #[.slice A l.length c, .int .i64 ser] 26) = W ∧ Ext w W ∧ Arr W w.heap.size 26 [.slice A l.length c, .int .i64 ser] := ⟨_, rfl, (Ext.rfl' w).al _, Arr.new w _ [.slice A l.length c, .int .i64 ser]⟩
  have HW := Kp.mk hW
  have H0 := H.at E0
  have hk8 : ∀ t ∈ l, t.keys.length ≤ 8 := fun t ht => by
    obtain ⟨k, hk, hkt⟩ := List.mem_iff_getElem.1 ht
    exact (hR.2.2.1 k t (by rw [List.getElem?_eq_getElem hk, hkt])).2.2.2.1
  have hl16 := hR.1
  have HTL := Kp.mk (take_le_len hk8 hl16)
  have cR := Kp.mk (rrightS_any (ser := ser) H0 (by omega) (fun t ht => by
    have := hk8 t ht
    obtain ⟨k, hk, hkt⟩ := List.mem_iff_getElem.1 ht
    have h2 := wordL_len (hR.2.2.1 k t (by rw [List.getElem?_eq_getElem hk, hkt])).1
    omega))
  rw [bP_yes hR] at cR
  have hcl := Kp.mk (show 0 < l.length → ∃ b off, A = some ⟨b, off, none⟩ ∧ b < w.heap.size ∧ ∀ (k : Nat) (x : TnA), l[k]? = some x → ∀ W', Ext w W' → W'.cell? ⟨b, off + k * 4, none⟩ = some (.string (ofL x.name)) ∧ W'.cell? ⟨b, off + k * 4 + 1, none⟩ = some (.int .i64 x.ep) ∧ W'.cell? ⟨b, off + k * 4 + 2, none⟩ = some (.int .i64 x.nx) ∧ W'.cell? ⟨b, off + k * 4 + 3, none⟩ = some (.slice x.A x.keys.length x.c) from by
    obtain ⟨A', c', he, _, hcell⟩ := H.cells
    cases he
    exact hcell)
  have HK := Kp.mk (fun (t : TnA) (ht : t ∈ l) => And.intro (H.2 t ht).cells (hk8 t ht))
  obtain ⟨n, hn⟩ : ∃ n, l.length = n := ⟨_, rfl⟩
  rw [hn] at hcl A0 hW HW cR hl16
  rw [hn]
  have HN := Kp.mk hn
  have c0 := A0.cell 0; have c1 := A0.cell 1
  simp only [List.getElem?_cons_zero, List.getElem?_cons_succ] at c0 c1
  clear hW hn H H0 hk8 hR
  go_enter Try.func26, Try.ntmps26
  go_upto_region 1 with fail
  rw [HW.out]
  clear HW
  go_wp2_with fail
  refine cR.out.mono ?_
  rintro e w1 ⟨rfl, E1⟩
  have A1 := A0.ext E1 A0.lt
  clear c0 c1 cR
  have c0 := A1.cell 0
  simp only [List.getElem?_cons_zero] at c0
  go_upto_region 5 with fail
  clear c0 A1
  have E01 := E0.tr E1
  have A2 := A0.ext E1 A0.lt
  clear E0 E1 A0
  go_loopw [4, 3] (fun i o wr => ∃ j : Nat, i = .int .i64 j ∧ j ≤ n ∧ Ext w wr ∧ Arr wr w.heap.size 26 [.slice A n c, .int .i64 ser] ∧ wr.ownsRow w.heap.size 71 5 o (imgL (l.take j)).length (evsC (imgL (l.take j)))) (fun i _ _ => n - (intOf i).toNat)
  case atStart => exact ⟨0, rfl, Nat.zero_le _, E01, A2, World.ownsRow_nil _ _ _ _⟩
  case round =>
    clear E01 A2
    obtain ⟨j, rfl, hjn, E, AS, O⟩ := hrel
    have hNL := HTL.out j
    obtain ⟨N, hN⟩ : ∃ N, (imgL (l.take j)).length = N := ⟨_, rfl⟩
    rw [hN] at O hNL
    obtain ⟨oA, oc, rfl⟩ := own_slice O
    have HNN := Kp.mk hN
    clear hN
    have hsz := E.size
    have s0 := AS.cell 0
    simp only [List.getElem?_cons_zero] at s0
    by_cases hlt : j < n
    · obtain ⟨b, off, rfl, hbw, hcell⟩ := hcl.out (by omega)
      obtain ⟨x, hx⟩ : ∃ x, l[j]? = some x := ⟨_, List.getElem?_eq_getElem (by rw [HN.out]; exact hlt)⟩
      obtain ⟨d0, d1, d2, d3⟩ := hcell j x hx wr E
      have HX := Kp.mk hx
      clear hcell hx
      go_upto_region 8 with fail
      obtain ⟨V5, hV5, E5, B5⟩ : ∃ V, wr.alloc (.cells #[.string (ofL x.name), .int .i64 x.ep, .int .i64 x.nx, .slice x.A x.keys.length x.c] 47) = V ∧ Ext wr V ∧ Arr V wr.heap.size 47 (tnC x) := ⟨_, rfl, (Ext.rfl' wr).al _, Arr.new wr _ (tnC x)⟩
      rw [hV5]
      have b0 := B5.cell 0; have b1 := B5.cell 1; have b2 := B5.cell 2
      simp only [tnC, List.getElem?_cons_zero, List.getElem?_cons_succ] at b0 b1 b2
      have O5 := own_ext O (fun i _ hi => E5.block i hi)
      have AS5 := AS.ext E5 AS.lt
      have F5 := E.tr E5
      have hs5 := F5.size
      clear hV5 d0 d1 d2 d3 O AS E E5 s0
      go_upto_region 9 with (at_builtin; refine wpl_app Try.elemEvt rfl _ _ rfl O5 1 rfl rfl rfl (oneCell_evl 1 x.nx x.ep (ofL x.name) ⟨#[]⟩) (by omega) (by omega) hs5 ?_; intro v7 w7 O7 hg7; have F7 := F5.own hg7 O5 (Nat.le_refl _); have B7 := arr_kept_type B5 O5 (by decide) hg7; have AS7 := arr_kept_type AS5 O5 (by decide) hg7; clear hg7 O5 F5 B5 AS5 b0 b1 b2)
      have hm8 := (HK.out x (List.mem_of_getElem? HX.out)).2
      have HKC := Kp.mk (HK.out x (List.mem_of_getElem? HX.out)).1
      obtain ⟨m, hm⟩ : ∃ m, x.keys.length = m := ⟨_, rfl⟩
      unfold tnC at B7
      rw [hm] at B7 hm8 HKC
      have HM := Kp.mk hm
      have O7' := own_eq O7 (show _ = evsC (imgL (l.take j) ++ (evT x :: (x.keys.take 0).map (evK x))) by rw [evsC_append]; rfl) rfl
      have b3 := B7.cell 3
      simp only [List.getElem?_cons_zero, List.getElem?_cons_succ] at b3
      clear O7 hm
      go_upto_region 10 with fail
      clear b3
      obtain ⟨g5, hg5⟩ : ∃ g, wr.heap.size = g := ⟨_, rfl⟩
      rw [hg5] at B7 ⊢
      clear hg5
      go_loopw [6, 3] (fun i o wq => ∃ k : Nat, i = .int .i64 k ∧ k ≤ m ∧ Ext w wq ∧ Arr wq w.heap.size 26 [.slice (some ⟨b, off, none⟩) n c, .int .i64 ser] ∧ Arr wq g5 47 [.string (ofL x.name), .int .i64 x.ep, .int .i64 x.nx, .slice x.A m x.c] ∧ wq.ownsRow w.heap.size 71 5 o (N + 1 + k) (evsC (imgL (l.take j) ++ (evT x :: (x.keys.take k).map (evK x))))) (fun i _ _ => m - (intOf i).toNat)
      case atStart => exact ⟨0, rfl, Nat.zero_le _, F7, AS7, B7, O7'⟩
      case round =>
        clear F7 AS7 B7 O7'
        obtain ⟨k, rfl, hkm, G, AG, BG, OG⟩ := hrel
        obtain ⟨pA, pc, rfl⟩ := own_slice OG
        have hsG := G.size
        have b3 := BG.cell 3
        simp only [List.getElem?_cons_zero, List.getElem?_cons_succ] at b3
        by_cases hlk : k < m
        · obtain ⟨bk, ok, hA, hbk, hkc⟩ := HKC.out (by omega)
          obtain ⟨y, hy⟩ : ∃ y, x.keys[k]? = some y := ⟨_, List.getElem?_eq_getElem (by rw [HM.out]; exact hlk)⟩
          have HYC := Kp.mk (fun W (hW : Ext wr W) => hkc k y hy W (G.tr hW))
          have HY := Kp.mk hy
          rw [hA] at b3
          have HAA := Kp.mk hA
          clear hkc hy hA
          go_upto_region 12 with fail
          clear b3
          refine wp_region_tailsE (fun i v W => match i with
            | 0 => v = .slice pA (N + 1 + k) pc
            | 1 => v = .pointer (some ⟨g5, 0, none⟩)
            | 2 => v = .string (ofL x.name)
            | 3 => v = .pointer (some ⟨g5, 3, none⟩)
            | 4 => v = .slice (some ⟨bk, ok, none⟩) m x.c
            | 5 => v = .int .i64 k
            | 6 => v = .pointer (some ⟨bk, ok + k * 2, none⟩)
            | 7 => v = .pointer (some ⟨bk, ok + k * 2, none⟩)
            | 8 => v = .int .i64 y.num
            | 9 => v = .pointer (some ⟨g5, 3, none⟩)
            | 10 => v = .slice (some ⟨bk, ok, none⟩) m x.c
            | 11 => v = .int .i64 k
            | 12 => v = .pointer (some ⟨bk, ok + k * 2, none⟩)
            | 13 => v = .pointer (some ⟨bk, ok + k * 2 + 1, none⟩)
            | 14 => v = .string (ofL y.text)
            | 15 => v = .agg #[.int .i64 2, .string (ofL x.name), .int .i64 y.num, .int .i64 0, .string (ofL y.text)]
            | 16 => ∃ b, v = .slice (some ⟨b, 0, none⟩) 1 1 ∧ Arr W b 71 [.int .i64 2, .string (ofL x.name), .int .i64 y.num, .int .i64 0, .string (ofL y.text)]
            | _ => True) 17 (by kernel_rfl) (by kernel_rfl) (by kernel_rfl) (by decide) (by kernel_rfl) (by kernel_rfl) (by kernel_rfl) (by kernel_rfl) ?_ ?_ ?_
          · intro i v W1 W2 e1 e2 h
            match i, h with
            | 0, h => exact h
            | 1, h => exact h
            | 2, h => exact h
            | 3, h => exact h
            | 4, h => exact h
            | 5, h => exact h
            | 6, h => exact h
            | 7, h => exact h
            | 8, h => exact h
            | 9, h => exact h
            | 10, h => exact h
            | 11, h => exact h
            | 12, h => exact h
            | 13, h => exact h
            | 14, h => exact h
            | 15, h => exact h
            | 16, ⟨b, h1, h2⟩ => exact ⟨b, h1, h2.ext e2 h2.lt⟩
            | (i + 17), h => exact h
          · intro HF
            refine localsR_cons (fun u W hW hd => ?_) ?_
            · refine opLeaves_ev HF rfl fun ev zc zg zf zt => ?_
              have t3 : ev (.tmp 3) = .slice pA (N + 1 + k) pc := zt 3
              clear zt
              exact ev_val (v := .slice pA (N + 1 + k) pc) (by go_simp) rfl
            refine localsR_cons (fun u W hW hd => ?_) ?_
            · refine opLeaves_ev HF rfl fun ev zc zg zf zt => ?_
              have t5 : ev (.tmp 5) = .pointer (some ⟨g5, 0, none⟩) := zt 5
              clear zt
              exact ev_val (v := .pointer (some ⟨g5, 0, none⟩)) (by go_simp) rfl
            refine localsR_cons (fun u W hW hd => ?_) ?_
            · refine opLeaves_ev HF rfl fun ev zc zg zf zt => ?_
              have t40 : ev (.tmp 40) = u 1 := zt 40
              clear zt
              have h1 : u 1 = _ := hd 1 (by kernel_rfl)
              have b0 := (BG.ext hW BG.lt).cell 0
              simp only [List.getElem?_cons_zero] at b0
              exact ev_val (v := .string (ofL x.name)) (by go_simp) rfl
            refine localsR_cons (fun u W hW hd => ?_) ?_
            · refine opLeaves_ev HF rfl fun ev zc zg zf zt => ?_
              have t5 : ev (.tmp 5) = .pointer (some ⟨g5, 0, none⟩) := zt 5
              clear zt
              exact ev_val (v := .pointer (some ⟨g5, 3, none⟩)) (by go_simp) rfl
            refine localsR_cons (fun u W hW hd => ?_) ?_
            · refine opLeaves_ev HF rfl fun ev zc zg zf zt => ?_
              have t42 : ev (.tmp 42) = u 3 := zt 42
              clear zt
              have h3 : u 3 = _ := hd 3 (by kernel_rfl)
              have b3 := (BG.ext hW BG.lt).cell 3
              simp only [List.getElem?_cons_zero, List.getElem?_cons_succ, HAA.out] at b3
              exact ev_val (v := .slice (some ⟨bk, ok, none⟩) m x.c) (by go_simp) rfl
            refine localsR_cons (fun u W hW hd => ?_) ?_
            · refine opLeaves_ev HF rfl fun ev zc zg zf zt => ?_
              have t6 : ev (.tmp 6) = .int .i64 k := zt 6
              clear zt
              exact ev_val (v := .int .i64 k) (by go_simp) rfl
            refine localsR_cons (fun u W hW hd => ?_) ?_
            · refine opLeaves_ev HF rfl fun ev zc zg zf zt => ?_
              have t43 : ev (.tmp 43) = u 4 := zt 43
              have t44 : ev (.tmp 44) = u 5 := zt 44
              clear zt
              have h4 : u 4 = _ := hd 4 (by kernel_rfl)
              have h5 : u 5 = _ := hd 5 (by kernel_rfl)
              exact ev_val (v := .pointer (some ⟨bk, ok + k * 2, none⟩)) (by go_simp) rfl
            refine localsR_cons (fun u W hW hd => ?_) ?_
            · refine opLeaves_ev HF rfl fun ev zc zg zf zt => ?_
              have t45 : ev (.tmp 45) = u 6 := zt 45
              clear zt
              have h6 : u 6 = _ := hd 6 (by kernel_rfl)
              exact ev_val (v := .pointer (some ⟨bk, ok + k * 2, none⟩)) (by go_simp) rfl
            refine localsR_cons (fun u W hW hd => ?_) ?_
            · refine opLeaves_ev HF rfl fun ev zc zg zf zt => ?_
              have t46 : ev (.tmp 46) = u 7 := zt 46
              clear zt
              have h7 : u 7 = _ := hd 7 (by kernel_rfl)
              have q0 := (HYC.out W hW).1
              exact ev_val (v := .int .i64 y.num) (by go_simp) rfl
            refine localsR_cons (fun u W hW hd => ?_) ?_
            · refine opLeaves_ev HF rfl fun ev zc zg zf zt => ?_
              have t5 : ev (.tmp 5) = .pointer (some ⟨g5, 0, none⟩) := zt 5
              clear zt
              exact ev_val (v := .pointer (some ⟨g5, 3, none⟩)) (by go_simp) rfl
            refine localsR_cons (fun u W hW hd => ?_) ?_
            · refine opLeaves_ev HF rfl fun ev zc zg zf zt => ?_
              have t48 : ev (.tmp 48) = u 9 := zt 48
              clear zt
              have h9 : u 9 = _ := hd 9 (by kernel_rfl)
              have b3 := (BG.ext hW BG.lt).cell 3
              simp only [List.getElem?_cons_zero, List.getElem?_cons_succ, HAA.out] at b3
              exact ev_val (v := .slice (some ⟨bk, ok, none⟩) m x.c) (by go_simp) rfl
            refine localsR_cons (fun u W hW hd => ?_) ?_
            · refine opLeaves_ev HF rfl fun ev zc zg zf zt => ?_
              have t6 : ev (.tmp 6) = .int .i64 k := zt 6
              clear zt
              exact ev_val (v := .int .i64 k) (by go_simp) rfl
            refine localsR_cons (fun u W hW hd => ?_) ?_
            · refine opLeaves_ev HF rfl fun ev zc zg zf zt => ?_
              have t49 : ev (.tmp 49) = u 10 := zt 49
              have t50 : ev (.tmp 50) = u 11 := zt 50
              clear zt
              have h10 : u 10 = _ := hd 10 (by kernel_rfl)
              have h11 : u 11 = _ := hd 11 (by kernel_rfl)
              exact ev_val (v := .pointer (some ⟨bk, ok + k * 2, none⟩)) (by go_simp) rfl
            refine localsR_cons (fun u W hW hd => ?_) ?_
            · refine opLeaves_ev HF rfl fun ev zc zg zf zt => ?_
              have t51 : ev (.tmp 51) = u 12 := zt 51
              clear zt
              have h12 : u 12 = _ := hd 12 (by kernel_rfl)
              exact ev_val (v := .pointer (some ⟨bk, ok + k * 2 + 1, none⟩)) (by go_simp) rfl
            refine localsR_cons (fun u W hW hd => ?_) ?_
            · refine opLeaves_ev HF rfl fun ev zc zg zf zt => ?_
              have t52 : ev (.tmp 52) = u 13 := zt 52
              clear zt
              have h13 : u 13 = _ := hd 13 (by kernel_rfl)
              have q0 := (HYC.out W hW).2
              exact ev_val (v := .string (ofL y.text)) (by go_simp) rfl
            refine localsR_cons (fun u W hW hd => ?_) ?_
            · refine opLeaves_ev HF rfl fun ev zc zg zf zt => ?_
              have t41 : ev (.tmp 41) = u 2 := zt 41
              have t47 : ev (.tmp 47) = u 8 := zt 47
              have t53 : ev (.tmp 53) = u 14 := zt 53
              clear zt
              have h2 : u 2 = _ := hd 2 (by kernel_rfl)
              have h8 : u 8 = _ := hd 8 (by kernel_rfl)
              have h14 : u 14 = _ := hd 14 (by kernel_rfl)
              exact ev_val (v := .agg #[.int .i64 2, .string (ofL x.name), .int .i64 y.num, .int .i64 0, .string (ofL y.text)]) (by go_simp) rfl
            refine localsR_cons (fun u W hW hd => ?_) localsR_nil
            · refine opLeaves_ev HF rfl fun ev zc zg zf zt => ?_
              have t54 : ev (.tmp 54) = u 15 := zt 54
              clear zt
              have h15 : u 15 = _ := hd 15 (by kernel_rfl)
              exact ev_new (v := .slice (some ⟨W.heap.size, 0, none⟩) 1 1) (w' := W.alloc (.cells #[.int .i64 2, .string (ofL x.name), .int .i64 y.num, .int .i64 0, .string (ofL y.text)] 71)) (by go_simp) ((Ext.rfl' W).al _) ⟨_, rfl, Arr.new W _ [.int .i64 2, .string (ofL x.name), .int .i64 y.num, .int .i64 0, .string (ofL y.text)]⟩
          · intro u6 V6 hW6 hV
            have h0 : u6 0 = _ := hV 0 (by decide)
            obtain ⟨b4, h16, A4⟩ := hV 16 (by decide)
            have B6 := BG.ext hW6 BG.lt
            have O6 := own_ext OG (fun i _ hi => hW6.block i hi)
            have AS6 := AG.ext hW6 AG.lt
            have F6 := G.tr hW6
            have hs6 := F6.size
            clear hV OG AG BG G hW6
            refine wpl_app_at Try.elemEvt rfl _ _ rfl O6 (ad := ⟨b4, 0, none⟩) (c := 1) (news := [.int .i64 2, .string (ofL x.name), .int .i64 y.num, .int .i64 0, .string (ofL y.text)]) 1 (by go_simp) (by go_simp) rfl ?_ (oneCell_evl 2 y.num 0 (ofL x.name) (ofL y.text)) (by omega) (by omega) hs6 ?_
            · intro j' u8 hu
              rw [WideShapes.add_plain, A4.cell, Nat.zero_add]
              exact hu
            · intro v8 w8 O8 hg8
              have F8 := F6.own hg8 O6 (Nat.le_refl _)
              have B8 := arr_kept_type B6 O6 (by decide) hg8
              have AS8 := arr_kept_type AS6 O6 (by decide) hg8
              clear hg8 O6 F6 B6 AS6 h0 h16 A4
              have O8' := own_eq O8 (show _ = evsC (imgL (l.take j) ++ (evT x :: (x.keys.take (k + 1)).map (evK x))) by
                obtain ⟨hk1, hk2⟩ := List.getElem?_eq_some_iff.1 HY.out
                rw [List.take_succ_eq_append_getElem hk1, List.map_append, hk2, ← List.cons_append, ← List.append_assoc, evsC_append (imgL (l.take j) ++ _)]
                rfl) rfl
              clear O8
              go_simp
              go_wp2
              go_roundw
              case rel => exact ⟨k + 1, by go_num, hlk, F8, AS8, B8, own_eq O8' rfl rfl⟩
              case measure => simp [intOf]; omega
        · obtain rfl : k = m := by omega
          have OO := own_eq OG (show _ = evsC (imgL (l.take (j + 1))) by
            rw [imgL_take HX.out, show x.keys.take k = x.keys from List.take_of_length_le (by rw [HM.out]; exact Nat.le_refl _)]
            rfl) (show _ = (imgL (l.take (j + 1))).length by
            rw [imgL_take HX.out, List.length_append, HNN.out]
            unfold evsT
            rw [List.length_cons, List.length_map, HM.out]
            omega)
          clear OG
          go_wp2
          go_roundw
          case rel => exact ⟨j + 1, by go_num, hlt, G, AG, OO⟩
          case measure => simp [intOf]; omega
    · have c1 := AS.cell 1
      simp only [List.getElem?_cons_zero, List.getElem?_cons_succ] at c1
      obtain rfl : j = n := by omega
      have hfin : (imgE l ser).length = N + 1 := by
        unfold imgE
        rw [List.length_append, ← HNN.out, List.take_of_length_le (by rw [HN.out]; exact Nat.le_refl _)]
        rfl
      have HFIN := Kp.mk hfin
      have HTK := Kp.mk (show l.take j = l from List.take_of_length_le (by rw [HN.out]; exact Nat.le_refl _))
      clear hfin
      go_wp2_with (at_builtin; refine wpl_app Try.elemEvt rfl _ _ rfl O 1 rfl rfl rfl (oneCell_evl 4 ser 0 ⟨#[]⟩ ⟨#[]⟩) (by omega) (by omega) hsz ?_; intro v9 w9 O9 hg9)
      have F9 := E.own hg9 O (Nat.le_refl _)
      clear hg9
      refine bodyPost_ret (results_tmp rfl _ _ _) rfl ⟨v9, rfl, own_eq O9 (show _ = evsC (imgE l ser) by rw [HTK.out]; unfold imgE; rw [evsC_append]; rfl) HFIN.out.symm, F9⟩
end Go.Proofs.Ytmnpbpfeoackiaa
