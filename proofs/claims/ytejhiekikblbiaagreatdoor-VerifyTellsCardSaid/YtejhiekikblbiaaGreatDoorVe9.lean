/-
  Package verify and its reference: the most work; is a bundle too much for the law. No condition.
-/
import Derived.Test.YtejhiekikblbiaaGreatDoorVe8
namespace Go.Proofs.YtejhiekikblbiaaGreatDoor
open Go.RowKit

def mostS (l : List TokA) : Nat := (l.map fun d => mostT d.plain + 1).sum
theorem mostS_take (l : List TokA) (k : Nat) (h : k < l.length) : mostS (l.take (k + 1)) = mostS (l.take k) + (mostT l[k].plain + 1) := by
  rw [List.take_succ_eq_append_getElem h]
  unfold mostS
  rw [List.map_append, List.sum_append, List.map_singleton, List.sum_singleton]
theorem mostS_all (t : TokL) (l : List TokA) : mostL t (l.map TokA.plain) = mostT t + mostS l := by
  unfold mostL mostS
  rw [List.map_map]; rfl
theorem mostT_le (t : TokL) : mostT t ≤ 2 * t.links.length + 1 := by
  have := sealed_le t.links
  unfold mostT; omega
theorem most_boxes (w : World) (a b c d : Value) : ∃ W, ((w.alloc (.cells #[a, b, c, d] 41)).alloc (.cells #[.int .i64 0] 3)) = W ∧ Ext w W ∧ Arr W w.heap.size 41 [a, b, c, d] ∧ Arr W (w.heap.size + 1) 3 [.int .i64 ((0 : Nat) : Int)] := by
  refine ⟨_, rfl, ((Ext.rfl' w).al _).al _, (Arr.new w 41 [a, b, c, d]).alloc _, ?_⟩
  have q := Arr.new (w.alloc (.cells #[a, b, c, d] 41)) 3 [.int .i64 ((0 : Nat) : Int)]
  rw [World.size_alloc] at q
  exact q
set_option maxRecDepth 100000 in
set_option maxHeartbeats 4000000 in
theorem vmost_any (id tag : List UInt8) (A : Option Addr) (c : Nat) (l : List LinkL) (Am : Option Addr) (cm : Nat) (more : List TokA) (w : World) (hl : RdLinks w w.heap.size (.slice A l.length c) l) (hm : RdToks w w.heap.size (.slice Am more.length cm) more) (hln : l.length ≤ 10000) (hml : ∀ d ∈ more, d.l.length ≤ 10000) (hn : more.length ≤ 1000) :
    Calls Tryz.prog 21 #[bunV id (.slice A l.length c) tag (.slice Am more.length cm)] w fun e w' => e = .returned (.int .i64 (mostL ⟨id, l, tag⟩ (more.map TokA.plain))) ∧ Ext w w' := by
  obtain ⟨W0, hW0, E0, B1, P1⟩ := most_boxes w (.string (ofL id)) (.slice A l.length c) (.string (ofL tag)) (.slice Am more.length cm)
  have HW := Kp.mk hW0
  have HM := Kp.mk hm; have HML := Kp.mk hml
  have hne : ∀ {l : List LinkL} {A : Option Addr} {n c : Nat}, RdLinks w w.heap.size (.slice A n c) l → 0 < l.length → ∀ b o, A = some ⟨b, o, none⟩ → b ≠ w.heap.size + 1 := fun h h0 b o e => by
    obtain ⟨b', o', e2, hb, _⟩ := RdLinks.link h h0
    rw [e] at e2; cases e2; omega
  have HNE := Kp.mk (fun (d : TokA) (hd : d ∈ more) => hne (hm.2 d hd))
  have cC := Kp.mk (mostc_any id tag A c l (w.heap.size + 1) 0 W0 (rd_at hl E0) P1 (hne hl) (by omega) hln)
  have hT0 : mostT ⟨id, l, tag⟩ ≤ 20001 := by have := mostT_le ⟨id, l, tag⟩; dsimp only at this; omega
  rw [Nat.zero_add] at cC
  rw [mostS_all]
  obtain ⟨T0, hTe⟩ : ∃ T0, mostT ⟨id, l, tag⟩ = T0 := ⟨_, rfl⟩
  rw [hTe] at cC hT0 ⊢
  unfold tokV at cC
  unfold bunV
  have b0 := B1.cell 0; have b1 := B1.cell 1; have b2 := B1.cell 2
  simp only [List.getElem?_cons_zero, List.getElem?_cons_succ] at b0 b1 b2
  clear hW0 hl hm hml hne hTe P1
  go_enter Tryz.func21, Tryz.ntmps21
  go_upto_region 2 with fail
  rw [HW.out]
  clear HW
  go_wp2_with fail
  refine cC.out.mono ?_
  rintro e w1 ⟨rfl, hg, hA⟩
  have F1 : Ext w w1 := E0.gr hg (fun k hk => by cases hk; omega)
  have B2 := arr_kept B1 hg (fun r e => by cases e; omega)
  clear cC b0 b1 b2 B1 hg E0
  have b3 := B2.cell 3
  simp only [List.getElem?_cons_zero, List.getElem?_cons_succ] at b3
  go_wp2_with fail
  go_loopw [15] (fun i wr => ∃ (j n : Nat), j ≤ more.length ∧ i = .int .i64 j ∧ n = T0 + mostS (more.take j) ∧ n ≤ 20002 * (j + 1) ∧ Ext w wr ∧ Arr wr w.heap.size 41 [.string (ofL id), .slice A l.length c, .string (ofL tag), .slice Am more.length cm] ∧ Arr wr (w.heap.size + 1) 3 [.int .i64 n]) (fun i _ => more.length - (intOf i).toNat)
  case atStart => exact ⟨0, T0, by omega, rfl, by simp [mostS], by omega, F1, B2, hA⟩
  case round =>
    clear F1 B2 hA b3
    obtain ⟨j, n, hj, rfl, hn0, hnb, hE, hB, hA⟩ := hrel
    by_cases hlt : j < more.length
    · obtain ⟨bm, om, rfl, -, hcm⟩ := HM.out.tok j hlt
      obtain ⟨d, hd⟩ : ∃ d, more[j] = d := ⟨_, rfl⟩
      have hdm : d ∈ more := by rw [← hd]; exact List.getElem_mem hlt
      have hs := Kp.mk (mostS_take more j hlt)
      rw [hd] at hs hcm
      have hdl := HML.out d hdm
      obtain ⟨di, dt, dA, dc, dl⟩ := d
      dsimp only at hdl
      obtain ⟨c0, c1, c2⟩ := hcm wr hE
      dsimp only at c0 c1 c2
      have hT1 : mostT (TokA.plain ⟨di, dt, dA, dc, dl⟩) ≤ 20001 := by have := mostT_le (TokA.plain ⟨di, dt, dA, dc, dl⟩); have h2 : (TokA.plain ⟨di, dt, dA, dc, dl⟩).links.length = dl.length := rfl; omega
      obtain ⟨W3, hW3, E3, B3⟩ := tokbox wr (.string (ofL di)) (.slice dA dl.length dc) (.string (ofL dt))
      have HW3 := Kp.mk hW3
      have F3 := hE.tr E3
      have A3 := hA.ext E3 hA.lt
      have C3 := hB.ext E3 hB.lt
      have cC := Kp.mk (mostc_any di dt dA dc dl (w.heap.size + 1) n W3 (rd_at (HM.out.2 _ hdm) F3) A3 (HNE.out _ hdm) (by omega) hdl)
      obtain ⟨T1, hTe⟩ : ∃ T1, mostT (TokA.plain ⟨di, dt, dA, dc, dl⟩) = T1 := ⟨_, rfl⟩
      rw [hTe] at hs hT1
      rw [show mostT ⟨di, dl, dt⟩ = T1 from hTe] at cC
      unfold tokV at cC
      have HN0 := Kp.mk hn0
      have hp3 := hA.lt
      clear hcm hd hdm hW3 E3 hE hA hB hTe hn0
      go_upto_region 7 with fail
      rw [HW3.out]
      clear HW3 c0 c1 c2
      have r0 := B3.cell 0; have r1 := B3.cell 1; have r2 := B3.cell 2
      simp only [List.getElem?_cons_zero, List.getElem?_cons_succ] at r0 r1 r2
      go_wp2_with fail
      refine cC.out.mono ?_
      rintro e w4 ⟨rfl, hg4, hA4⟩
      have F4 : Ext w w4 := F3.gr hg4 (fun k hk => by cases hk; omega)
      have C4 := arr_kept C3 hg4 (fun r e => by cases e; omega)
      clear r0 r1 r2 B3 C3 A3 F3 hg4 cC
      have p0 := hA4.cell 0; have z0 := hA4.frozen 0
      simp only [List.getElem?_cons_zero] at p0
      go_wp2
      go_roundw
      case rel => exact ⟨j + 1, n + T1 + 1, by omega, by go_num, by rw [HN0.out, hs.out]; omega, by omega, F4.st (p := ⟨w.heap.size + 1, 0, none⟩) (by show w.heap.size ≤ w.heap.size + 1; omega) _, C4.other _ (by omega), hA4.set 0 (.int .i64 (((n + T1 : Nat) : Int) + 1))⟩
      case measure => simp [intOf]; omega
    · have ht : more.take j = more := List.take_of_length_le (by omega)
      rw [ht] at hn0
      have p0 := hA.cell 0
      simp only [List.getElem?_cons_zero] at p0
      clear ht hA hB
      rw [hn0] at p0
      go_wp2
      go_ret
      exact ⟨rfl, hE⟩

def mostR (l : List TokA) : Nat := (l.map fun d => mostT d.plain).sum
theorem mostR_take (l : List TokA) (k : Nat) (h : k < l.length) : mostR (l.take (k + 1)) = mostR (l.take k) + mostT l[k].plain := by
  rw [List.take_succ_eq_append_getElem h]
  unfold mostR
  rw [List.map_append, List.sum_append, List.map_singleton, List.sum_singleton]
theorem mostR_S : ∀ l : List TokA, mostS l = mostR l + l.length
  | [] => rfl
  | d :: l => by
    have := mostR_S l
    unfold mostS mostR at *
    rw [List.map_cons, List.sum_cons, List.map_cons, List.sum_cons, List.length_cons]
    omega
theorem mostR_all (t : TokA) (l : List TokA) : mostL t.plain (l.map TokA.plain) = l.length + mostR (t :: l) := by
  rw [mostS_all, mostR_S]
  unfold mostR
  rw [List.map_cons, List.sum_cons]
  omega
set_option maxRecDepth 100000 in
set_option maxHeartbeats 4000000 in
theorem rmost_any (id tag : List UInt8) (A : Option Addr) (c : Nat) (l : List LinkL) (Am : Option Addr) (cm : Nat) (more : List TokA) (w : World) (hl : RdLinks w w.heap.size (.slice A l.length c) l) (hm : RdToks w w.heap.size (.slice Am more.length cm) more) (hln : l.length ≤ 10000) (hml : ∀ d ∈ more, d.l.length ≤ 10000) (hn : more.length ≤ 1000) :
    Calls Tryz.prog 22 #[bunV id (.slice A l.length c) tag (.slice Am more.length cm)] w fun e w' => e = .returned (.int .i64 (mostL ⟨id, l, tag⟩ (more.map TokA.plain))) ∧ Ext w w' := by
  obtain ⟨W0, hW0, E0, B1⟩ := bun_box w (.string (ofL id)) (.slice A l.length c) (.string (ofL tag)) (.slice Am more.length cm)
  have HW := Kp.mk hW0
  obtain ⟨all, hall⟩ : ∃ all : List TokA, (⟨id, tag, A, c, l⟩ : TokA) :: more = all := ⟨_, rfl⟩
  have hal : all.length = more.length + 1 := by rw [← hall]; rfl
  have HAL := Kp.mk (show ∀ d ∈ all, d.l.length ≤ 10000 from fun d hd => by
    rw [← hall] at hd
    rcases List.mem_cons.1 hd with rfl | hd
    · exact hln
    · exact hml d hd)
  have HAR := Kp.mk (show ∀ d ∈ all, RdLinks w w.heap.size (.slice d.A d.l.length d.c) d.l from fun d hd => by
    rw [← hall] at hd
    rcases List.mem_cons.1 hd with rfl | hd
    · exact hl
    · exact hm.2 d hd)
  have HM := Kp.mk hm
  have hres := mostR_all ⟨id, tag, A, c, l⟩ more
  rw [hall] at hres
  rw [show mostL ⟨id, l, tag⟩ (more.map TokA.plain) = _ from hres]
  have HALL := Kp.mk hall
  have b0 := B1.cell 0; have b1 := B1.cell 1; have b2 := B1.cell 2; have b3 := B1.cell 3
  simp only [List.getElem?_cons_zero, List.getElem?_cons_succ] at b0 b1 b2 b3
  unfold bunV
  clear hW0 hl hm hml hln hres hall
  go_enter Tryz.func22, Tryz.ntmps22
  go_upto_region 2 with fail
  rw [HW.out]
  clear HW
  have hs0 := E0.size
  obtain ⟨W1, hW1⟩ : ∃ W1 : World, W1 = W0.alloc (.cells #[.string (ofL id), .slice A l.length c, .string (ofL tag)] 33) := ⟨_, rfl⟩
  have E1 : Ext W0 W1 := by rw [hW1]; exact (Ext.rfl' W0).al _
  have B2 := B1.ext E1 B1.lt
  have O1 : W1.ownsRow w.heap.size 33 3 (.slice (some ⟨W0.heap.size, 0, none⟩) 1 1) 1 [.string (ofL id), .slice A l.length c, .string (ofL tag)] := by rw [hW1]; exact World.ownsRow_lit W0 #[.string (ofL id), .slice A l.length c, .string (ofL tag)] 1 hs0 (by decide) rfl
  have F1 := E0.tr E1
  have R1 := (HM.out.at F1).1
  have hs1 := F1.size
  have hb3 : W1.cell? ⟨w.heap.size, 3, none⟩ = some (.slice Am more.length cm) := by
    have h := B2.cell 3
    simpa only [List.getElem?_cons_zero, List.getElem?_cons_succ] using h
  rw [hW1] at O1 R1 hb3 hs1 F1
  go_upto_region 3 with (at_builtin; refine wpl_app_rd Tryz.elemTok rfl _ _ rfl O1 rfl rfl R1 (oneCell_toks more) (by omega) (by omega) hs1 ?_; intro v2 w2 own2 hg2; obtain ⟨A2, c2, hv2⟩ := own_slice own2; subst hv2; have F2 := F1.own hg2 O1 (Nat.le_refl _); have O2 := own_eq own2 (show _ = toksCells all by rw [← HALL.out]; rfl) (show 1 + more.length = all.length by omega); clear own2 hg2 O1 R1 hb3 F1 b0 b1 b2 b3)
  go_wp2_with fail
  go_loopw [5, 3] (fun i nv wr => ∃ (j n : Nat), j ≤ all.length ∧ i = .int .i64 j ∧ nv = .int .i64 n ∧ n = more.length + mostR (all.take j) ∧ n ≤ 1000 + 20002 * j ∧ Ext w wr ∧ wr.ownsRow w.heap.size 33 3 (.slice A2 (1 + more.length) c2) all.length (toksCells all)) (fun i _ _ => all.length - (intOf i).toNat)
  case atStart => exact ⟨0, more.length, by omega, rfl, rfl, by simp [mostR], by omega, F2, O2⟩
  case round =>
    clear F2 O2
    obtain ⟨j, n, hj, rfl, rfl, hn0, hnb, hE, hO⟩ := hrel
    have HN0 := Kp.mk hn0
    clear hn0
    by_cases hlt : j < all.length
    · obtain ⟨g2, rfl⟩ : ∃ g2, A2 = some ⟨g2, 0, none⟩ := by
        rcases hO.2 with ⟨h, _⟩ | ⟨g2, cap, cur, h, _⟩
        · injection h with h1 h2 h3
          omega
        · injection h with h1 h2 h3
          exact ⟨g2, h1⟩
      have hsl : (1 + more.length) = all.length := by omega
      have hO2 := hO
      rw [hsl] at hO2
      have r1 := hO2.cellAt (j * 3 + 1) (by omega)
      rw [(toksCells_get all j hlt).2.1] at r1
      obtain ⟨d, hd⟩ : ∃ d, all[j] = d := ⟨_, rfl⟩
      have hdm : d ∈ all := by rw [← hd]; exact List.getElem_mem hlt
      have hs := Kp.mk (mostR_take all j hlt)
      rw [hd] at hs r1
      have hdl := HAL.out d hdm
      have hdr := HAR.out d hdm
      obtain ⟨di, dt, dA, dc, dl⟩ := d
      dsimp only at hdl hdr r1
      obtain ⟨nd, hnd⟩ : ∃ nd, dl.length = nd := ⟨_, rfl⟩
      rw [hnd] at hdr r1 hdl
      have HC := Kp.mk (show 0 < nd → ∃ b off, dA = some ⟨b, off, none⟩ ∧ ∀ q (hq : q < dl.length), wr.cell? ⟨b, off + q * 2 + 1, none⟩ = some (.string (ofL dl[q].2)) from fun h0 => by
        obtain ⟨b, off, h1, hb, hc⟩ := RdLinks.link hdr (by omega)
        exact ⟨b, off, h1, fun q hq => ((bcell hE).1 b _ hb).trans (hc q hq).2⟩)
      have HND := Kp.mk hnd
      have hj2 : j < 1 + more.length := by omega
      clear hO2 hd hdm hdr hnd
      go_wp2_with fail
      go_loopw [6, 3] (fun i nv wv => ∃ (q m : Nat), wv = wr ∧ q ≤ nd ∧ i = .int .i64 q ∧ nv = .int .i64 m ∧ m = n + 1 + nd + sealed (dl.take q)) (fun i _ _ => nd - (intOf i).toNat)
      case atStart => exact ⟨0, n + 1 + nd, rfl, by omega, rfl, by go_num, by simp [sealed]⟩
      case round =>
        obtain ⟨q, m, hwv, hq, rfl, rfl, hm0⟩ := hrel
        subst hwv
        have hsl2 := sealed_le (dl.take q)
        rw [List.length_take] at hsl2
        have HM0 := Kp.mk hm0
        by_cases hqn : q < nd
        · obtain ⟨b, off, rfl, hc⟩ := HC.out (by omega)
          have hql : q < dl.length := by rw [HND.out]; exact hqn
          have q2 := hc q hql
          have hst := Kp.mk (sealed_take dl q hql)
          obtain ⟨⟨xa, xb⟩, hx⟩ : ∃ x, dl[q] = x := ⟨_, rfl⟩
          rw [hx] at q2 hst
          clear hc hx hm0
          by_cases hxb : xb = []
          · subst hxb
            have hs2 := hst.out
            rw [if_pos rfl] at hs2
            have HS := Kp.mk hs2
            clear hst hs2
            go_wp2
            go_roundw
            case rel => exact ⟨q + 1, m, trivial, by omega, by go_num, rfl, by rw [HS.out, HM0.out]; omega⟩
            case measure => simp [intOf]; omega
          · have dz : xb.isEmpty = false := isEmpty_ne hxb
            have hs2 := hst.out
            rw [if_neg hxb] at hs2
            have HS := Kp.mk hs2
            have hmb : m ≤ 100000000 := by rw [HM0.out]; omega
            clear hst hs2
            go_wp2
            go_roundw
            case rel => exact ⟨q + 1, m + 1, trivial, by omega, by go_num, by go_num, by rw [HS.out, HM0.out]; omega⟩
            case measure => simp [intOf]; omega
        · have ht : dl.take q = dl := List.take_of_length_le (by rw [HND.out]; omega)
          rw [ht] at hm0
          have hms := sealed_le dl
          rw [HND.out] at hms
          have HR := Kp.mk (show m = more.length + mostR (all.take (j + 1)) by
            rw [hs.out, hm0, HN0.out]
            show _ = more.length + (_ + mostT ⟨di, dl, dt⟩)
            unfold mostT
            dsimp only
            rw [HND.out]
            omega)
          have hmb : m ≤ 1000 + 20002 * (j + 1) := by omega
          clear ht hm0 HM0 hms
          go_wp2
          go_roundw
          case rel => exact ⟨j + 1, m, by omega, by go_num, rfl, HR.out, hmb, hE, hO⟩
          case measure => simp [intOf]; omega
    · have ht : all.take j = all := List.take_of_length_le (by omega)
      have hn1 := HN0.out
      rw [ht] at hn1
      have hj2 : ¬ j < 1 + more.length := by omega
      clear ht hO
      go_wp2
      rw [← hn1]
      go_ret
      exact ⟨rfl, hE⟩
end Go.Proofs.YtejhiekikblbiaaGreatDoor
