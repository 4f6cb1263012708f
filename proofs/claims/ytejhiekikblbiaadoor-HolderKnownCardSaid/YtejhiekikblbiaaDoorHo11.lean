/-
  Chapter 35's laws: HolderBinds returns true. Condition: the package's table holds the constants.
-/
import Derived.Test.YtejhiekikblbiaaDoorHo10
namespace Go.Proofs.YtejhiekikblbiaaDoor
open Go.RowKit Go.ChangeShapes Go.WideShapes Go.Deep

set_option maxRecDepth 100000 in
set_option maxHeartbeats 4000000 in
theorem holderBinds_walk (id tag : List UInt8) (A : Option Addr) (c : Nat) (l : List LinkL) (vd : Value) (ds : List TokA) (w : World) (hT : Tab w) (hl : RdLinks w w.heap.size (.slice A l.length c) l) (hd : RdToks w w.heap.size vd ds) :
    Calls Tryd.prog 3 #[tokV id (.slice A l.length c) tag, vd] w fun e w' => e = .returned (.bool true) ∧ Ext w w' := by
  have cW := Kp.mk howorks_any
  have HL := Kp.mk hl
  obtain ⟨Ad, cd, rfl, hdm, hcells⟩ := hd.cells
  have HD := Kp.mk hd
  have HC := Kp.mk hcells
  obtain ⟨W0, hW0, E0, B1⟩ := tok_box w (.string (ofL id)) (.slice A l.length c) (.string (ofL tag))
  obtain ⟨b, hb, hgr⟩ := great35_det id tag l
  have cG := Kp.mk (hgr (.slice A l.length c) W0 (rd_at HL.out E0))
  have HW := Kp.mk hW0
  clear hl hd hcells hW0 hgr
  unfold tokV at *
  go_enter Tryd.func3, Tryd.ntmps3
  go_wp2_with fail
  rw [HW.out]
  refine cG.out.mono ?_
  rintro e w1 ⟨rfl, E1⟩
  have F1 := E0.tr E1
  have C1 := B1.ext E1 B1.lt
  clear B1 E0 E1 HW cG
  cases b with
  | true =>
    go_wp2_with fail
    refine (cW.out _ (hT.ext F1)).mono ?_
    rintro e w9 ⟨rfl, E9⟩
    go_wp2
    go_ret
    exact ⟨rfl, F1.tr E9⟩
  | false =>
    have HS := Kp.mk (hb rfl)
    have htl := HS.out.2.1
    have hll := HS.out.2.2.1
    clear hb
    by_cases g1 : 10 < ds.length
    · go_wp2_with fail
      refine (cW.out _ (hT.ext F1)).mono ?_
      rintro e w9 ⟨rfl, E9⟩
      go_wp2
      go_ret
      exact ⟨rfl, F1.tr E9⟩
    · go_wp2_with fail
      go_loopw [5] (fun i wr => ∃ k : Nat, k ≤ ds.length ∧ i = .int .i64 k ∧ Ext w wr ∧ Arr wr w.heap.size 24 [.string (ofL id), .slice A l.length c, .string (ofL tag)] ∧ (∀ d ∈ ds.take k, Small d.id d.tag d.l)) (fun i _ => ds.length - (intOf i).toNat)
      case atStart => exact ⟨0, by omega, rfl, F1, C1, by simp⟩
      case round =>
        clear F1 C1
        obtain ⟨k, hk, rfl, hE, hA, hsm0⟩ := hrel
        have hsm := Kp.mk hsm0
        clear hsm0
        by_cases hlt : k < ds.length
        · obtain ⟨bd, od, rfl, hbd, hc⟩ := HC.out (by omega)
          obtain ⟨d, hd⟩ : ∃ d, ds[k] = d := ⟨_, rfl⟩
          have q := Kp.mk (show ∀ W, Ext w W → W.cell? ⟨bd, od + k * 3, none⟩ = some (.string (ofL d.id)) ∧ W.cell? ⟨bd, od + k * 3 + 1, none⟩ = some (.slice d.A d.l.length d.c) ∧ W.cell? ⟨bd, od + k * 3 + 2, none⟩ = some (.string (ofL d.tag)) from fun W hW => by
            have h := hc k hlt
            rw [hd] at h
            exact ⟨((bcell hW).1 bd _ hbd).trans h.1, ((bcell hW).1 bd _ hbd).trans h.2.1, ((bcell hW).1 bd _ hbd).trans h.2.2⟩)
          have hdm2 : d ∈ ds := by rw [← hd]; exact List.getElem_mem hlt
          have DL := Kp.mk (HD.out.2 d hdm2)
          obtain ⟨gd, hgd, hgc⟩ := great35_det d.id d.tag d.l
          have cD := Kp.mk (show ∀ W, Ext w W → _ from fun W hW => hgc (.slice d.A d.l.length d.c) W (rd_at DL.out hW))
          obtain ⟨dl, hdl⟩ : ∃ dl, d.l.length = dl := ⟨_, rfl⟩
          have htk := Kp.mk (show Small d.id d.tag d.l → ∀ x ∈ ds.take (k + 1), Small x.id x.tag x.l from fun h x hx => by
            rw [take_snoc ds k hlt, hd] at hx
            rcases List.mem_append.1 hx with hx | hx
            · exact hsm.out x hx
            · rw [List.mem_singleton.1 hx]; exact h)
          unfold tokV at cD
          rw [hdl] at q cD DL
          have HDL := Kp.mk hdl
          clear hc hd hdm2 hgc hdl hsm
          cases gd with
          | true =>
            go_upto_region 6 with fail
            refine wp_region_locals (fun i v W => match i with
              | 0 => v = .slice (some ⟨bd, od, none⟩) ds.length cd
              | 1 => v = .int .i64 k
              | 2 => v = .pointer (some ⟨bd, od + k * 3, none⟩)
              | 3 => v = .agg #[.string (ofL d.id), .slice d.A dl d.c, .string (ofL d.tag)]
              | 4 => v = .bool true
              | 5 => v = .bool true
              | 6 => v = undef
              | 7 => v = undef
              | 8 => v = undef
              | 9 => v = undef
              | 10 => v = undef
              | 11 => v = undef
              | 12 => v = undef
              | 13 => v = undef
              | 14 => v = undef
              | 15 => v = undef
              | 16 => v = undef
              | 17 => v = undef
              | 18 => v = undef
              | 19 => v = undef
              | 20 => v = .bool true
              | _ => True) (by kernel_rfl) (by kernel_rfl) (by kernel_rfl) ?_ ?_ ?_
            · intro i v W1 W2 e1 e2 h
              match i, h with
              | 0, h => exact h
              | 1, h => exact h
              | 2, h => exact h
              | 3, h => exact h
              | 4, h => exact h
              | 5, h => exact h
              | 6, h => exact h
              | 7, h => exact h
              | 8, h => exact h
              | 9, h => exact h
              | 10, h => exact h
              | 11, h => exact h
              | 12, h => exact h
              | 13, h => exact h
              | 14, h => exact h
              | 15, h => exact h
              | 16, h => exact h
              | 17, h => exact h
              | 18, h => exact h
              | 19, h => exact h
              | 20, h => exact h
              | (i + 21), h => exact h
            · refine locals_cons (fun u W hW hd => leaves_val rfl (v := .slice (some ⟨bd, od, none⟩) ds.length cd) (by go_simp) rfl) ?_
              refine locals_cons (fun u W hW hd => leaves_val rfl (v := .int .i64 k) (by go_simp) rfl) ?_
              refine locals_cons (fun u W hW hd => ?_) ?_
              · have h0 : u 0 = _ := hd 0 (by kernel_rfl)
                have h1 : u 1 = _ := hd 1 (by kernel_rfl)
                exact leaves_val rfl (v := .pointer (some ⟨bd, od + k * 3, none⟩)) (by go_simp) rfl
              refine locals_cons (fun u W hW hd => ?_) ?_
              · have h2 : u 2 = _ := hd 2 (by kernel_rfl)
                obtain ⟨r0, r1, r2⟩ := q.out W (hE.tr hW)
                exact leaves_val rfl (v := .agg #[.string (ofL d.id), .slice d.A dl d.c, .string (ofL d.tag)]) (by go_simp) rfl
              refine locals_cons (fun u W hW hd => ?_) ?_
              · have h3 : u 3 = _ := hd 3 (by kernel_rfl)
                exact leaves_call rfl (f := 11) (args := #[.agg #[.string (ofL d.id), .slice d.A dl d.c, .string (ofL d.tag)]]) (by go_simp) ((cD.out W (hE.tr hW)).mono (by rintro e9 W9 ⟨rfl, h9⟩; exact ⟨_, rfl, h9, rfl⟩))
              refine locals_cons (fun u W hW hd => ?_) ?_
              · have h4 : u 4 = _ := hd 4 (by kernel_rfl)
                exact leaves_val rfl (v := .bool true) (by go_simp) rfl
              refine locals_cons (fun u W hW hd => ?_) ?_
              · have h5 : u 5 = _ := hd 5 (by kernel_rfl)
                exact .inr ⟨by simp [Region.wanted, yielded, go_sem, h5], rfl⟩
              refine locals_cons (fun u W hW hd => ?_) ?_
              · have h5 : u 5 = _ := hd 5 (by kernel_rfl)
                exact .inr ⟨by simp [Region.wanted, yielded, go_sem, h5], rfl⟩
              refine locals_cons (fun u W hW hd => ?_) ?_
              · have h5 : u 5 = _ := hd 5 (by kernel_rfl)
                exact .inr ⟨by simp [Region.wanted, yielded, go_sem, h5], rfl⟩
              refine locals_cons (fun u W hW hd => ?_) ?_
              · have h5 : u 5 = _ := hd 5 (by kernel_rfl)
                exact .inr ⟨by simp [Region.wanted, yielded, go_sem, h5], rfl⟩
              refine locals_cons (fun u W hW hd => ?_) ?_
              · have h5 : u 5 = _ := hd 5 (by kernel_rfl)
                exact .inr ⟨by simp [Region.wanted, yielded, go_sem, h5], rfl⟩
              refine locals_cons (fun u W hW hd => ?_) ?_
              · have h5 : u 5 = _ := hd 5 (by kernel_rfl)
                exact .inr ⟨by simp [Region.wanted, yielded, go_sem, h5], rfl⟩
              refine locals_cons (fun u W hW hd => ?_) ?_
              · have h5 : u 5 = _ := hd 5 (by kernel_rfl)
                exact .inr ⟨by simp [Region.wanted, yielded, go_sem, h5], rfl⟩
              refine locals_cons (fun u W hW hd => ?_) ?_
              · have h5 : u 5 = _ := hd 5 (by kernel_rfl)
                exact .inr ⟨by simp [Region.wanted, yielded, go_sem, h5], rfl⟩
              refine locals_cons (fun u W hW hd => ?_) ?_
              · have h5 : u 5 = _ := hd 5 (by kernel_rfl)
                exact .inr ⟨by simp [Region.wanted, yielded, go_sem, h5], rfl⟩
              refine locals_cons (fun u W hW hd => ?_) ?_
              · have h5 : u 5 = _ := hd 5 (by kernel_rfl)
                exact .inr ⟨by simp [Region.wanted, yielded, go_sem, h5], rfl⟩
              refine locals_cons (fun u W hW hd => ?_) ?_
              · have h5 : u 5 = _ := hd 5 (by kernel_rfl)
                exact .inr ⟨by simp [Region.wanted, yielded, go_sem, h5], rfl⟩
              refine locals_cons (fun u W hW hd => ?_) ?_
              · have h5 : u 5 = _ := hd 5 (by kernel_rfl)
                exact .inr ⟨by simp [Region.wanted, yielded, go_sem, h5], rfl⟩
              refine locals_cons (fun u W hW hd => ?_) ?_
              · have h5 : u 5 = _ := hd 5 (by kernel_rfl)
                exact .inr ⟨by simp [Region.wanted, yielded, go_sem, h5], rfl⟩
              refine locals_cons (fun u W hW hd => ?_) ?_
              · have h5 : u 5 = _ := hd 5 (by kernel_rfl)
                exact .inr ⟨by simp [Region.wanted, yielded, go_sem, h5], rfl⟩
              refine locals_cons (fun u W hW hd => ?_) locals_nil
              · have h5 : u 5 = _ := hd 5 (by kernel_rfl)
                have h19 : u 19 = _ := hd 19 (by kernel_rfl)
                exact leaves_val rfl (v := .bool true) (by go_simp) rfl
            · intro u W hW hV
              have h20 : u 20 = .bool true := hV 20 (by decide)
              clear hV
              have F1 := hE.tr hW
              obtain ⟨r0, r1, r2⟩ := q.out W F1
              clear hW hE hA q
              go_simp
              go_wp2_with fail
              refine (cD.out _ F1).mono ?_
              rintro e w3 ⟨rfl, E3⟩
              have F3 := F1.tr E3
              clear r0 r1 r2 F1 E3
              go_wp2_with fail
              refine (cW.out _ (hT.ext F3)).mono ?_
              rintro e w9 ⟨rfl, E9⟩
              go_wp2
              go_ret
              exact ⟨rfl, F3.tr E9⟩
          | false =>
            have HSd := Kp.mk (hgd rfl)
            have hd1 := HSd.out.2.1
            have hd2 := HSd.out.2.2.1
            rw [HDL.out] at hd2
            have cH := Kp.mk (show ∀ W, Tab W → Ext w W → Calls Tryd.prog 14 #[.agg #[.string (ofL id), .slice A l.length c, .string (ofL tag)], .agg #[.string (ofL d.id), .slice d.A dl d.c, .string (ofL d.tag)]] W fun e w' => ∃ v, e = .returned v ∧ Ext W w' ∧ ∃ A8 c8, v = .agg #[.string (ofL d.id), .slice A8 dl c8, .string (ofL (bindL tag d.tag))] ∧ RdLinks w' w'.heap.size (.slice A8 dl c8) d.l from fun W h1 h2 => by
              have h := hobind_any id tag d.id d.tag A l.length c d.A d.c d.l W h1 (by rw [HDL.out]; exact rd_at DL.out h2) (by rw [HDL.out]; omega) (by omega) (by omega)
              unfold tokV at h
              rw [HDL.out] at h
              refine h.mono fun e w' ⟨v, h1, h2, h3⟩ => ?_
              obtain ⟨A8, c8, rfl⟩ := own_slice h2
              dsimp only at h1 h2
              rw [HDL.out] at h1 h2
              exact ⟨_, h1, h3, A8, c8, rfl, own_links h2 HDL.out.symm⟩)
            have cR := Kp.mk (fun W => rhobind_any id tag d.id d.tag A l.length c d.A dl d.c W (by omega) (by omega))
            have cS := Kp.mk (fun (A8 : Option Addr) (c8 : Nat) (W : World) (h1 : RdLinks W W.heap.size (.slice A8 dl c8) d.l) (h2 : Ext w W) => sameToken_any d.id (bindL tag d.tag) (.slice A8 dl c8) d.l d.id (bindL tag d.tag) (.slice d.A dl d.c) d.l W h1 (rd_at DL.out h2))
            rw [sameTok_self] at cS
            unfold tokV at cR cS
            obtain ⟨X, hX⟩ : ∃ X, bindL tag d.tag = X := ⟨_, rfl⟩
            rw [hX] at cH cR cS
            clear hX
            go_upto_region 6 with fail
            refine wp_region_locals (fun i v W => match i with
              | 0 => v = .slice (some ⟨bd, od, none⟩) ds.length cd
              | 1 => v = .int .i64 k
              | 2 => v = .pointer (some ⟨bd, od + k * 3, none⟩)
              | 3 => v = .agg #[.string (ofL d.id), .slice d.A dl d.c, .string (ofL d.tag)]
              | 4 => v = .bool false
              | 5 => v = .bool false
              | 6 => v = .agg #[.string (ofL id), .slice A l.length c, .string (ofL tag)]
              | 7 => v = .slice (some ⟨bd, od, none⟩) ds.length cd
              | 8 => v = .int .i64 k
              | 9 => v = .pointer (some ⟨bd, od + k * 3, none⟩)
              | 10 => v = .agg #[.string (ofL d.id), .slice d.A dl d.c, .string (ofL d.tag)]
              | 11 => ∃ A8 c8, v = .agg #[.string (ofL d.id), .slice A8 dl c8, .string (ofL X)] ∧ RdLinks W W.heap.size (.slice A8 dl c8) d.l
              | 12 => v = .agg #[.string (ofL id), .slice A l.length c, .string (ofL tag)]
              | 13 => v = .slice (some ⟨bd, od, none⟩) ds.length cd
              | 14 => v = .int .i64 k
              | 15 => v = .pointer (some ⟨bd, od + k * 3, none⟩)
              | 16 => v = .agg #[.string (ofL d.id), .slice d.A dl d.c, .string (ofL d.tag)]
              | 17 => v = .agg #[.string (ofL d.id), .slice d.A dl d.c, .string (ofL X)]
              | 18 => v = .bool true
              | 19 => v = .bool false
              | 20 => v = .bool false
              | _ => True) (by kernel_rfl) (by kernel_rfl) (by kernel_rfl) ?_ ?_ ?_
            · intro i v W1 W2 e1 e2 h
              match i, h with
              | 0, h => exact h
              | 1, h => exact h
              | 2, h => exact h
              | 3, h => exact h
              | 4, h => exact h
              | 5, h => exact h
              | 6, h => exact h
              | 7, h => exact h
              | 8, h => exact h
              | 9, h => exact h
              | 10, h => exact h
              | 11, ⟨A8, c8, h1, h2⟩ => exact ⟨A8, c8, h1, rd_at h2 e2⟩
              | 12, h => exact h
              | 13, h => exact h
              | 14, h => exact h
              | 15, h => exact h
              | 16, h => exact h
              | 17, h => exact h
              | 18, h => exact h
              | 19, h => exact h
              | 20, h => exact h
              | (i + 21), h => exact h
            · refine locals_cons (fun u W hW hd => leaves_val rfl (v := .slice (some ⟨bd, od, none⟩) ds.length cd) (by go_simp) rfl) ?_
              refine locals_cons (fun u W hW hd => leaves_val rfl (v := .int .i64 k) (by go_simp) rfl) ?_
              refine locals_cons (fun u W hW hd => ?_) ?_
              · have h0 : u 0 = _ := hd 0 (by kernel_rfl)
                have h1 : u 1 = _ := hd 1 (by kernel_rfl)
                exact leaves_val rfl (v := .pointer (some ⟨bd, od + k * 3, none⟩)) (by go_simp) rfl
              refine locals_cons (fun u W hW hd => ?_) ?_
              · have h2 : u 2 = _ := hd 2 (by kernel_rfl)
                obtain ⟨r0, r1, r2⟩ := q.out W (hE.tr hW)
                exact leaves_val rfl (v := .agg #[.string (ofL d.id), .slice d.A dl d.c, .string (ofL d.tag)]) (by go_simp) rfl
              refine locals_cons (fun u W hW hd => ?_) ?_
              · have h3 : u 3 = _ := hd 3 (by kernel_rfl)
                exact leaves_call rfl (f := 11) (args := #[.agg #[.string (ofL d.id), .slice d.A dl d.c, .string (ofL d.tag)]]) (by go_simp) ((cD.out W (hE.tr hW)).mono (by rintro e9 W9 ⟨rfl, h9⟩; exact ⟨_, rfl, h9, rfl⟩))
              refine locals_cons (fun u W hW hd => ?_) ?_
              · have h4 : u 4 = _ := hd 4 (by kernel_rfl)
                exact leaves_val rfl (v := .bool false) (by go_simp) rfl
              refine locals_cons (fun u W hW hd => ?_) ?_
              · have h5 : u 5 = _ := hd 5 (by kernel_rfl)
                have q0 := (hA.ext hW hA.lt).cell 0; have q1 := (hA.ext hW hA.lt).cell 1; have q2 := (hA.ext hW hA.lt).cell 2
                simp only [List.getElem?_cons_zero, List.getElem?_cons_succ] at q0 q1 q2
                exact leaves_val (by simp [Region.wanted, yielded, go_sem, h5]) (v := .agg #[.string (ofL id), .slice A l.length c, .string (ofL tag)]) (by go_simp) rfl
              refine locals_cons (fun u W hW hd => ?_) ?_
              · have h5 : u 5 = _ := hd 5 (by kernel_rfl)
                exact leaves_val (by simp [Region.wanted, yielded, go_sem, h5]) (v := .slice (some ⟨bd, od, none⟩) ds.length cd) (by go_simp) rfl
              refine locals_cons (fun u W hW hd => ?_) ?_
              · have h5 : u 5 = _ := hd 5 (by kernel_rfl)
                exact leaves_val (by simp [Region.wanted, yielded, go_sem, h5]) (v := .int .i64 k) (by go_simp) rfl
              refine locals_cons (fun u W hW hd => ?_) ?_
              · have h5 : u 5 = _ := hd 5 (by kernel_rfl)
                have h7 : u 7 = _ := hd 7 (by kernel_rfl)
                have h8 : u 8 = _ := hd 8 (by kernel_rfl)
                exact leaves_val (by simp [Region.wanted, yielded, go_sem, h5]) (v := .pointer (some ⟨bd, od + k * 3, none⟩)) (by go_simp) rfl
              refine locals_cons (fun u W hW hd => ?_) ?_
              · have h5 : u 5 = _ := hd 5 (by kernel_rfl)
                have h9 : u 9 = _ := hd 9 (by kernel_rfl)
                obtain ⟨r0, r1, r2⟩ := q.out W (hE.tr hW)
                exact leaves_val (by simp [Region.wanted, yielded, go_sem, h5]) (v := .agg #[.string (ofL d.id), .slice d.A dl d.c, .string (ofL d.tag)]) (by go_simp) rfl
              refine locals_cons (fun u W hW hd => ?_) ?_
              · have h5 : u 5 = _ := hd 5 (by kernel_rfl)
                have h6 : u 6 = _ := hd 6 (by kernel_rfl)
                have h10 : u 10 = _ := hd 10 (by kernel_rfl)
                exact leaves_call (by simp [Region.wanted, yielded, go_sem, h5]) (f := 14) (args := #[.agg #[.string (ofL id), .slice A l.length c, .string (ofL tag)], .agg #[.string (ofL d.id), .slice d.A dl d.c, .string (ofL d.tag)]]) (by go_simp) (cH.out W (hT.ext (hE.tr hW)) (hE.tr hW))
              refine locals_cons (fun u W hW hd => ?_) ?_
              · have h5 : u 5 = _ := hd 5 (by kernel_rfl)
                have q0 := (hA.ext hW hA.lt).cell 0; have q1 := (hA.ext hW hA.lt).cell 1; have q2 := (hA.ext hW hA.lt).cell 2
                simp only [List.getElem?_cons_zero, List.getElem?_cons_succ] at q0 q1 q2
                exact leaves_val (by simp [Region.wanted, yielded, go_sem, h5]) (v := .agg #[.string (ofL id), .slice A l.length c, .string (ofL tag)]) (by go_simp) rfl
              refine locals_cons (fun u W hW hd => ?_) ?_
              · have h5 : u 5 = _ := hd 5 (by kernel_rfl)
                exact leaves_val (by simp [Region.wanted, yielded, go_sem, h5]) (v := .slice (some ⟨bd, od, none⟩) ds.length cd) (by go_simp) rfl
              refine locals_cons (fun u W hW hd => ?_) ?_
              · have h5 : u 5 = _ := hd 5 (by kernel_rfl)
                exact leaves_val (by simp [Region.wanted, yielded, go_sem, h5]) (v := .int .i64 k) (by go_simp) rfl
              refine locals_cons (fun u W hW hd => ?_) ?_
              · have h5 : u 5 = _ := hd 5 (by kernel_rfl)
                have h13 : u 13 = _ := hd 13 (by kernel_rfl)
                have h14 : u 14 = _ := hd 14 (by kernel_rfl)
                exact leaves_val (by simp [Region.wanted, yielded, go_sem, h5]) (v := .pointer (some ⟨bd, od + k * 3, none⟩)) (by go_simp) rfl
              refine locals_cons (fun u W hW hd => ?_) ?_
              · have h5 : u 5 = _ := hd 5 (by kernel_rfl)
                have h15 : u 15 = _ := hd 15 (by kernel_rfl)
                obtain ⟨r0, r1, r2⟩ := q.out W (hE.tr hW)
                exact leaves_val (by simp [Region.wanted, yielded, go_sem, h5]) (v := .agg #[.string (ofL d.id), .slice d.A dl d.c, .string (ofL d.tag)]) (by go_simp) rfl
              refine locals_cons (fun u W hW hd => ?_) ?_
              · have h5 : u 5 = _ := hd 5 (by kernel_rfl)
                have h12 : u 12 = _ := hd 12 (by kernel_rfl)
                have h16 : u 16 = _ := hd 16 (by kernel_rfl)
                exact leaves_call (by simp [Region.wanted, yielded, go_sem, h5]) (f := 15) (args := #[.agg #[.string (ofL id), .slice A l.length c, .string (ofL tag)], .agg #[.string (ofL d.id), .slice d.A dl d.c, .string (ofL d.tag)]]) (by go_simp) ((cR.out W).mono (by rintro e9 W9 ⟨rfl, h9⟩; exact ⟨_, rfl, h9, rfl⟩))
              refine locals_cons (fun u W hW hd => ?_) ?_
              · have h5 : u 5 = _ := hd 5 (by kernel_rfl)
                have h11 := hd 11 (by kernel_rfl)
                have h17 : u 17 = _ := hd 17 (by kernel_rfl)
                obtain ⟨A8, c8, e11, hr11⟩ := h11
                exact leaves_call (by simp [Region.wanted, yielded, go_sem, h5]) (f := 13) (args := #[.agg #[.string (ofL d.id), .slice A8 dl c8, .string (ofL X)], .agg #[.string (ofL d.id), .slice d.A dl d.c, .string (ofL X)]]) (by go_simp) ((cS.out A8 c8 W hr11 (hE.tr hW)).mono (by rintro e9 W9 ⟨rfl, h9⟩; exact ⟨_, rfl, h9, rfl⟩))
              refine locals_cons (fun u W hW hd => ?_) ?_
              · have h5 : u 5 = _ := hd 5 (by kernel_rfl)
                have h18 : u 18 = _ := hd 18 (by kernel_rfl)
                exact leaves_val (by simp [Region.wanted, yielded, go_sem, h5]) (v := .bool false) (by go_simp) rfl
              refine locals_cons (fun u W hW hd => ?_) locals_nil
              · have h5 : u 5 = _ := hd 5 (by kernel_rfl)
                have h19 : u 19 = _ := hd 19 (by kernel_rfl)
                exact leaves_val rfl (v := .bool false) (by go_simp) rfl
            · intro u W hW hV
              have h20 : u 20 = .bool false := hV 20 (by decide)
              clear hV
              have F1 := hE.tr hW
              have A1 := hA.ext hW hA.lt
              clear hW hE hA q cH cR cS cD
              go_simp
              go_wp2
              go_roundw
              case rel => exact ⟨k + 1, by omega, by go_num, F1, A1, htk.out HSd.out⟩
              case measure => simp [intOf]; omega
        · have hk2 : ds.take k = ds := List.take_of_length_le (by omega)
          have hsa := hsm.out
          rw [hk2] at hsa
          obtain ⟨X, hX⟩ : ∃ X : List TokL, (ds.map TokA.plain).map (bindT ⟨id, l, tag⟩) = X := ⟨_, rfl⟩
          have cB := Kp.mk (show ∀ W, Tab W → Ext w W → Calls Tryd.prog 17 #[.agg #[.string (ofL id), .slice A l.length c, .string (ofL tag)], .slice Ad ds.length cd] W fun e w' => ∃ v, e = .returned v ∧ Ext W w' ∧ ∃ vl vm ts, v = .agg #[.string (ofL id), vl, .string (ofL tag), vm] ∧ RdLinks w' w'.heap.size vl l ∧ RdToks w' w'.heap.size vm ts ∧ ts.map TokA.plain = X from fun W h1 h2 =>
            (hobundle_any id tag A c l (.slice Ad ds.length cd) ds W h1 (rd_at HL.out h2) (HD.out.at h2) (by omega) (by omega) (fun d hd => ⟨by have := (hsa d hd).2.2.1; omega, by have := (hsa d hd).2.1; omega⟩) (by omega)).mono
              fun e w' ⟨vl, vm, ts, h1, h2, h3, h4, h5⟩ => ⟨_, h1, h5, vl, vm, ts, rfl, h2, h3, h4.trans hX⟩)
          have cR := Kp.mk (show ∀ W, Ext w W → Calls Tryd.prog 18 #[.agg #[.string (ofL id), .slice A l.length c, .string (ofL tag)], .slice Ad ds.length cd] W fun e w' => ∃ v, e = .returned v ∧ Ext W w' ∧ ∃ vl vm ts, v = .agg #[.string (ofL id), vl, .string (ofL tag), vm] ∧ RdLinks w' w'.heap.size vl l ∧ RdToks w' w'.heap.size vm ts ∧ ts.map TokA.plain = X from fun W h2 =>
            (rhobundle_any id tag A c l (.slice Ad ds.length cd) ds W (rd_at HL.out h2) (HD.out.at h2) (by omega) (fun d hd => by have := (hsa d hd).2.1; omega) (by omega)).mono
              fun e w' ⟨vl, vm, ts, h1, h2, h3, h4, h5⟩ => ⟨_, h1, h5, vl, vm, ts, rfl, h2, h3, h4.trans hX⟩)
          have cS := Kp.mk (show ∀ (v1 m1 v2 m2 : Value) (ts1 ts2 : List TokA) (W : World), RdLinks W W.heap.size v1 l → RdLinks W W.heap.size v2 l → RdToks W W.heap.size m1 ts1 → RdToks W W.heap.size m2 ts2 → ts1.map TokA.plain = X → ts2.map TokA.plain = X → Calls Tryd.prog 16 #[.agg #[.string (ofL id), v1, .string (ofL tag), m1], .agg #[.string (ofL id), v2, .string (ofL tag), m2]] W fun e w' => e = .returned (.bool true) ∧ Ext W w' from fun v1 m1 v2 m2 ts1 ts2 W a1 a2 a3 a4 a5 a6 =>
            (sameBundle_any id tag id tag v1 v2 m1 m2 l l ts1 ts2 W a1 a2 a3 a4).mono fun e w' ⟨b, h1, h2, h3⟩ => ⟨by rw [h1, h2.2 ⟨rfl, a5.trans a6.symm⟩], h3⟩)
          clear hk2 hsa hX hsm
          go_upto_region 8 with fail
          refine wp_region_locals (fun i v W => match i with
            | 0 => v = .agg #[.string (ofL id), .slice A l.length c, .string (ofL tag)]
            | 1 => v = .slice Ad ds.length cd
            | 2 => ∃ vl vm ts, v = .agg #[.string (ofL id), vl, .string (ofL tag), vm] ∧ RdLinks W W.heap.size vl l ∧ RdToks W W.heap.size vm ts ∧ ts.map TokA.plain = X
            | 3 => v = .agg #[.string (ofL id), .slice A l.length c, .string (ofL tag)]
            | 4 => v = .slice Ad ds.length cd
            | 5 => ∃ vl vm ts, v = .agg #[.string (ofL id), vl, .string (ofL tag), vm] ∧ RdLinks W W.heap.size vl l ∧ RdToks W W.heap.size vm ts ∧ ts.map TokA.plain = X
            | 6 => v = .bool true
            | 7 => v = .bool true
            | 8 => v = .bool true
            | 9 => v = .bool true
            | 10 => v = .bool true
            | _ => True) (by kernel_rfl) (by kernel_rfl) (by kernel_rfl) ?_ ?_ ?_
          · intro i v W1 W2 e1 e2 h
            match i, h with
            | 0, h => exact h
            | 1, h => exact h
            | 2, ⟨vl, vm, ts, h1, h2, h3, h4⟩ => exact ⟨vl, vm, ts, h1, rd_at h2 e2, h3.at e2, h4⟩
            | 3, h => exact h
            | 4, h => exact h
            | 5, ⟨vl, vm, ts, h1, h2, h3, h4⟩ => exact ⟨vl, vm, ts, h1, rd_at h2 e2, h3.at e2, h4⟩
            | 6, h => exact h
            | 7, h => exact h
            | 8, h => exact h
            | 9, h => exact h
            | 10, h => exact h
            | (i + 11), h => exact h
          · refine locals_cons (fun u W hW hd => ?_) ?_
            · have q0 := (hA.ext hW hA.lt).cell 0; have q1 := (hA.ext hW hA.lt).cell 1; have q2 := (hA.ext hW hA.lt).cell 2
              simp only [List.getElem?_cons_zero, List.getElem?_cons_succ] at q0 q1 q2
              exact leaves_val rfl (v := .agg #[.string (ofL id), .slice A l.length c, .string (ofL tag)]) (by go_simp) rfl
            refine locals_cons (fun u W hW hd => leaves_val rfl (v := .slice Ad ds.length cd) (by go_simp) rfl) ?_
            refine locals_cons (fun u W hW hd => ?_) ?_
            · have h0 : u 0 = _ := hd 0 (by kernel_rfl)
              have h1 : u 1 = _ := hd 1 (by kernel_rfl)
              exact leaves_call rfl (f := 17) (args := #[.agg #[.string (ofL id), .slice A l.length c, .string (ofL tag)], .slice Ad ds.length cd]) (by go_simp) (cB.out W (hT.ext (hE.tr hW)) (hE.tr hW))
            refine locals_cons (fun u W hW hd => ?_) ?_
            · have q0 := (hA.ext hW hA.lt).cell 0; have q1 := (hA.ext hW hA.lt).cell 1; have q2 := (hA.ext hW hA.lt).cell 2
              simp only [List.getElem?_cons_zero, List.getElem?_cons_succ] at q0 q1 q2
              exact leaves_val rfl (v := .agg #[.string (ofL id), .slice A l.length c, .string (ofL tag)]) (by go_simp) rfl
            refine locals_cons (fun u W hW hd => leaves_val rfl (v := .slice Ad ds.length cd) (by go_simp) rfl) ?_
            refine locals_cons (fun u W hW hd => ?_) ?_
            · have h3 : u 3 = _ := hd 3 (by kernel_rfl)
              have h4 : u 4 = _ := hd 4 (by kernel_rfl)
              exact leaves_call rfl (f := 18) (args := #[.agg #[.string (ofL id), .slice A l.length c, .string (ofL tag)], .slice Ad ds.length cd]) (by go_simp) (cR.out W (hE.tr hW))
            refine locals_cons (fun u W hW hd => ?_) ?_
            · have h2 := hd 2 (by kernel_rfl)
              have h5 := hd 5 (by kernel_rfl)
              obtain ⟨v1, m1, ts1, e1, a1, a3, a5⟩ := h2
              obtain ⟨v2, m2, ts2, e2, a2, a4, a6⟩ := h5
              exact leaves_call rfl (f := 16) (args := #[.agg #[.string (ofL id), v1, .string (ofL tag), m1], .agg #[.string (ofL id), v2, .string (ofL tag), m2]]) (by go_simp) ((cS.out v1 m1 v2 m2 ts1 ts2 W a1 a2 a3 a4 a5 a6).mono (by rintro e9 W9 ⟨rfl, h9⟩; exact ⟨_, rfl, h9, rfl⟩))
            refine locals_cons (fun u W hW hd => ?_) ?_
            · have h6 : u 6 = _ := hd 6 (by kernel_rfl)
              exact leaves_val rfl (v := .bool true) (by go_simp) rfl
            refine locals_cons (fun u W hW hd => ?_) ?_
            · have h7 : u 7 = _ := hd 7 (by kernel_rfl)
              exact leaves_call (by simp [Region.wanted, yielded, go_sem, h7]) (f := 12) (args := #[]) (by go_simp) ((cW.out W (hT.ext (hE.tr hW))).mono (by rintro e9 W9 ⟨rfl, h9⟩; exact ⟨_, rfl, h9, rfl⟩))
            refine locals_cons (fun u W hW hd => ?_) ?_
            · have h7 : u 7 = _ := hd 7 (by kernel_rfl)
              have h8 : u 8 = _ := hd 8 (by kernel_rfl)
              exact leaves_val rfl (v := .bool true) (by go_simp) rfl
            refine locals_cons (fun u W hW hd => ?_) locals_nil
            · have h9 : u 9 = _ := hd 9 (by kernel_rfl)
              exact leaves_val rfl (v := .bool true) (by go_simp) rfl
          · intro u W hW hV
            have h10 : u 10 = .bool true := hV 10 (by decide)
            clear hV
            go_wp2
            exact bodyPost_ret (v := .bool true) (by simp [results, Tryd.results3, go_sem, h10]) rfl ⟨rfl, hE.tr hW⟩
set_option maxRecDepth 100000 in
theorem tokCells_open {H : Type} {enc : TypeId × Value → H} {W : World} {n : Nat} {cs : List Value} {x : DataW H × List MemPlace} (hx : DataW.trod enc Tryd.prog W 0 (fun _ => true) true n 24 cs = some x) : ∃ t : TokA, cs = tokCells t ∧ TokOk W t := by
  obtain ⟨hl, hf⟩ := trod_cells Tryd.underlying24 (by kernel_rfl) (by kernel_rfl) hx
  obtain ⟨_, v0, _, k0, h0⟩ := hf 0 _ rfl
  obtain ⟨_, v1, _, k1, h1⟩ := hf 1 _ rfl
  obtain ⟨_, v2, _, k2, h2⟩ := hf 2 _ rfl
  obtain ⟨s, e0, _, _⟩ := DataW.trod_string Tryd.underlying9 h0
  obtain ⟨t, e2, _, _⟩ := DataW.trod_string Tryd.underlying9 h2
  obtain rfl : v0 = .string s := by simpa using e0
  obtain rfl : v2 = .string t := by simpa using e2
  obtain ⟨k, css, hrd, ⟨A, c, rfl, hcap⟩, hlen, _, hall⟩ := open_rdT Tryd.underlying22 2 (by kernel_rfl) (by omega) (fun cs => ∃ x : LinkL, cs = [.string (ofL x.1), .string (ofL x.2)] ∧ True) (fun n cs x hx => linkCells_open hx) h1
  obtain ⟨l, rfl, _⟩ := list_choose (g := fun x : LinkL => [Value.string (ofL x.1), Value.string (ofL x.2)]) css (fun cs hcs => (hall cs hcs).2)
  rw [List.length_map] at hlen
  subst hlen
  rw [flat_links] at hrd
  refine ⟨⟨toL s, toL t, A, c, l⟩, ?_, hrd, hcap⟩
  unfold tokCells
  rw [ofL_toL, ofL_toL]
  match cs, hl, k0, k1, k2 with
  | [a, b, d], _, k0, k1, k2 => simp at k0 k1 k2; rw [k0, k1, k2]
theorem flat_toks : ∀ l : List TokA, (l.map tokCells).flatten = toksCells l
  | [] => rfl
  | x :: l => by rw [List.map_cons, List.flatten_cons, flat_toks l]; rfl
set_option maxRecDepth 100000 in
theorem toks_open {H : Type} {enc : TypeId × Value → H} {W : World} {r : Reach} {b0 : Nat} {v : Value} {d : DataW H} {ps : List MemPlace} (hv : Value.okWide Tryd.prog W r b0 25 v) (h : DataW.Trod enc Tryd.prog W 0 (fun _ => true) true 25 v d ps) : ∃ ts : List TokA, Rd W W.heap.size 3 v ts.length (toksCells ts) ∧ ts.length ≤ maxLen ∧ ∀ t ∈ ts, TokOk W t := by
  obtain ⟨n, css, h1, h2, h3, h4⟩ := open_rd Tryd.underlying25 3 (by kernel_rfl) (by omega) (fun cs => ∃ t : TokA, cs = tokCells t ∧ TokOk W t) (fun n cs x hx => tokCells_open hx) hv h
  obtain ⟨ts, rfl, h5⟩ := list_choose (g := tokCells) css (fun c hc => (h4 c hc).2)
  rw [List.length_map] at h2
  subst h2
  rw [flat_toks] at h1
  exact ⟨ts, h1, h3, h5⟩
theorem holderBinds_walk2 (t : TokA) (v : Value) (ds : List TokA) (w : World) (hT : Tab w) (ht : TokOk w t) (hr : Rd w w.heap.size 3 v ds.length (toksCells ds)) (_ : ds.length ≤ maxLen) (hd : ∀ d ∈ ds, TokOk w d) : Calls Tryd.prog 3 #[tokAV t, v] w fun e w' => e = .returned (.bool true) ∧ Ext w w' :=
  holderBinds_walk t.id t.tag t.A t.c t.l v ds w hT ht.1 ⟨hr, fun d h => (hd d h).1⟩
end Go.Proofs.YtejhiekikblbiaaDoor
