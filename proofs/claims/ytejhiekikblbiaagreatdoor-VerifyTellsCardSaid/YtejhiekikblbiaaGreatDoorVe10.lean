/-
  Chapter 37's laws: is a bundle more than is gone through. No condition.
-/
import Derived.Test.YtejhiekikblbiaaGreatDoorVe9
namespace Go.Proofs.YtejhiekikblbiaaGreatDoor
open Go.RowKit

def SmallB (id tag : List UInt8) (l : List LinkL) (more : List TokA) : Prop := more.length ≤ 10 ∧ Small id tag l ∧ ∀ d ∈ more, Small d.id d.tag d.l
def GreatPost37 (id tag : List UInt8) (l : List LinkL) (more : List TokA) (w : World) (e : Ending) (w' : World) : Prop := ∃ b, e = .returned (.bool b) ∧ (b = false → SmallB id tag l more) ∧ Ext w w'
set_option maxRecDepth 100000 in
set_option maxHeartbeats 8000000 in
theorem great37_any (id tag : List UInt8) (A : Option Addr) (c : Nat) (l : List LinkL) (Am : Option Addr) (cm : Nat) (more : List TokA) (w : World) (hl : RdLinks w w.heap.size (.slice A l.length c) l) (hm : RdToks w w.heap.size (.slice Am more.length cm) more) :
    Calls Tryz.prog 16 #[bunV id (.slice A l.length c) tag (.slice Am more.length cm)] w (GreatPost37 id tag l more w) := by
  obtain ⟨W0, hW0, E0, B1⟩ := bun_box w (.string (ofL id)) (.slice A l.length c) (.string (ofL tag)) (.slice Am more.length cm)
  have HW := Kp.mk hW0
  have HM := Kp.mk hm
  have cG := Kp.mk (great_any id tag (.slice A l.length c) l W0 (rd_at hl E0))
  obtain ⟨nl, hnl⟩ : ∃ nl, l.length = nl := ⟨_, rfl⟩
  have b0 := B1.cell 0; have b1 := B1.cell 1; have b2 := B1.cell 2; have b3 := B1.cell 3
  simp only [List.getElem?_cons_zero, List.getElem?_cons_succ] at b0 b1 b2 b3
  unfold bunV
  unfold tokV at cG
  clear hW0 hm hl hnl
  by_cases g0 : 10 < more.length
  · have hRE := E0
    go_enter Tryz.func16, Tryz.ntmps16
    go_upto_region 1 with fail
    rw [HW.out]
    clear HW
    go_wp2
    go_ret
    exact ⟨true, rfl, fun h => (by cases h), hRE⟩
  · by_cases g1 : 10 < l.length
    · by_cases g2 : l.length < 64
      · have hRE := E0
        go_enter Tryz.func16, Tryz.ntmps16
        go_upto_region 1 with fail
        rw [HW.out]
        clear HW
        go_wp2
        go_ret
        exact ⟨true, rfl, fun h => (by cases h), hRE⟩
      · go_enter Tryz.func16, Tryz.ntmps16
        go_upto_region 1 with fail
        rw [HW.out]
        clear HW
        go_wp2_with fail
        refine cG.out.mono ?_
        rintro e w1 ⟨b, rfl, hb, E1⟩
        have F1 := E0.tr E1
        have B2 := B1.ext E1 B1.lt
        have hb := Kp.mk hb
        clear b0 b1 b2 b3 B1 E0 E1 cG
        cases b with
        | true =>
          have hRE := F1
          go_wp2
          go_ret
          exact ⟨true, rfl, fun h => (by cases h), hRE⟩
        | false =>
          have hsm := Kp.mk (hb.out rfl)
          clear hb
          go_wp2_with fail
          go_loopw [3] (fun i wr => ∃ j : Nat, j ≤ more.length ∧ i = .int .i64 j ∧ Ext w wr ∧ Arr wr w.heap.size 41 [.string (ofL id), .slice A l.length c, .string (ofL tag), .slice Am more.length cm] ∧ (∀ d ∈ more.take j, Small d.id d.tag d.l)) (fun i _ => more.length - (intOf i).toNat)
          case atStart => exact ⟨0, by omega, rfl, F1, B2, fun d hd => by simp at hd⟩
          case round =>
            clear F1 B2
            obtain ⟨j, hj, rfl, hE, hB, hall⟩ := hrel
            have HA := Kp.mk hall
            have b3 := hB.cell 3
            simp only [List.getElem?_cons_zero, List.getElem?_cons_succ] at b3
            clear hall
            by_cases hlt : j < more.length
            · obtain ⟨bm, om, rfl, -, hcm⟩ := HM.out.tok j hlt
              obtain ⟨d, hd⟩ : ∃ d, more[j] = d := ⟨_, rfl⟩
              have hdm : d ∈ more := by rw [← hd]; exact List.getElem_mem hlt
              have htk := Kp.mk (show more.take (j + 1) = more.take j ++ [d] by rw [List.take_succ_eq_append_getElem hlt, hd])
              rw [hd] at hcm
              obtain ⟨di, dt, dA, dc, dl⟩ := d
              obtain ⟨c0, c1, c2⟩ := hcm wr hE
              dsimp only at c0 c1 c2
              obtain ⟨nd, hnd⟩ : ∃ nd, dl.length = nd := ⟨_, rfl⟩
              have hdr := HM.out.2 _ hdm
              have cD := Kp.mk (great_any di dt (.slice dA dl.length dc) dl wr (rd_at hdr hE))
              unfold tokV at cD
              rw [hnd] at c1 cD
              clear hcm hd hdm hnd hdr
              by_cases g3 : 10 < nd
              · by_cases g4 : nd < 64
                · have hRE := hE
                  clear cD HA htk hB
                  go_wp2
                  go_ret
                  exact ⟨true, rfl, fun h => (by cases h), hRE⟩
                · go_wp2_with fail
                  refine cD.out.mono ?_
                  rintro e w5 ⟨b, rfl, hb, E5⟩
                  have F5 := hE.tr E5
                  have B5 := hB.ext E5 hB.lt
                  have hb := Kp.mk hb
                  clear c0 c1 c2 b3 hB hE E5 cD
                  cases b with
                  | true =>
                    have hRE := F5
                    clear HA htk
                    go_wp2
                    go_ret
                    exact ⟨true, rfl, fun h => (by cases h), hRE⟩
                  | false =>
                    have hsd := Kp.mk (hb.out rfl)
                    clear hb
                    go_wp2
                    go_roundw
                    case rel => exact ⟨j + 1, by omega, by go_num, F5, B5, fun x hx => by
                        rw [htk.out] at hx
                        rcases List.mem_append.1 hx with hx | hx
                        · exact HA.out x hx
                        · rw [List.mem_singleton.1 hx]; exact hsd.out⟩
                    case measure => simp [intOf]; omega
              · go_wp2_with fail
                refine cD.out.mono ?_
                rintro e w5 ⟨b, rfl, hb, E5⟩
                have F5 := hE.tr E5
                have B5 := hB.ext E5 hB.lt
                have hb := Kp.mk hb
                clear c0 c1 c2 b3 hB hE E5 cD
                cases b with
                | true =>
                  have hRE := F5
                  clear HA htk
                  go_wp2
                  go_ret
                  exact ⟨true, rfl, fun h => (by cases h), hRE⟩
                | false =>
                  have hsd := Kp.mk (hb.out rfl)
                  clear hb
                  go_wp2
                  go_roundw
                  case rel => exact ⟨j + 1, by omega, by go_num, F5, B5, fun x hx => by
                      rw [htk.out] at hx
                      rcases List.mem_append.1 hx with hx | hx
                      · exact HA.out x hx
                      · rw [List.mem_singleton.1 hx]; exact hsd.out⟩
                  case measure => simp [intOf]; omega
            · have ht : more.take j = more := List.take_of_length_le (by omega)
              have hall := HA.out
              rw [ht] at hall
              have HALL := Kp.mk hall
              clear ht hall HA hB
              go_wp2
              go_ret
              exact ⟨false, rfl, fun _ => ⟨by omega, hsm.out, HALL.out⟩, hE⟩
    · go_enter Tryz.func16, Tryz.ntmps16
      go_upto_region 1 with fail
      rw [HW.out]
      clear HW
      go_wp2_with fail
      refine cG.out.mono ?_
      rintro e w1 ⟨b, rfl, hb, E1⟩
      have F1 := E0.tr E1
      have B2 := B1.ext E1 B1.lt
      have hb := Kp.mk hb
      clear b0 b1 b2 b3 B1 E0 E1 cG
      cases b with
      | true =>
        have hRE := F1
        go_wp2
        go_ret
        exact ⟨true, rfl, fun h => (by cases h), hRE⟩
      | false =>
        have hsm := Kp.mk (hb.out rfl)
        clear hb
        go_wp2_with fail
        go_loopw [3] (fun i wr => ∃ j : Nat, j ≤ more.length ∧ i = .int .i64 j ∧ Ext w wr ∧ Arr wr w.heap.size 41 [.string (ofL id), .slice A l.length c, .string (ofL tag), .slice Am more.length cm] ∧ (∀ d ∈ more.take j, Small d.id d.tag d.l)) (fun i _ => more.length - (intOf i).toNat)
        case atStart => exact ⟨0, by omega, rfl, F1, B2, fun d hd => by simp at hd⟩
        case round =>
          clear F1 B2
          obtain ⟨j, hj, rfl, hE, hB, hall⟩ := hrel
          have HA := Kp.mk hall
          have b3 := hB.cell 3
          simp only [List.getElem?_cons_zero, List.getElem?_cons_succ] at b3
          clear hall
          by_cases hlt : j < more.length
          · obtain ⟨bm, om, rfl, -, hcm⟩ := HM.out.tok j hlt
            obtain ⟨d, hd⟩ : ∃ d, more[j] = d := ⟨_, rfl⟩
            have hdm : d ∈ more := by rw [← hd]; exact List.getElem_mem hlt
            have htk := Kp.mk (show more.take (j + 1) = more.take j ++ [d] by rw [List.take_succ_eq_append_getElem hlt, hd])
            rw [hd] at hcm
            obtain ⟨di, dt, dA, dc, dl⟩ := d
            obtain ⟨c0, c1, c2⟩ := hcm wr hE
            dsimp only at c0 c1 c2
            obtain ⟨nd, hnd⟩ : ∃ nd, dl.length = nd := ⟨_, rfl⟩
            have hdr := HM.out.2 _ hdm
            have cD := Kp.mk (great_any di dt (.slice dA dl.length dc) dl wr (rd_at hdr hE))
            unfold tokV at cD
            rw [hnd] at c1 cD
            clear hcm hd hdm hnd hdr
            by_cases g3 : 10 < nd
            · by_cases g4 : nd < 64
              · have hRE := hE
                clear cD HA htk hB
                go_wp2
                go_ret
                exact ⟨true, rfl, fun h => (by cases h), hRE⟩
              · go_wp2_with fail
                refine cD.out.mono ?_
                rintro e w5 ⟨b, rfl, hb, E5⟩
                have F5 := hE.tr E5
                have B5 := hB.ext E5 hB.lt
                have hb := Kp.mk hb
                clear c0 c1 c2 b3 hB hE E5 cD
                cases b with
                | true =>
                  have hRE := F5
                  clear HA htk
                  go_wp2
                  go_ret
                  exact ⟨true, rfl, fun h => (by cases h), hRE⟩
                | false =>
                  have hsd := Kp.mk (hb.out rfl)
                  clear hb
                  go_wp2
                  go_roundw
                  case rel => exact ⟨j + 1, by omega, by go_num, F5, B5, fun x hx => by
                      rw [htk.out] at hx
                      rcases List.mem_append.1 hx with hx | hx
                      · exact HA.out x hx
                      · rw [List.mem_singleton.1 hx]; exact hsd.out⟩
                  case measure => simp [intOf]; omega
            · go_wp2_with fail
              refine cD.out.mono ?_
              rintro e w5 ⟨b, rfl, hb, E5⟩
              have F5 := hE.tr E5
              have B5 := hB.ext E5 hB.lt
              have hb := Kp.mk hb
              clear c0 c1 c2 b3 hB hE E5 cD
              cases b with
              | true =>
                have hRE := F5
                clear HA htk
                go_wp2
                go_ret
                exact ⟨true, rfl, fun h => (by cases h), hRE⟩
              | false =>
                have hsd := Kp.mk (hb.out rfl)
                clear hb
                go_wp2
                go_roundw
                case rel => exact ⟨j + 1, by omega, by go_num, F5, B5, fun x hx => by
                    rw [htk.out] at hx
                    rcases List.mem_append.1 hx with hx | hx
                    · exact HA.out x hx
                    · rw [List.mem_singleton.1 hx]; exact hsd.out⟩
                case measure => simp [intOf]; omega
          · have ht : more.take j = more := List.take_of_length_le (by omega)
            have hall := HA.out
            rw [ht] at hall
            have HALL := Kp.mk hall
            clear ht hall HA hB
            go_wp2
            go_ret
            exact ⟨false, rfl, fun _ => ⟨by omega, hsm.out, HALL.out⟩, hE⟩
theorem smallB_ok {id tag : List UInt8} {A : Option Addr} {c : Nat} {l : List LinkL} (h : Small id tag l) : OkT ⟨id, tag, A, c, l⟩ := ⟨by have := h.1; dsimp only; omega, by have := h.2.1; dsimp only; omega, fun x hx => by have := h.2.2.2.1 x hx; omega, by have := h.2.2.1; dsimp only; omega⟩
end Go.Proofs.YtejhiekikblbiaaGreatDoor
