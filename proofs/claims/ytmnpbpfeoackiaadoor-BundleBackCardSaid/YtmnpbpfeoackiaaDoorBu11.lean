/-
  Package bundle's reference: Great. No condition.
-/
import Derived.Test.YtmnpbpfeoackiaaDoorGenB
import Derived.Test.YtmnpbpfeoackiaaDoorCh6
import Derived.Test.YtmnpbpfeoackiaaDoorMgG
namespace Go.Proofs.YtmnpbpfeoackiaaDoor
open Go.RowKit

def SmallT (t : TokA) : Prop := Small t.id t.tag t.l
def AllSm (l : List TokA) : Prop := ∀ d ∈ l, SmallT d
def SmallB (t : TokA) (more : List TokA) : Prop := more.length ≤ 12 ∧ SmallT t ∧ AllSm more

set_option maxRecDepth 100000 in
set_option maxHeartbeats 4000000 in
theorem bgreat_any (t : TokA) (Am : Option Addr) (cm : Nat) (more : List TokA) (w : World) (hl : RdLinks w w.heap.size (.slice t.A t.l.length t.c) t.l) (hm : RdToks w w.heap.size (.slice Am more.length cm) more) :
    Calls Tryd.prog 20 #[bunV t.id (.slice t.A t.l.length t.c) t.tag (.slice Am more.length cm)] w fun e w' => ∃ b, e = .returned (.bool b) ∧ (b = false ↔ SmallB t more) ∧ Ext w w' := by
  obtain ⟨W, hW, E0, A0⟩ : ∃ W, w.alloc (.cells #[.string (ofL t.id), .slice t.A t.l.length t.c, .string (ofL t.tag), .slice Am more.length cm] 38) = W ∧ Ext w W ∧ Arr W w.heap.size 38 [.string (ofL t.id), .slice t.A t.l.length t.c, .string (ofL t.tag), .slice Am more.length cm] := ⟨_, rfl, (Ext.rfl' w).al _, Arr.new w _ [.string (ofL t.id), .slice t.A t.l.length t.c, .string (ofL t.tag), .slice Am more.length cm]⟩
  have HW := Kp.mk hW
  have HM := Kp.mk hm
  have c0 := great_iff t.id t.tag (.slice t.A t.l.length t.c) t.l W (rd_at hl E0)
  unfold tokV at c0
  replace c0 := Kp.mk c0
  have b0 := A0.cell 0; have b1 := A0.cell 1; have b2 := A0.cell 2; have b3 := A0.cell 3
  simp only [List.getElem?_cons_zero, List.getElem?_cons_succ] at b0 b1 b2 b3
  clear hW hl hm
  unfold bunV
  by_cases g1 : 12 < more.length
  · have d1 : decide ((12 : Int) < (more.length : Int)) = true := by simp; omega
    have hno := Kp.mk (show ¬ SmallB t more from fun h => by have := h.1; omega)
    clear g1
    go_enter Tryd.func20, Tryd.ntmps20
    go_upto_region 1 with fail
    rw [HW.out]
    clear HW
    go_wp2
    go_ret
    exact ⟨true, rfl, ⟨fun h => (by cases h), fun h => absurd h hno.out⟩, E0⟩
  · have d1 : decide ((12 : Int) < (more.length : Int)) = false := by simp; omega
    go_enter Tryd.func20, Tryd.ntmps20
    go_upto_region 1 with fail
    rw [HW.out]
    clear HW
    go_wp2_with fail
    refine c0.out.mono ?_
    rintro e w1 ⟨sb, rfl, hsb, E1⟩
    have HSB := Kp.mk hsb
    have A1 := A0.ext E1 A0.lt
    have F1 := E0.tr E1
    clear c0 hsb A0 E0 E1 b0 b1 b2 b3
    cases sb with
    | true =>
      go_wp2
      go_ret
      exact ⟨true, rfl, ⟨fun h => (by cases h), fun h => absurd (HSB.out.2 h.2.1) (by simp)⟩, F1⟩
    | false =>
      go_wp2_with fail
      go_loopw [3] (fun i wr => ∃ k : Nat, k ≤ more.length ∧ i = .int .i64 k ∧ AllSm (more.take k) ∧ Ext w wr ∧ Arr wr w.heap.size 38 [.string (ofL t.id), .slice t.A t.l.length t.c, .string (ofL t.tag), .slice Am more.length cm]) (fun i _ => more.length - (intOf i).toNat)
      case atStart => exact ⟨0, by omega, rfl, fun d hd => by simp at hd, F1, A1⟩
      case round =>
        clear F1 A1
        obtain ⟨k, hk, rfl, hall0, hE, hA⟩ := hrel
        have hall := Kp.mk hall0
        clear hall0
        have b3 := hA.cell 3
        simp only [List.getElem?_cons_zero, List.getElem?_cons_succ] at b3
        by_cases hlt : k < more.length
        · obtain ⟨bm, om, hAm, -, hcm⟩ := HM.out.tok k hlt
          subst hAm
          obtain ⟨q0, q1, q2⟩ := hcm wr hE
          have hto := Kp.mk (show SmallT more[k] → AllSm (more.take (k + 1)) from fun h d hd => by
            rw [List.take_succ_eq_append_getElem hlt] at hd
            rcases List.mem_append.1 hd with hd | hd
            · exact hall.out d hd
            · rw [List.mem_singleton.1 hd]; exact h)
          have hno := Kp.mk (show ¬ SmallT more[k] → ¬ SmallB t more from fun h hb => h (hb.2.2 _ (List.getElem_mem hlt)))
          have cG := great_iff more[k].id more[k].tag (.slice more[k].A more[k].l.length more[k].c) more[k].l wr (rd_at (HM.out.2 _ (List.getElem_mem hlt)) hE)
          unfold tokV at cG
          obtain ⟨d, hd⟩ : ∃ d, more[k] = d := ⟨_, rfl⟩
          rw [hd] at q0 q1 q2 hto hno cG
          replace cG := Kp.mk cG
          clear hd hcm
          go_wp2_with fail
          refine cG.out.mono ?_
          rintro e w4 ⟨s2, rfl, hs2, E4⟩
          have A4 := hA.ext E4 hA.lt
          have F4 := hE.tr E4
          have HS2 := Kp.mk hs2
          clear hs2 q0 q1 q2 b3 hA hE E4 cG
          cases s2 with
          | true =>
            go_wp2
            go_ret
            exact ⟨true, rfl, ⟨fun h => (by cases h), fun h => absurd h (hno.out (fun h2 => by have := HS2.out.2 h2; cases this))⟩, F4⟩
          | false =>
            have hto2 := Kp.mk (hto.out (HS2.out.1 rfl))
            go_wp2
            go_roundw
            case rel => exact ⟨k + 1, by omega, by go_num, hto2.out, F4, A4⟩
            case measure => simp [intOf]; omega
        · have hyes := Kp.mk (show SmallB t more from ⟨by omega, HSB.out.1 (by first | rfl | trivial), by have h := hall.out; rw [List.take_of_length_le (by omega)] at h; exact h⟩)
          go_wp2
          go_ret
          exact ⟨false, rfl, ⟨fun _ => hyes.out, fun _ => rfl⟩, hE⟩
/-- What is answered hangs on the bundle alone. -/
theorem bgreat_det (t : TokA) (more : List TokA) : ∃ b : Bool, (b = false ↔ SmallB t more) ∧ ∀ (Am : Option Addr) (cm : Nat) (w : World), RdLinks w w.heap.size (.slice t.A t.l.length t.c) t.l → RdToks w w.heap.size (.slice Am more.length cm) more →
    Calls Tryd.prog 20 #[bunV t.id (.slice t.A t.l.length t.c) t.tag (.slice Am more.length cm)] w fun e w' => e = .returned (.bool b) ∧ Ext w w' := by
  by_cases h : SmallB t more
  · exact ⟨false, ⟨fun _ => h, fun _ => rfl⟩, fun Am cm w h1 h2 => (bgreat_any t Am cm more w h1 h2).mono fun e w' ⟨b, h3, h4, h5⟩ => ⟨by rw [h3, h4.2 h], h5⟩⟩
  · exact ⟨true, ⟨fun h2 => (by cases h2), fun h2 => absurd h2 h⟩, fun Am cm w h1 h2 => (bgreat_any t Am cm more w h1 h2).mono fun e w' ⟨b, h3, h4, h5⟩ => ⟨by
      rw [h3]
      cases b with
      | true => rfl
      | false => exact absurd (h4.1 rfl) h, h5⟩⟩
end Go.Proofs.YtmnpbpfeoackiaaDoor
