/-
  Package token: number, check. Condition: the library's variable errors.errorType holds the type of error.
-/
import Derived.Test.YtejhiekikblbiaaGreatDoorTkAs
import Derived.Test.YtejhiekikblbiaaGreatDoorTkDef
import Derived.Test.YtejhiekikblbiaaGreatDoorOnly
namespace Go.Proofs.YtejhiekikblbiaaGreatDoor
open Go.RowKit

/-- errors.As finds a *token.fault. -/
theorem as_box (b p : Nat) (w : World) (hT : ErrT w) (hp : Arr w p 172 [.pointer none]) :
    Calls Tryz.prog 130 #[.iface 172 (.pointer (some ⟨b, 0, none⟩)), .iface 174 (.pointer (some ⟨p, 0, none⟩))] w fun ev w' => ev = .returned (.bool true) ∧ Only p w w' ∧ Arr w' p 172 [.pointer (some ⟨b, 0, none⟩)] := by
  refine (as_hit ⟨b, 0, none⟩ ⟨p, 0, none⟩ (.pointer none) w hT (hp.cell 0) (hp.frozen 0)).mono ?_
  rintro ev w' ⟨rfl, rfl⟩
  exact ⟨rfl, (Only.of ((((Ext.rfl' w).al _).al _).al _ |>.al _)).st 0 _, ((((hp.alloc _).alloc _).alloc _).alloc _).set 0 _⟩
set_option maxRecDepth 100000 in
theorem number_nil (w : World) : Calls Tryz.prog 103 #[.nilIface] w fun e w' => e = .returned (.int .i64 0) ∧ Ext w w' := by
  go_enter Tryz.func103, Tryz.ntmps103
  go_wp2_with fail
  refine (as_nil _ _).mono ?_
  rintro e w' ⟨rfl, rfl⟩
  go_wp2
  go_ret
  exact ⟨rfl, (Ext.rfl' w).al _⟩
set_option maxRecDepth 100000 in
theorem number_hit (b : Nat) (n : Int) (w : World) (hT : ErrT w) (hb : Arr w b 176 [.int .i64 n]) : Calls Tryz.prog 103 #[.iface 172 (.pointer (some ⟨b, 0, none⟩))] w fun e w' => e = .returned (.int .i64 n) ∧ Ext w w' := by
  obtain ⟨W, hW⟩ : ∃ W, w.alloc (.cells #[.pointer none] 172) = W := ⟨_, rfl⟩
  have E0 : Ext w W := by rw [← hW]; exact (Ext.rfl' w).al _
  have hp : Arr W w.heap.size 172 [.pointer none] := by rw [← hW]; exact Arr.new w _ [.pointer none]
  have hb0 := hb.ext E0 hb.lt
  have hlt := hb.lt
  go_enter Tryz.func103, Tryz.ntmps103
  go_wp2_with fail
  refine (as_box b _ W (hT.ext E0) hp).mono ?_
  rintro e w1 ⟨rfl, O1, hp1⟩
  have q0 := hp1.cell 0
  have hb1 : Arr w1 b 176 [.int .i64 n] := (O1.block b hb0.lt (by simp; omega)).trans hb0
  have q1 := hb1.cell 0
  simp only [List.getElem?_cons_zero] at q0 q1
  clear hW hp hb0 hb1
  go_wp2
  go_ret
  exact ⟨rfl, O1.toExt E0 (Nat.le_refl _)⟩

/-- What check answers. -/
def CheckPost (w : World) (bad : Bool) (e : Ending) (w' : World) : Prop :=
  Ext w w' ∧ ((bad = false ∧ e = .returned .nilIface) ∨ (bad = true ∧ ∃ b, e = .returned (.iface 172 (.pointer (some ⟨b, 0, none⟩))) ∧ w.heap.size ≤ b ∧ Arr w' b 176 [.int .i64 3]))
theorem check_bad {w W : World} (hE : Ext w W) {v : Value} (hv : v = .iface 172 (.pointer (some ⟨W.heap.size, 0, none⟩))) : CheckPost w true (.returned v) (W.alloc (.cells #[.int .i64 3] 176)) := by
  subst hv
  exact ⟨hE.al _, .inr ⟨rfl, _, rfl, hE.size, Arr.new W _ [.int .i64 3]⟩⟩
theorem any_take (l : List LinkL) (k : Nat) (h : k < l.length) : (l.take (k + 1)).any longL = ((l.take k).any longL || longL l[k]) := by
  rw [List.take_succ_eq_append_getElem h, List.any_append]; simp
theorem any_long {l : List LinkL} {k : Nat} (h : k < l.length) (hl : longL l[k] = true) : l.any longL = true := List.any_eq_true.2 ⟨l[k], List.getElem_mem h, hl⟩

set_option maxRecDepth 100000 in
set_option maxHeartbeats 2000000 in
theorem check_any (id tag : List UInt8) (vl : Value) (l : List LinkL) (w : World) (hl : RdLinks w w.heap.size vl l) : Calls Tryz.prog 104 #[tokV id vl tag] w (CheckPost w (tokBad ⟨id, l, tag⟩)) := by
  obtain ⟨A, c, rfl, hlm, hcells⟩ := hl.cells
  have HC := Kp.mk hcells
  have A0 := Arr.new w 33 [.string (ofL id), .slice A l.length c, .string (ofL tag)]
  have E0 : Ext w (w.alloc (.cells [.string (ofL id), .slice A l.length c, .string (ofL tag)].toArray 33)) := (Ext.rfl' w).al _
  have z1 : (ofL id).size = id.length := size_ofL _
  have hbad : tokBad ⟨id, l, tag⟩ = (decide (4144 < id.length) || decide (64 < l.length) || l.any longL) := rfl
  unfold tokV
  clear hcells hl
  by_cases g1 : 4144 < id.length
  · have hb : tokBad ⟨id, l, tag⟩ = true := by rw [hbad]; simp [g1]
    rw [hb]
    have d1 : decide ((4144 : Int) < (id.length : Int)) = true := by simp; omega
    clear hb hbad g1
    go_enter Tryz.func104, Tryz.ntmps104
    go_wp2
    go_ret
    exact check_bad E0 (by simp)
  · have d1 : decide ((4144 : Int) < (id.length : Int)) = false := by simp; omega
    by_cases g2 : 64 < l.length
    · have hb : tokBad ⟨id, l, tag⟩ = true := by rw [hbad]; simp [g2]
      rw [hb]
      have d2 : decide ((64 : Int) < (l.length : Int)) = true := by simp; omega
      clear hb hbad g1 g2
      go_enter Tryz.func104, Tryz.ntmps104
      go_wp2
      go_ret
      exact check_bad E0 (by simp)
    · have d2 : decide ((64 : Int) < (l.length : Int)) = false := by simp; omega
      have hb : tokBad ⟨id, l, tag⟩ = l.any longL := by rw [hbad]; simp [g1, g2]
      rw [hb]
      clear hb hbad g1
      go_enter Tryz.func104, Tryz.ntmps104
      go_wp2_with fail
      go_loopw [21] (fun i wr => ∃ k : Nat, k ≤ l.length ∧ i = .int .i64 k ∧ (l.take k).any longL = false ∧ Ext w wr) (fun i _ => l.length - (intOf i).toNat)
      case atStart => exact ⟨0, by omega, rfl, rfl, E0⟩
      case round =>
        clear E0 A0
        obtain ⟨k, hk, rfl, hall0, hE⟩ := hrel
        have hall := Kp.mk hall0; clear hall0
        by_cases hlt : k < l.length
        · obtain ⟨b, off, rfl, hb, hc⟩ := HC.out (by omega)
          obtain ⟨⟨xa, xb⟩, hxe⟩ : ∃ x, l[k] = x := ⟨_, rfl⟩
          have q1 := ((bcell hE).1 b (off + k * 2) hb).trans (hc k hlt).1
          have q2 := ((bcell hE).1 b (off + k * 2 + 1) hb).trans (hc k hlt).2
          rw [hxe] at q1 q2
          have z3 : (ofL xa).size = xa.length := size_ofL _
          have z4 : (ofL xb).size = xb.length := size_ofL _
          have hgo := Kp.mk (show longL (xa, xb) = false → (l.take (k + 1)).any longL = false from fun h => by rw [any_take l k hlt, hall.out, hxe, h]; rfl)
          have hno := Kp.mk (show longL (xa, xb) = true → l.any longL = true from fun h => any_long hlt (by rw [hxe]; exact h))
          clear hc hxe
          by_cases h0 : 4144 < xb.length
          · have d3 : decide ((4144 : Int) < (xb.length : Int)) = true := by simp; omega
            have hbd := hno.out (by unfold longL; rw [if_neg (by intro h; dsimp only at h; rw [h] at h0; simp at h0)]; simp [h0])
            have hbd := Kp.mk hbd
            clear h0 hno hgo
            go_wp2
            go_ret
            exact check_bad (hE.al _) (by simp)
          · have d3 : decide ((4144 : Int) < (xb.length : Int)) = false := by simp; omega
            by_cases hx : xb = []
            · subst hx
              by_cases h1 : 2048 < xa.length
              · have d4 : decide ((2048 : Int) < (xa.length : Int)) = true := by simp; omega
                have hbd := hno.out (by unfold longL; rw [if_pos rfl]; simp [h1])
                have hbd := Kp.mk hbd
                clear h0 hno hgo h1
                go_wp2
                go_ret
                exact check_bad (hE.al _) (by simp)
              · have d4 : decide ((2048 : Int) < (xa.length : Int)) = false := by simp; omega
                have d5 : decide ((4144 : Int) < (xa.length : Int)) = false := by simp; omega
                have hbd := Kp.mk (hgo.out (by unfold longL; rw [if_pos rfl]; simp [h1]))
                clear h0 hno hgo h1
                go_wp2
                go_roundw
                case rel => exact ⟨k + 1, by omega, by go_num, hbd.out, hE.al _⟩
                case measure => simp [intOf]; omega
            · have d4 : xb.isEmpty = false := isEmpty_ne hx
              by_cases h1 : 4144 < xa.length
              · have d5 : decide ((4144 : Int) < (xa.length : Int)) = true := by simp; omega
                have hbd := hno.out (by unfold longL; rw [if_neg hx]; simp [h1])
                have hbd := Kp.mk hbd
                clear h0 hno hgo h1 hx
                go_wp2
                go_ret
                exact check_bad (hE.al _) (by simp)
              · have d5 : decide ((4144 : Int) < (xa.length : Int)) = false := by simp; omega
                have hbd := Kp.mk (hgo.out (by unfold longL; rw [if_neg hx]; simp [h1, h0]))
                clear h0 hno hgo h1 hx
                go_wp2
                go_roundw
                case rel => exact ⟨k + 1, by omega, by go_num, hbd.out, hE.al _⟩
                case measure => simp [intOf]; omega
        · have ht : l.take k = l := List.take_of_length_le (by omega)
          have hb := hall.out
          rw [ht] at hb
          have hb2 := Kp.mk hb
          clear hb ht
          go_wp2
          go_ret
          exact ⟨hE, .inl ⟨hb2.out, rfl⟩⟩
end Go.Proofs.YtejhiekikblbiaaGreatDoor
