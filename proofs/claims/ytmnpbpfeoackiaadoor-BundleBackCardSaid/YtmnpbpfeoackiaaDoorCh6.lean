/-
  A token that is not great has short parts; two tokens held against each other. No condition.
-/
import Derived.Test.YtmnpbpfeoackiaaDoorGen
import Derived.Laws.StructEq
namespace Go.Proofs.YtmnpbpfeoackiaaDoor
open Go.RowKit

def linkSum (l : List LinkL) : Nat := (l.map fun x => x.1.length + x.2.length).sum
theorem linkSum_take (l : List LinkL) (k : Nat) (h : k < l.length) : linkSum (l.take (k + 1)) = linkSum (l.take k) + l[k].1.length + l[k].2.length := by
  unfold linkSum
  rw [List.take_succ_eq_append_getElem h, List.map_append, List.sum_append]
  simp
  omega
/-- What is known of a token that is not great. -/
def Small (id tag : List UInt8) (l : List LinkL) : Prop := id.length ≤ 4200 ∧ tag.length ≤ 100 ∧ l.length ≤ 70 ∧ (∀ x ∈ l, x.1.length ≤ 4200 ∧ x.2.length ≤ 4200) ∧ linkSum l ≤ 20000
def GreatPost (id tag : List UInt8) (l : List LinkL) (w : World) (e : Ending) (w' : World) : Prop := ∃ b, e = .returned (.bool b) ∧ (b = false → Small id tag l) ∧ Ext w w'
def GreatIff (id tag : List UInt8) (l : List LinkL) (w : World) (e : Ending) (w' : World) : Prop := ∃ b, e = .returned (.bool b) ∧ (b = false ↔ Small id tag l) ∧ Ext w w'
theorem great_yes {id tag : List UInt8} {l : List LinkL} {w w' : World} (h : Ext w w') (hn : ¬ Small id tag l) : GreatIff id tag l w (.returned (.bool true)) w' := ⟨true, rfl, ⟨fun h => (by cases h), fun h => absurd h hn⟩, h⟩
theorem great_true {id tag : List UInt8} {l : List LinkL} {w w' : World} (h : Ext w w') : GreatPost id tag l w (.returned (.bool true)) w' := ⟨true, rfl, fun h => (by cases h), h⟩

set_option maxRecDepth 100000 in
set_option maxHeartbeats 2000000 in
theorem great_iff (id tag : List UInt8) (vl : Value) (l : List LinkL) (w : World) (hl : RdLinks w w.heap.size vl l) : Calls Tryd.prog 12 #[tokV id vl tag] w (GreatIff id tag l w) := by
  obtain ⟨A, c, rfl, hlm, hcells⟩ := hl.cells
  have HC := Kp.mk hcells
  have A0 := Arr.new w 24 [.string (ofL id), .slice A l.length c, .string (ofL tag)]
  have E0 : Ext w (w.alloc (.cells [.string (ofL id), .slice A l.length c, .string (ofL tag)].toArray 24)) := (Ext.rfl' w).al _
  have z1 : (ofL id).size = id.length := size_ofL _
  have z2 : (ofL tag).size = tag.length := size_ofL _
  unfold tokV
  clear hcells hl
  by_cases g1 : 4200 < id.length
  · go_enter Tryd.func12, Tryd.ntmps12
    go_wp2
    go_ret
    exact great_yes E0 (fun h => by have := h.1; omega)
  · by_cases g2 : 100 < tag.length
    · go_enter Tryd.func12, Tryd.ntmps12
      go_wp2
      go_ret
      exact great_yes E0 (fun h => by have := h.2.1; omega)
    · by_cases g3 : 70 < l.length
      · go_enter Tryd.func12, Tryd.ntmps12
        go_wp2
        go_ret
        exact great_yes E0 (fun h => by have := h.2.2.1; omega)
      · go_enter Tryd.func12, Tryd.ntmps12
        go_wp2_with fail
        go_loopw [4, 3] (fun i s wr => ∃ (k S : Nat), k ≤ l.length ∧ i = .int .i64 k ∧ s = .int .i64 S ∧ S = linkSum (l.take k) ∧ S ≤ 10000 * k ∧ (∀ x ∈ l.take k, x.1.length ≤ 4200 ∧ x.2.length ≤ 4200) ∧ Ext w wr ∧ Arr wr w.heap.size 24 [.string (ofL id), .slice A l.length c, .string (ofL tag)]) (fun i _ _ => l.length - (intOf i).toNat)
        case atStart => exact ⟨0, 0, by omega, rfl, rfl, rfl, by omega, by simp, E0, A0⟩
        case round =>
          clear E0 A0
          obtain ⟨k, S, hk, rfl, rfl, hS0, hSb, hall0, hE, hA⟩ := hrel
          have hS := Kp.mk hS0; have hall := Kp.mk hall0
          clear hS0 hall0
          have c1 := hA.cell 1
          simp only [List.getElem?_cons_zero, List.getElem?_cons_succ] at c1
          by_cases hlt : k < l.length
          · obtain ⟨b, off, rfl, hb, hc⟩ := HC.out (by omega)
            obtain ⟨⟨xa, xb⟩, hxe⟩ : ∃ x, l[k] = x := ⟨_, rfl⟩
            have q1 := ((bcell hE).1 b (off + k * 2) hb).trans (hc k hlt).1
            have q2 := ((bcell hE).1 b (off + k * 2 + 1) hb).trans (hc k hlt).2
            rw [hxe] at q1 q2
            have z3 : (ofL xa).size = xa.length := size_ofL _
            have z4 : (ofL xb).size = xb.length := size_ofL _
            have hS2 := Kp.mk (show S + xa.length + xb.length = linkSum (l.take (k + 1)) by rw [linkSum_take l k hlt, hxe, ← hS.out])
            have hall2 := Kp.mk (show xa.length ≤ 4200 → xb.length ≤ 4200 → ∀ x ∈ l.take (k + 1), x.1.length ≤ 4200 ∧ x.2.length ≤ 4200 from fun h1 h2 x hx => by
              rw [take_snoc l k hlt, hxe] at hx
              rcases List.mem_append.1 hx with hx | hx
              · exact hall.out x hx
              · rw [List.mem_singleton.1 hx]; exact ⟨h1, h2⟩)
            have hin4 := Kp.mk (show 4200 < xa.length → ¬ Small id tag l from fun hx h => by
              have := (h.2.2.2.1 _ (List.getElem_mem hlt)).1
              rw [hxe] at this
              dsimp only at this
              omega)
            have hin5 := Kp.mk (show 4200 < xb.length → ¬ Small id tag l from fun hx h => by
              have := (h.2.2.2.1 _ (List.getElem_mem hlt)).2
              rw [hxe] at this
              dsimp only at this
              omega)
            clear hc hxe
            by_cases g4 : 4200 < xa.length
            · go_wp2
              go_ret
              exact great_yes hE (fun h => hin4.out (by omega) h)
            · by_cases g5 : 4200 < xb.length
              · go_wp2
                go_ret
                exact great_yes hE (fun h => hin5.out (by omega) h)
              · go_wp2
                go_quiet (fail)
                go_wp2
                go_roundw
                case rel => exact ⟨k + 1, S + xa.length + xb.length, by omega, by go_num, by go_num, hS2.out, by omega, hall2.out (by omega) (by omega), hE.drN _, hA.drew _⟩
                case measure => simp [intOf]; omega
          · have ht := Kp.mk (show l.take k = l from List.take_of_length_le (by omega))
            go_wp2
            go_ret
            refine ⟨_, rfl, ⟨fun h => ⟨by omega, by omega, by omega, by have := hall.out; rw [ht.out] at this; exact this, ?_⟩, fun h => ?_⟩, hE⟩
            · have h1 := hS.out
              rw [ht.out] at h1
              simp at h
              omega
            · have h1 := hS.out
              rw [ht.out] at h1
              have h2 := h.2.2.2.2
              simp
              omega
theorem great_any (id tag : List UInt8) (vl : Value) (l : List LinkL) (w : World) (hl : RdLinks w w.heap.size vl l) : Calls Tryd.prog 12 #[tokV id vl tag] w (GreatPost id tag l w) :=
  (great_iff id tag vl l w hl).mono fun _ _ ⟨b, h1, h2, h3⟩ => ⟨b, h1, h2.1, h3⟩
/-- What is answered hangs on the token alone. -/
theorem great_det (id tag : List UInt8) (l : List LinkL) : ∃ b : Bool, (b = false ↔ Small id tag l) ∧ ∀ (vl : Value) (w : World), RdLinks w w.heap.size vl l → Calls Tryd.prog 12 #[tokV id vl tag] w fun e w' => e = .returned (.bool b) ∧ Ext w w' := by
  by_cases h : Small id tag l
  · exact ⟨false, by simp [h], fun vl w hl => (great_iff id tag vl l w hl).mono fun _ _ ⟨b, h1, h2, h3⟩ => ⟨by rw [h1, h2.2 h], h3⟩⟩
  · refine ⟨true, by simp [h], fun vl w hl => (great_iff id tag vl l w hl).mono fun _ _ ⟨b, h1, h2, h3⟩ => ⟨?_, h3⟩⟩
    cases b with
    | true => exact h1
    | false => exact absurd (h2.1 rfl) h
end Go.Proofs.YtmnpbpfeoackiaaDoor
