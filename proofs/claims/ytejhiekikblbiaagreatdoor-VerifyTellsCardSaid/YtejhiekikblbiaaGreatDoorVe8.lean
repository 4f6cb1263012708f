/-
  Package verify: the work, the most work; the law's great. Condition: the package's table holds the constants (for the work).
-/
import Derived.Test.YtejhiekikblbiaaGreatDoorMgM
import Derived.Test.YtejhiekikblbiaaGreatDoorNo2
namespace Go.Proofs.YtejhiekikblbiaaGreatDoor
open Go.RowKit

set_option maxRecDepth 100000 in
set_option maxHeartbeats 4000000 in
theorem vwork_any (k id tag : List UInt8) (A : Option Addr) (c : Nat) (l : List LinkL) (Am : Option Addr) (cm : Nat) (more : List TokA) (w : World) (hT : Tab w) (hl : RdLinks w w.heap.size (.slice A l.length c) l) (hm : RdToks w w.heap.size (.slice Am more.length cm) more) (hk : k.length ≤ 10000) (ht : OkT ⟨id, tag, A, c, l⟩) (hml : ∀ d ∈ more, OkT d) (hn : more.length ≤ 10000) :
    Calls Tryz.prog 20 #[.string (ofL k), bunV id (.slice A l.length c) tag (.slice Am more.length cm)] w fun e w' => e = .returned (.int .i64 (proveL k ⟨id, l, tag⟩ (more.map TokA.plain)).1.work) ∧ Ext w w' := by
  obtain ⟨W0, hW0, E0, B1⟩ := bun_box w (.string (ofL id)) (.slice A l.length c) (.string (ofL tag)) (.slice Am more.length cm)
  have cR := Kp.mk (vrun_any k id tag A c l Am cm more W0 (hT.ext E0) (rd_at hl E0) (hm.at E0) hk ht hml hn)
  obtain ⟨X, hX⟩ : ∃ X, proveL k ⟨id, l, tag⟩ (more.map TokA.plain) = X := ⟨_, rfl⟩
  rw [hX] at cR ⊢
  have HW := Kp.mk hW0
  obtain ⟨Xs, x⟩ := X
  unfold bunV at *
  dsimp only
  clear hW0 hX hl hm ht hml
  go_enter Tryz.func20, Tryz.ntmps20
  go_wp2_with fail
  rw [HW.out]
  refine cR.out.mono ?_
  rintro e w1 ⟨g, L, vu, vl, vt, rfl, S⟩
  dsimp only at S
  have q7 := S.box.cell 7
  rw [(prCells_get _ _ _ _ _ _).2.2.2.2.2.2.2] at q7
  have F1 := E0.tr S.ext
  clear S cR HW B1
  go_wp2
  go_ret
  exact ⟨rfl, F1⟩

/-- The counter's closure: the token's tags are counted. -/
theorem sealed_take (l : List LinkL) (k : Nat) (h : k < l.length) : sealed (l.take (k + 1)) = sealed (l.take k) + if l[k].2 = [] then 0 else 1 := by
  rw [List.take_succ_eq_append_getElem h]
  unfold sealed
  rw [List.countP_append]
  by_cases h2 : l[k].2 = [] <;> simp [h2]

theorem rd_grown {w W : World} {p size n c : Nat} {A : Option Addr} {xs : List Value} (h : Rd w w.heap.size size (.slice A n c) n xs) (hg : w.grownBy W (some p)) (hne : 0 < n → ∀ b o, A = some ⟨b, o, none⟩ → b ≠ p) : Rd W W.heap.size size (.slice A n c) n xs := by
  obtain ⟨A', c', e, hn, hl, hc⟩ := h
  cases e
  refine ⟨A, c, rfl, hn, hl, fun h0 => ?_⟩
  obtain ⟨b, off, rfl, hb, hcell⟩ := hc h0
  refine ⟨b, off, rfl, by have := hg.size; omega, fun i u' hu => ?_⟩
  have hh := hg.block b hb (by intro e; exact hne h0 b off rfl (Option.some.inj e))
  have := hcell i u' hu
  rw [← this]
  simp [World.cell?, hh]
theorem int_box (w : World) (v : Value) : ∃ V, w.alloc (.cells #[v] 3) = V ∧ Ext w V ∧ Arr V w.heap.size 3 [v] := ⟨_, rfl, (Ext.rfl' w).al _, Arr.new w _ [v]⟩
/-- What the counter's closure leaves. -/
def CntPost (w : World) (p n : Nat) (e : Ending) (w' : World) : Prop := e = .returned (.tuple #[]) ∧ w.grownBy w' (some p) ∧ Arr w' p 3 [.int .i64 n]
theorem grown_drew {w W : World} {p : Nat} (h : w.grownBy W (some p)) : w.grownBy W.drew (some p) := ⟨h.os, h.tape, h.output, h.size, h.block⟩
theorem grown_al {w W : World} {p : Nat} (h : w.grownBy W (some p)) (o : Obj) : w.grownBy (W.alloc o) (some p) := grown_ext h ((Ext.rfl' W).al o)
theorem grown_st {w W : World} {p j : Nat} (h : w.grownBy W (some p)) (u : Value) : w.grownBy (W.setCell ⟨p, j, none⟩ u) (some p) :=
  ⟨h.os, h.tape, h.output, by have := h.size; simpa using this, fun k hk hn => (heap_setCell_other W ⟨p, j, none⟩ k u (fun e => hn (by rw [e]))).trans (h.block k hk hn)⟩
set_option maxRecDepth 100000 in
set_option maxHeartbeats 4000000 in
theorem mostc_any (id tag : List UInt8) (A : Option Addr) (c : Nat) (l : List LinkL) (p n : Nat) (w : World) (hl : RdLinks w w.heap.size (.slice A l.length c) l) (hp : Arr w p 3 [.int .i64 n]) (hne : 0 < l.length → ∀ b o, A = some ⟨b, o, none⟩ → b ≠ p) (hn : n ≤ 100000000) (hln : l.length ≤ 10000) :
    Calls Tryz.prog 55 #[tokV id (.slice A l.length c) tag, .pointer (some ⟨p, 0, none⟩)] w (CntPost w p (n + mostT ⟨id, l, tag⟩)) := by
  obtain ⟨W0, hW0, E0, B1⟩ := tokbox w (.string (ofL id)) (.slice A l.length c) (.string (ofL tag))
  have HW := Kp.mk hW0
  have hpw := hp.lt
  have P1 := hp.ext E0 hp.lt
  have G0 : w.grownBy W0 (some p) := ⟨E0.os, E0.tape, E0.output, E0.size, fun k hk _ => E0.block k hk⟩
  have HC := Kp.mk (show 0 < l.length → ∃ b off, A = some ⟨b, off, none⟩ ∧ ∀ W, w.grownBy W (some p) → ∀ k (hk : k < l.length), W.cell? ⟨b, off + k * 2, none⟩ = some (.string (ofL l[k].1)) ∧ W.cell? ⟨b, off + k * 2 + 1, none⟩ = some (.string (ofL l[k].2)) from fun h0 => by
    obtain ⟨b, off, rfl, hb, hc⟩ := RdLinks.link hl h0
    refine ⟨b, off, rfl, fun W hW k hk => ?_⟩
    have hh := hW.block b hb (by intro e; exact hne h0 b off rfl (Option.some.inj e))
    obtain ⟨h1, h2⟩ := hc k hk
    rw [← h1, ← h2]
    simp [World.cell?, hh])
  have r1 := B1.cell 1
  have p0 := P1.cell 0
  have f0 := P1.frozen 0
  simp only [List.getElem?_cons_zero, List.getElem?_cons_succ] at r1 p0
  unfold tokV
  clear hW0 hl hne E0
  go_enter Tryz.func55, Tryz.ntmps55
  go_upto_region 1 with fail
  rw [HW.out]
  clear HW
  go_upto_region 2 with fail
  obtain ⟨W1, hW1⟩ : ∃ W1 : World, W1 = W0.setCell ⟨p, 0, none⟩ (.int .i64 ((n : Int) + ((l.length : Int) + 1))) := ⟨_, rfl⟩
  rw [← hW1]
  have G1 : w.grownBy W1 (some p) := by rw [hW1]; exact grown_st G0 _
  have P2 : Arr W1 p 3 [.int .i64 ((n : Int) + ((l.length : Int) + 1))] := by rw [hW1]; exact P1.set 0 _
  have B2 : Arr W1 w.heap.size 33 [.string (ofL id), .slice A l.length c, .string (ofL tag)] := by rw [hW1]; exact B1.other _ (by omega)
  have r1 := B2.cell 1
  simp only [List.getElem?_cons_zero, List.getElem?_cons_succ] at r1
  clear hW1 P1 p0 f0 G0 B1 hp
  go_wp2_with fail
  go_loopw [14] (fun i wr => ∃ (q : Nat), q ≤ l.length ∧ i = .int .i64 q ∧ w.grownBy wr (some p) ∧ Arr wr p 3 [.int .i64 ((n + l.length + 1 + sealed (l.take q) : Nat) : Int)]) (fun i _ => l.length - (intOf i).toNat)
  case atStart => exact ⟨0, by omega, rfl, G1, by simpa [sealed, Int.add_assoc] using P2⟩
  case round =>
    clear G1 P2 B2 r1
    obtain ⟨q, hq, rfl, hG, hP⟩ := hrel
    have hsl := sealed_le (l.take q)
    rw [List.length_take] at hsl
    by_cases hlt : q < l.length
    · obtain ⟨b, off, rfl, hc⟩ := HC.out (by omega)
      obtain ⟨⟨xa, xb⟩, hx⟩ : ∃ x, l[q] = x := ⟨_, rfl⟩
      have q1 := (hc wr hG q hlt).1
      have q2 := (hc wr hG q hlt).2
      have hs := Kp.mk (sealed_take l q hlt)
      rw [hx] at q1 q2 hs
      obtain ⟨sq, hsq⟩ : ∃ sq, sealed (l.take q) = sq := ⟨_, rfl⟩
      rw [hsq] at hP hs hsl
      obtain ⟨W3, hW3, E3, B3⟩ := link_box wr (.string (ofL xa)) (.string (ofL xb))
      have HW3 := Kp.mk hW3
      have G3 := grown_ext hG E3
      have P3 := hP.ext E3 hP.lt
      have p0 := P3.cell 0
      have f0 := P3.frozen 0
      have r1 := B3.cell 1
      simp only [List.getElem?_cons_zero, List.getElem?_cons_succ] at p0 r1
      clear hc hx hW3 hG hP hsq E3
      go_upto_region 5 with fail
      rw [HW3.out]
      clear HW3 q1 q2
      by_cases hxb : xb = []
      · subst hxb
        have hs2 := hs.out
        rw [if_pos rfl] at hs2
        have HS := Kp.mk hs2
        clear hs hs2
        go_wp2
        go_roundw
        case rel => exact ⟨q + 1, by omega, by go_num, G3, by rw [HS.out]; exact P3⟩
        case measure => simp [intOf]; omega
      · have dz : xb.isEmpty = false := isEmpty_ne hxb
        have hs2 := hs.out
        rw [if_neg hxb] at hs2
        have HS := Kp.mk hs2
        clear hs hs2
        go_wp2
        go_roundw
        case rel => exact ⟨q + 1, by omega, by go_num, grown_st G3 _, by rw [HS.out]; have h := P3.set 0 (.int .i64 ((n + l.length + 1 + sq : Nat) + 1)); simpa [Int.add_assoc] using h⟩
        case measure => simp [intOf]; omega
    · have ht : l.take q = l := List.take_of_length_le (by omega)
      rw [ht] at hP
      clear ht
      go_wp2
      exact bodyPost_ret (v := .tuple #[]) (by simp [results, Tryz.results55, go_sem]) rfl ⟨rfl, hG, by
        unfold mostT
        dsimp only
        have e : n + (l.length + 1 + sealed l) = n + l.length + 1 + sealed l := by omega
        rw [e]; exact hP⟩
end Go.Proofs.YtejhiekikblbiaaGreatDoor
