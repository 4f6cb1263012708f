/-
  Package verify: the first discharge for a ticket; is a bundle too much. No condition.
-/
import Derived.Test.YtejhiekikblbiaaGreatDoorVe2
namespace Go.Proofs.YtejhiekikblbiaaGreatDoor
open Go.RowKit

theorem bool_cell {l : List Bool} {k : Nat} (h : k < l.length) : (l.map Value.bool)[k]? = some (.bool l[k]) := by rw [List.getElem?_map, List.getElem?_eq_getElem h]; rfl
theorem toks_at {w W : World} {mv : Value} {more : List TokA} (h : RdToks w w.heap.size mv more) (hE : Ext w W) : RdToks W W.heap.size mv more := h.at hE
/-- A token among tokens that are only read, its cells. -/
theorem RdToks.tok {w : World} {A : Option Addr} {n c : Nat} {l : List TokA} (h : RdToks w w.heap.size (.slice A n c) l) (k : Nat) (hk : k < l.length) : ∃ b off, A = some ⟨b, off, none⟩ ∧ n = l.length ∧ ∀ W, Ext w W → W.cell? ⟨b, off + k * 3, none⟩ = some (.string (ofL l[k].id)) ∧ W.cell? ⟨b, off + k * 3 + 1, none⟩ = some (.slice l[k].A l[k].l.length l[k].c) ∧ W.cell? ⟨b, off + k * 3 + 2, none⟩ = some (.string (ofL l[k].tag)) := by
  obtain ⟨A', c', e, _, hc⟩ := h.cells
  cases e
  obtain ⟨b, off, rfl, hb, hcell⟩ := hc (by omega)
  exact ⟨b, off, rfl, rfl, fun W hW => ⟨((bcell hW).1 b _ hb).trans (hcell k hk).1, ((bcell hW).1 b _ hb).trans (hcell k hk).2.1, ((bcell hW).1 b _ hb).trans (hcell k hk).2.2⟩⟩

def FindPost (w : World) (g : Nat) (t : TokA) (mv : Value) (more : List TokA) (s : PrL) (L : List PvA) (vu vl vt : Value) (r : Option Nat) (e : Ending) (V1 : World) : Prop :=
  match r with
  | none => e = .returned (.int .i64 (-1)) ∧ PrSt w V1 g t mv more s L vu vl vt
  | some i => e = .returned (.int .i64 i) ∧ PrSt w V1 g t mv more ⟨s.used.set i true, s.list, s.texts, s.work, s.sum⟩ L vu vl vt
set_option maxRecDepth 100000 in
set_option maxHeartbeats 8000000 in
theorem vfind_any {w V0 : World} {g : Nat} {t : TokA} {A : Option Addr} {c : Nat} {more : List TokA} {s : PrL} {L : List PvA} {vu vl vt : Value} (hS : PrSt w V0 g t (.slice A more.length c) more s L vu vl vt) (hm : RdToks w w.heap.size (.slice A more.length c) more) (hu : s.used.length = more.length) (hn : more.length ≤ 10000) (tk : List UInt8) :
    Calls Tryz.prog 122 #[.pointer (some ⟨g, 0, none⟩), .string (ofL tk)] V0 (FindPost w g t (.slice A more.length c) more s L vu vl vt (findL tk (more.map TokA.plain) s.used)) := by
  have HM := Kp.mk hm
  have HU := Kp.mk hu
  have q3 := hS.box.cell 3
  rw [(prCells_get _ _ _ _ _ _).2.2.2.1] at q3
  have HF := Kp.mk (show (∀ j, j < more.length → ∀ d, (more.map TokA.plain)[j]? = some d → s.used[j]? = some false → d.id ≠ tk) → findL tk (more.map TokA.plain) s.used = none from fun h => findL_not (by simpa using hu.symm) (by simpa using h))
  have HG := Kp.mk (show ∀ i, (∀ j, j < i → ∀ d, (more.map TokA.plain)[j]? = some d → s.used[j]? = some false → d.id ≠ tk) → ∀ d, (more.map TokA.plain)[i]? = some d → s.used[i]? = some false → d.id = tk → findL tk (more.map TokA.plain) s.used = some i from fun i h d h1 h2 h3 => findL_here (by simpa using hu.symm) h h1 h2 h3)
  obtain ⟨R, hR⟩ : ∃ R, findL tk (more.map TokA.plain) s.used = R := ⟨_, rfl⟩
  rw [hR] at HF HG ⊢
  clear hR hm hu
  go_enter Tryz.func122, Tryz.ntmps122
  go_wp2_with fail
  clear q3
  go_loopw [13] (fun i wr => ∃ k : Nat, k ≤ more.length ∧ i = .int .i64 k ∧ PrSt w wr g t (.slice A more.length c) more s L vu vl vt ∧ ∀ j, j < k → ∀ d, (more.map TokA.plain)[j]? = some d → s.used[j]? = some false → d.id ≠ tk) (fun i _ => more.length - (intOf i).toNat)
  case atStart => exact ⟨0, by omega, rfl, hS, fun j hj => absurd hj (by omega)⟩
  case round =>
    clear hS
    obtain ⟨k, hk, rfl, hS, hno0⟩ := hrel
    have hno := Kp.mk hno0
    clear hno0
    by_cases hlt : k < more.length
    · obtain ⟨b, off, rfl, _, hcell⟩ := HM.out.tok k hlt
      obtain ⟨d, hd⟩ : ∃ d, more[k] = d := ⟨_, rfl⟩
      have HD := Kp.mk (show (more.map TokA.plain)[k]? = some d.plain by rw [List.getElem?_map, List.getElem?_eq_getElem hlt, hd]; rfl)
      rw [hd] at hcell
      have hkU : k < s.used.length := by rw [HU.out]; exact hlt
      obtain ⟨ub, hub⟩ : ∃ ub, s.used[k] = ub := ⟨_, rfl⟩
      have HUB := Kp.mk (show s.used[k]? = some ub by rw [List.getElem?_eq_getElem hkU, hub])
      obtain ⟨gu, cu, rfl⟩ : ∃ gu cu, vu = .slice (some ⟨gu, 0, none⟩) more.length cu := by
        rcases hS.used.2 with ⟨_, h0⟩ | ⟨gu, cap, cur, rfl, _⟩
        · omega
        · exact ⟨gu, cap, rfl⟩
      obtain ⟨r0, r1, r2⟩ := hcell wr hS.ext
      have q4 := hS.box.cell 4
      rw [(prCells_get _ _ _ _ _ _).2.2.2.2.1] at q4
      have E6 : Ext wr (wr.alloc (.cells #[.string (ofL d.id), .slice d.A d.l.length d.c, .string (ofL d.tag)] 33)) := (Ext.rfl' wr).al _
      have S6 := Kp.mk (hS.up E6)
      have u4 : (wr.alloc (.cells #[.string (ofL d.id), .slice d.A d.l.length d.c, .string (ofL d.tag)] 33)).cell? ⟨gu, k, none⟩ = some (.bool ub) := by
        have h := S6.out.used.cellAt k (by omega)
        rw [h, bool_cell hkU, hub]
      have f4 : (wr.alloc (.cells #[.string (ofL d.id), .slice d.A d.l.length d.c, .string (ofL d.tag)] 33)).frozen? ⟨gu, k, none⟩ = false := S6.out.used.frozenAt k
      have zi : (ofL d.id).size = d.id.length := size_ofL _
      have q4' : (wr.alloc (.cells #[.string (ofL d.id), .slice d.A d.l.length d.c, .string (ofL d.tag)] 33)).cell? ⟨g, 4, none⟩ = some (.slice (some ⟨gu, 0, none⟩) more.length cu) := ((bcell E6).1 g 4 hS.box.lt).trans q4
      clear hcell hd hS hub E6
      cases ub with
      | true =>
        go_wp2
        go_roundw
        case rel =>
          refine ⟨k + 1, by omega, by go_num, S6.out, fun j hj e he hu9 => ?_⟩
          rcases Nat.lt_or_ge j k with h | h
          · exact hno.out j h e he hu9
          · obtain rfl : j = k := by omega
            rw [HUB.out] at hu9; cases hu9
        case measure => simp [intOf]; omega
      | false =>
        by_cases hid : d.id = tk
        · have hRk := Kp.mk (HG.out k hno.out d.plain HD.out HUB.out hid)
          have d1 : (d.id == tk) = true := by simp [hid]
          clear hid
          go_wp2
          go_ret
          rw [hRk.out]
          exact ⟨rfl, S6.out.mark rfl k⟩
        · have d1 : (d.id == tk) = false := by simp [hid]
          have hid2 := Kp.mk hid
          clear hid
          go_wp2
          go_roundw
          case rel =>
            refine ⟨k + 1, by omega, by go_num, S6.out, fun j hj e he hu9 => ?_⟩
            rcases Nat.lt_or_ge j k with h | h
            · exact hno.out j h e he hu9
            · obtain rfl : j = k := by omega
              rw [HD.out] at he; cases he
              exact hid2.out
          case measure => simp [intOf]; omega
    · have hN := Kp.mk (HF.out (fun j hj => hno.out j (by omega)))
      go_wp2
      go_ret
      rw [hN.out]
      exact ⟨rfl, hS⟩
end Go.Proofs.YtejhiekikblbiaaGreatDoor
