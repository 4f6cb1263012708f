/-
  Package field's reader: Text, Byte, End and Fail do what the named plain functions say. Condition: what is left is at most 1000000 bytes.
-/
import Derived.Test.YtmnpbpfeoackiaaDoorFld3
namespace Go.Proofs.YtmnpbpfeoackiaaDoor
open Go.RowKit

theorem cf_text1 (caps : Array Value) (W : World) : (callFunc 89 caps).run Tryd.prog W = .ok (.enter 89 caps) W := by simp [go_sem]
theorem cf_byte1 (caps : Array Value) (W : World) : (callFunc 117 caps).run Tryd.prog W = .ok (.enter 117 caps) W := by simp [go_sem]

theorem rText_ok {s : List UInt8} {most : Int} {n k : Nat} (hv : vtake s = (n, k, 0)) (hn : n ≤ most.toNat) (hl : n ≤ (s.drop k).length) : rText (s, 0) most = ((s.drop k).take n, ((s.drop k).drop n, 0)) := by
  unfold rText
  rw [rNum_ok hv hn]
  rw [if_neg (by simp), if_neg (by simp at hl ⊢; omega)]
theorem rText_end {s : List UInt8} {most : Int} {n k : Nat} (hv : vtake s = (n, k, 0)) (hn : n ≤ most.toNat) (hl : (s.drop k).length < n) : rText (s, 0) most = ([], ([], 1)) := by
  unfold rText
  rw [rNum_ok hv hn]
  rw [if_neg (by simp), if_pos (by exact hl)]
theorem rText_no {s : List UInt8} {most : Int} (hv : (vtake s).2.2 ≠ 0 ∨ most.toNat < (vtake s).1) : rText (s, 0) most = ([], ([], numErr s most.toNat)) := by
  unfold rText
  rw [rNum_no hv, if_pos (numErr_ne s most.toNat)]

set_option maxRecDepth 100000 in
set_option maxHeartbeats 1000000 in
theorem text_any (g : Nat) (x : RS) (m : Int) (w : World) (h : Rdr w g true x.1 x.2) (hs : x.1.length ≤ 1000000) (hm : m ≤ 9223372036854775807) :
    Calls Tryd.prog 52 #[.pointer (some ⟨g, 0, none⟩), .int .i64 m] w fun e w' => e = .returned (.string (ofL (rText x m).1)) ∧ Rdr w' g true (rText x m).2.1 (rText x m).2.2 ∧ Only g w w' := by
  obtain ⟨s, er⟩ := x
  have hg := h.lt
  have hmf := Tryd.mkfn
  obtain ⟨w3, hw3, hE3, p0, p1, p2, q2, hz⟩ := boxes3 w (.pointer (some ⟨g, 0, none⟩)) (.int .i64 m) (.string (ofL [])) 84 3 9
  have HW3 := Lib.hid hw3; clear hw3
  have HZ := Lib.hid hz; clear hz
  have h3 := h.ext hE3
  have e1 : max m 0 = ((m.toNat : Nat) : Int) := (Int.toNat_eq_max m).symm
  have hM : m.toNat ≤ 9223372036854775807 := by omega
  obtain ⟨M, rM⟩ : ∃ M, m.toNat = M := ⟨_, rfl⟩
  rw [rM] at e1 hM
  have BAD : ∀ xe : Int, xe ≠ 0 → (∀ W, Ext w3 W → Calls Tryd.prog 89 #[.pointer (some ⟨w.heap.size, 0, none⟩), .pointer (some ⟨w.heap.size + 1, 0, none⟩), .pointer (some ⟨w.heap.size + 1 + 1, 0, none⟩)] W fun e W' => e = .panicked [{ v := .iface 173 (.agg #[.int .i64 xe]), recovered := false }] ∧ (∃ s', Rdr W' g true s' 0) ∧ Only g W W') → er = 0 →
      Calls Tryd.prog 52 #[.pointer (some ⟨g, 0, none⟩), .int .i64 m] w fun e w' => e = .returned (.string (ofL [])) ∧ Rdr w' g true [] xe ∧ Only g w w' := by
    intro xe hxe hcall h0
    subst h0
    clear e1 hM rM hs hm
    go_enter Tryd.func52, Tryd.ntmps52
    go_wp2_with fail
    rw [show (⟨#[]⟩ : ByteArray) = ofL [] from rfl, ← HW3.out]
    refine (read_bad g s xe 89 _ w3 h3 hxe (cf_text1 _) hcall).mono ?_
    rintro e w4 ⟨rfl, hR, hO⟩
    have hsz := HZ.out
    have p2' := (World.cell?_of_block (w := w3) (a := ⟨w.heap.size + 1 + 1, 0, none⟩) (hO.block (w.heap.size + 1 + 1) (by omega) (by simp; omega))).trans p2
    have q2' := (World.frozen?_of_block (w := w3) (a := ⟨w.heap.size + 1 + 1, 0, none⟩) (hO.block (w.heap.size + 1 + 1) (by omega) (by simp; omega))).trans q2
    have hO' : Only g w w4 := (Only.of hE3).tr hO
    clear hsz hO
    go_wp2
    have fin := cell_set_same p2' (.string (ofL []))
    refine bodyPost_ret (v := .string (ofL [])) (by simp [results, Tryd.results52, go_sem, fin]) rfl ?_
    exact ⟨rfl, hR.stNew (by simp; omega) _, hO'.stNew (by simp; omega) _⟩
  by_cases h0 : er = 0
  · subst h0
    rcases vtake_cases s m.toNat with ⟨n, k, hv, hn⟩ | hv
    · by_cases hl : n ≤ (s.drop k).length
      · rw [rText_ok hv hn hl]
        rw [rM] at hn
        clear BAD rM hm
        have HM := Lib.hid hM; clear hM
        have HL := Lib.hid hl; clear hl
        go_enter Tryd.func52, Tryd.ntmps52
        go_wp2_with fail
        rw [show (⟨#[]⟩ : ByteArray) = ofL [] from rfl, ← HW3.out]
        refine (read_ok g s 89 _ w3 h3 (fun W' => Rdr W' g true ((s.drop k).drop n) 0 ∧ Only g w W' ∧ W'.cell? ⟨w.heap.size + 1 + 1, 0, none⟩ = some (.string (ofL ((s.drop k).take n))) ∧ W'.frozen? ⟨w.heap.size + 1 + 1, 0, none⟩ = false) (cf_text1 _) ?_).mono ?_
        · intro W hE
          obtain ⟨kc, kf⟩ := bcell hE
          have hsz := HZ.out
          refine (text1_ok g _ _ _ s m M n k _ W (h3.ext hE) hs e1 HM.out hv hn HL.out ((kc _ _ (by omega)).trans p0) ((kc _ _ (by omega)).trans p1) ((kc _ _ (by omega)).trans p2) ((kf _ _ (by omega)).trans q2) (by omega) (by omega) (by omega) (by omega) (by omega)).mono ?_
          rintro e W' ⟨rfl, w1, hO, hR, rfl⟩
          have hO' : Only g w w1 := (Only.of (hE3.tr hE)).tr hO
          have hb : w1.cell? ⟨w.heap.size + 1 + 1, 0, none⟩ = some (.string (ofL [])) := (World.cell?_of_block (w := W) (a := ⟨w.heap.size + 1 + 1, 0, none⟩) (hO.block (w.heap.size + 1 + 1) (by have := hE.size; omega) (by simp; omega))).trans ((kc _ _ (by omega)).trans p2)
          have hf : w1.frozen? ⟨w.heap.size + 1 + 1, 0, none⟩ = false := (World.frozen?_of_block (w := W) (a := ⟨w.heap.size + 1 + 1, 0, none⟩) (hO.block (w.heap.size + 1 + 1) (by have := hE.size; omega) (by simp; omega))).trans ((kf _ _ (by omega)).trans q2)
          refine ⟨rfl, hR.stNew (by simp; omega) _, hO'.stNew (by simp; omega) _, cell_set_same hb _, ?_⟩
          simp [go_sem, hf]
        rintro e w4 ⟨rfl, hR, hO, hc, hf⟩
        go_wp2
        have fin := cell_set_same hc (.string (ofL ((s.drop k).take n)))
        refine bodyPost_ret (v := .string (ofL ((s.drop k).take n))) (by simp [results, Tryd.results52, go_sem, fin]) rfl ?_
        exact ⟨rfl, hR.stNew (by simp; omega) _, hO.stNew (by simp; omega) _⟩
      · rw [rText_end hv hn (by omega)]
        refine BAD 1 (by decide) (fun W hE => ?_) rfl
        obtain ⟨kc, kf⟩ := bcell hE
        have hsz := HZ.out
        rw [rM] at hn
        exact text1_end g _ _ _ s m M n k W (h3.ext hE) hs e1 hM hv hn (by omega) ((kc _ _ (by omega)).trans p0) ((kc _ _ (by omega)).trans p1) (by omega) (by omega)
    · rw [rText_no hv, rM]
      refine BAD _ (numErr_ne s M) (fun W hE => ?_) rfl
      obtain ⟨kc, kf⟩ := bcell hE
      have hsz := HZ.out
      rw [rM] at hv
      exact text1_bad g _ _ _ s m M W (h3.ext hE) hs e1 hM hv ((kc _ _ (by omega)).trans p0) ((kc _ _ (by omega)).trans p1)
  · rw [rText_bad _ h0]
    clear BAD e1 hM rM hm
    go_enter Tryd.func52, Tryd.ntmps52
    go_wp2_with fail
    rw [show (⟨#[]⟩ : ByteArray) = ofL [] from rfl, ← HW3.out]
    refine (read_skip g s er 89 _ w3 h3 h0).mono ?_
    rintro e w4 ⟨rfl, hE⟩
    have hsz := HZ.out
    have p2' := ((bcell hE).1 _ _ (by omega)).trans p2
    have q2' := ((bcell hE).2 _ _ (by omega)).trans q2
    have hR := h3.ext hE
    have hO' : Only g w w4 := Only.of (hE3.tr hE)
    clear hsz
    go_wp2
    have fin := cell_set_same p2' (.string (ofL []))
    refine bodyPost_ret (v := .string (ofL [])) (by simp [results, Tryd.results52, go_sem, fin]) rfl ?_
    exact ⟨rfl, hR.stNew (by simp; omega) _, hO'.stNew (by simp; omega) _⟩

set_option maxRecDepth 100000 in
set_option maxHeartbeats 1000000 in
theorem byte1_ok (g b0 b1 : Nat) (s : List UInt8) (v0 : Value) (w : World) (h : Rdr w g true s 0) (hs : s.length ≤ 1000000) (hl : s ≠ [])
    (p0 : w.cell? ⟨b0, 0, none⟩ = some (.pointer (some ⟨g, 0, none⟩))) (p2 : w.cell? ⟨b1, 0, none⟩ = some v0) (q2 : w.frozen? ⟨b1, 0, none⟩ = false) (hg : b1 ≠ g) :
    Calls Tryd.prog 117 #[.pointer (some ⟨b0, 0, none⟩), .pointer (some ⟨b1, 0, none⟩)] w fun e w' => e = .returned (.tuple #[]) ∧ ∃ w1, Only g w w1 ∧ Rdr w1 g true (s.drop 1) 0 ∧ w' = w1.setCell ⟨b1, 0, none⟩ (.int .u8 (s.headD 0).toNat) := by
  obtain ⟨x, r, rfl⟩ : ∃ x r, s = x :: r := by cases s with
    | nil => exact absurd rfl hl
    | cons x r => exact ⟨x, r, rfl⟩
  have hlt := World.block_lt_of_cell? _ _ p2
  have e1 : (ofL (List.take 1 (x :: r))).size = 1 := by simp [size_ofL]
  have e2 : (ofL (List.take 1 (x :: r))).data[0]?.map (fun b => (b.toNat : Int)) = some (x.toNat : Int) := rfl
  clear hl
  go_enter Tryd.func117, Tryd.ntmps117
  go_wp2_with fail
  refine (take_any g (x :: r) 1 _ h (by simp) hs).mono ?_
  rintro e w1 ⟨rfl, hR, hO⟩
  have p2' := (World.cell?_of_block (w := w) (a := ⟨b1, 0, none⟩) (hO.block b1 hlt (by simpa using hg))).trans p2
  have q2' := (World.frozen?_of_block (w := w) (a := ⟨b1, 0, none⟩) (hO.block b1 hlt (by simpa using hg))).trans q2
  go_wp2
  go_end0
  exact ⟨rfl, w1, hO, hR, rfl⟩

set_option maxRecDepth 100000 in
set_option maxHeartbeats 1000000 in
theorem byte1_end (g b0 b1 : Nat) (w : World) (h : Rdr w g true [] 0)
    (p0 : w.cell? ⟨b0, 0, none⟩ = some (.pointer (some ⟨g, 0, none⟩))) :
    Calls Tryd.prog 117 #[.pointer (some ⟨b0, 0, none⟩), .pointer (some ⟨b1, 0, none⟩)] w fun e w' => e = .panicked [{ v := .iface 173 (.agg #[.int .i64 1]), recovered := false }] ∧ (∃ s', Rdr w' g true s' 0) ∧ Only g w w' := by
  go_enter Tryd.func117, Tryd.ntmps117
  go_wp2_with fail
  refine (take_end g [] 1 _ h (by simp) (by simp)).mono ?_
  rintro e w1 ⟨rfl, rfl⟩
  go_wp2
  simp [bodyPost]
  exact ⟨⟨_, h⟩, Only.rfl' g w⟩

theorem rByte_ok {s : List UInt8} (hl : s ≠ []) : rByte (s, 0) = (s.headD 0, (s.drop 1, 0)) := by
  unfold rByte
  rw [if_neg (by simp), if_neg (by exact hl)]
theorem rByte_end : rByte ([], 0) = (0, ([], 1)) := rfl

set_option maxRecDepth 100000 in
set_option maxHeartbeats 1000000 in
theorem byte_any (g : Nat) (x : RS) (w : World) (h : Rdr w g true x.1 x.2) (hs : x.1.length ≤ 1000000) :
    Calls Tryd.prog 93 #[.pointer (some ⟨g, 0, none⟩)] w fun e w' => e = .returned (.int .u8 (rByte x).1.toNat) ∧ Rdr w' g true (rByte x).2.1 (rByte x).2.2 ∧ Only g w w' := by
  obtain ⟨s, er⟩ := x
  have hg := h.lt
  have hmf := Tryd.mkfn
  obtain ⟨w3, hw3, hE3, p0, p2, q2, hz⟩ := boxes2 w (.pointer (some ⟨g, 0, none⟩)) (.int .u8 0) 84 5
  have HW3 := Lib.hid hw3; clear hw3
  have HZ := Lib.hid hz; clear hz
  have h3 := h.ext hE3
  have BAD : ∀ xe : Int, xe ≠ 0 → (∀ W, Ext w3 W → Calls Tryd.prog 117 #[.pointer (some ⟨w.heap.size, 0, none⟩), .pointer (some ⟨w.heap.size + 1, 0, none⟩)] W fun e W' => e = .panicked [{ v := .iface 173 (.agg #[.int .i64 xe]), recovered := false }] ∧ (∃ s', Rdr W' g true s' 0) ∧ Only g W W') → er = 0 →
      Calls Tryd.prog 93 #[.pointer (some ⟨g, 0, none⟩)] w fun e w' => e = .returned (.int .u8 0) ∧ Rdr w' g true [] xe ∧ Only g w w' := by
    intro xe hxe hcall h0
    subst h0
    clear hs
    go_enter Tryd.func93, Tryd.ntmps93
    go_wp2_with fail
    rw [← HW3.out]
    refine (read_bad g s xe 117 _ w3 h3 hxe (cf_byte1 _) hcall).mono ?_
    rintro e w4 ⟨rfl, hR, hO⟩
    have hsz := HZ.out
    have p2' := (World.cell?_of_block (w := w3) (a := ⟨w.heap.size + 1, 0, none⟩) (hO.block (w.heap.size + 1) (by omega) (by simp <;> omega))).trans p2
    have q2' := (World.frozen?_of_block (w := w3) (a := ⟨w.heap.size + 1, 0, none⟩) (hO.block (w.heap.size + 1) (by omega) (by simp <;> omega))).trans q2
    have hO' : Only g w w4 := (Only.of hE3).tr hO
    clear hsz hO
    go_wp2
    have fin := cell_set_same p2' (.int .u8 0)
    refine bodyPost_ret (v := .int .u8 0) (by simp [results, Tryd.results93, go_sem, fin]) rfl ?_
    exact ⟨rfl, hR.stNew (by simp <;> omega) _, hO'.stNew (by simp <;> omega) _⟩
  by_cases h0 : er = 0
  · subst h0
    by_cases hl : s ≠ []
    · rw [rByte_ok hl]
      clear BAD
      obtain ⟨c, hc⟩ : ∃ c, c = s.headD 0 := ⟨_, rfl⟩
      rw [← hc]
      have HC := Lib.hid hc; clear hc
      have HL := Lib.hid hl; clear hl
      go_enter Tryd.func93, Tryd.ntmps93
      go_wp2_with fail
      rw [← HW3.out]
      refine (read_ok g s 117 _ w3 h3 (fun W' => Rdr W' g true (s.drop 1) 0 ∧ Only g w W' ∧ W'.cell? ⟨w.heap.size + 1, 0, none⟩ = some (.int .u8 c.toNat) ∧ W'.frozen? ⟨w.heap.size + 1, 0, none⟩ = false) (cf_byte1 _) ?_).mono ?_
      · intro W hE
        obtain ⟨kc, kf⟩ := bcell hE
        have hsz := HZ.out
        rw [HC.out]
        refine (byte1_ok g _ _ s _ W (h3.ext hE) hs HL.out ((kc _ _ (by omega)).trans p0) ((kc _ _ (by omega)).trans p2) ((kf _ _ (by omega)).trans q2) (by omega)).mono ?_
        rintro e W' ⟨rfl, w1, hO, hR, rfl⟩
        have hO' : Only g w w1 := (Only.of (hE3.tr hE)).tr hO
        have hb : w1.cell? ⟨w.heap.size + 1, 0, none⟩ = some (.int .u8 0) := (World.cell?_of_block (w := W) (a := ⟨w.heap.size + 1, 0, none⟩) (hO.block (w.heap.size + 1) (by have := hE.size; omega) (by simp <;> omega))).trans ((kc _ _ (by omega)).trans p2)
        have hf : w1.frozen? ⟨w.heap.size + 1, 0, none⟩ = false := (World.frozen?_of_block (w := W) (a := ⟨w.heap.size + 1, 0, none⟩) (hO.block (w.heap.size + 1) (by have := hE.size; omega) (by simp <;> omega))).trans ((kf _ _ (by omega)).trans q2)
        refine ⟨rfl, hR.stNew (by simp <;> omega) _, hO'.stNew (by simp <;> omega) _, cell_set_same hb _, ?_⟩
        simp [go_sem, hf]
      rintro e w4 ⟨rfl, hR, hO, hc, hf⟩
      go_wp2
      have fin := cell_set_same hc (.int .u8 c.toNat)
      refine bodyPost_ret (v := .int .u8 c.toNat) (by simp [results, Tryd.results93, go_sem, fin]) rfl ?_
      exact ⟨rfl, hR.stNew (by simp <;> omega) _, hO.stNew (by simp <;> omega) _⟩
    · have hl : s = [] := by simpa using hl
      subst hl
      rw [rByte_end]
      refine BAD 1 (by decide) (fun W hE => ?_) rfl
      obtain ⟨kc, kf⟩ := bcell hE
      have hsz := HZ.out
      exact byte1_end g _ _ W (h3.ext hE) ((kc _ _ (by omega)).trans p0)
  · rw [rByte_bad (x := (s, er)) h0]
    clear BAD
    go_enter Tryd.func93, Tryd.ntmps93
    go_wp2_with fail
    rw [← HW3.out]
    refine (read_skip g s er 117 _ w3 h3 h0).mono ?_
    rintro e w4 ⟨rfl, hE⟩
    have hsz := HZ.out
    have p2' := ((bcell hE).1 _ _ (by omega)).trans p2
    have q2' := ((bcell hE).2 _ _ (by omega)).trans q2
    have hR := h3.ext hE
    have hO' : Only g w w4 := Only.of (hE3.tr hE)
    clear hsz
    go_wp2
    have fin := cell_set_same p2' (.int .u8 0)
    refine bodyPost_ret (v := .int .u8 0) (by simp [results, Tryd.results93, go_sem, fin]) rfl ?_
    exact ⟨rfl, hR.stNew (by simp <;> omega) _, hO'.stNew (by simp <;> omega) _⟩

theorem fail_any (g : Nat) (x : RS) (e : Int) (w : World) (h : Rdr w g true x.1 x.2) :
    Calls Tryd.prog 57 #[.pointer (some ⟨g, 0, none⟩), .int .i64 e] w fun ee w' => ee = .returned (.tuple #[]) ∧ Rdr w' g true (rFail x e).1 (rFail x e).2 ∧ Only g w w' := by
  obtain ⟨s, er⟩ := x
  by_cases hx : er ≠ 0 ∨ e = 0
  · have : rFail (s, er) e = (s, er) := if_pos hx
    rw [this]
    refine (fail_no g s er e w h hx).mono ?_
    rintro ee w' ⟨rfl, rfl⟩
    exact ⟨rfl, h, Only.rfl' _ _⟩
  · have : rFail (s, er) e = ([], e) := if_neg hx
    rw [this]
    have h0 : er = 0 := by omega
    subst h0
    exact fail_yes g s e w h (by omega)

set_option maxHeartbeats 400000 in
theorem end_any (g : Nat) (x : RS) (w : World) (h : Rdr w g true x.1 x.2) (hs : x.1.length ≤ 1000000) :
    Calls Tryd.prog 71 #[.pointer (some ⟨g, 0, none⟩)] w fun e w' => e = .returned (.int .i64 (rEnd x).2) ∧ Rdr w' g true (rEnd x).1 (rEnd x).2 ∧ Only g w w' := by
  obtain ⟨s, er⟩ := x
  by_cases hl : s ≠ []
  · have hx : rEnd (s, er) = rFail (s, er) 2 := if_pos hl
    rw [hx]
    have hp : 0 < s.length := List.length_pos_iff.2 hl
    have d : decide (0 < s.length) = true := by simp; omega
    generalize hy : rFail (s, er) 2 = y
    have HY := Lib.hid hy; clear hy hx hl
    go_enter Tryd.func71, Tryd.ntmps71
    go_wp2_with fail
    refine (left_any g true s er _ h).mono ?_
    rintro e w1 ⟨rfl, rfl⟩
    go_wp2_with fail
    refine (fail_any g (s, er) 2 _ h).mono ?_
    rintro e w2 ⟨rfl, hR, hO⟩
    rw [HY.out] at hR
    go_wp2_with fail
    refine (err_any g _ _ _ hR).mono ?_
    rintro e w3 ⟨rfl, rfl⟩
    go_wp2
    go_ret
    exact ⟨rfl, hR, hO⟩
  · have hl : s = [] := by simpa using hl
    subst hl
    have hx : rEnd ([], er) = ([], er) := if_neg (by simp)
    rw [hx]
    clear hx
    go_enter Tryd.func71, Tryd.ntmps71
    go_wp2_with fail
    refine (left_any g true [] er _ h).mono ?_
    rintro e w1 ⟨rfl, rfl⟩
    go_wp2_with fail
    refine (err_any g _ _ _ h).mono ?_
    rintro e w3 ⟨rfl, rfl⟩
    go_wp2
    go_ret
    exact ⟨rfl, h, Only.rfl' _ _⟩
end Go.Proofs.YtmnpbpfeoackiaaDoor
