/-
  The law FieldStays returns true at every input. No condition but the reach of a string and an int.
-/
import Derived.Test.YteclfeeeaokddaaFldLaws
import Derived.Test.YteclfeeeaokddaaRow
namespace Go.Proofs.Yteclfeeeaokddaa
open Go.RowKit Go.ChangeShapes Go.WideShapes

theorem rd_byte (g : Nat) (er : Int) (h0 : er ≠ 0) (w : World) (h : Rdr w g true [] er) :
    Calls Try.prog 34 #[.pointer (some ⟨g, 0, none⟩)] w fun e w' => e = .returned (.int .u8 0) ∧ Rdr w' g true [] er ∧ Only g w w' := by
  have := byte_any g ([], er) w h (by simp)
  rw [rByte_bad (x := ([], er)) h0] at this
  exact this
theorem rd_num (g : Nat) (er : Int) (h0 : er ≠ 0) (n : Nat) (w : World) (h : Rdr w g true [] er) :
    Calls Try.prog 27 #[.pointer (some ⟨g, 0, none⟩), .int .u64 n] w fun e w' => e = .returned (.int .u64 0) ∧ Rdr w' g true [] er ∧ Only g w w' := by
  have := num_any g ([], er) n w h (by simp)
  rw [rNum_bad (x := ([], er)) n h0] at this
  exact this
theorem rd_text (g : Nat) (er : Int) (h0 : er ≠ 0) (m : Int) (hm : m ≤ 9223372036854775807) (w : World) (h : Rdr w g true [] er) :
    Calls Try.prog 29 #[.pointer (some ⟨g, 0, none⟩), .int .i64 m] w fun e w' => e = .returned (.string ⟨#[]⟩) ∧ Rdr w' g true [] er ∧ Only g w w' := by
  have := text_any g ([], er) m w h (by simp) hm
  rw [rText_bad (x := ([], er)) m h0] at this
  exact this
theorem rd_end (g : Nat) (er : Int) (w : World) (h : Rdr w g true [] er) :
    Calls Try.prog 28 #[.pointer (some ⟨g, 0, none⟩)] w fun e w' => e = .returned (.int .i64 er) ∧ Rdr w' g true [] er ∧ Only g w w' := by
  have := end_any g ([], er) w h (by simp)
  rw [show rEnd ([], er) = ([], er) from if_neg (by simp)] at this
  exact this
theorem rd_fail (g : Nat) (er : Int) (h0 : er ≠ 0) (e : Int) (w : World) (h : Rdr w g true [] er) :
    Calls Try.prog 26 #[.pointer (some ⟨g, 0, none⟩), .int .i64 e] w fun ee w' => ee = .returned (.tuple #[]) ∧ Rdr w' g true [] er ∧ Only g w w' := by
  have := fail_any g ([], er) e w h
  rw [rFail_bad (x := ([], er)) e h0] at this
  exact this

abbrev acells (a : FAct) : List Value := [.int .i64 a.k, .int .u64 a.n, .int .i64 a.m, .int .i64 a.e]
theorem flat4 : ∀ (l : List FAct) (i j : Nat) (h : i < l.length), j < 4 → (l.map acells).flatten[i * 4 + j]? = (acells l[i])[j]?
  | a :: r, 0, j, _, hj => by
    rw [List.map_cons, List.flatten_cons, List.getElem?_append_left (by simp; omega)]; simp
  | a :: r, i + 1, j, h, hj => by
    rw [List.map_cons, List.flatten_cons, List.getElem?_append_right (by simp; omega)]
    have := flat4 r i j (by simpa using h) hj
    rw [show (i + 1) * 4 + j - (acells a).length = i * 4 + j from by simp; omega, this]
    rfl

/-- A slice of calls that came in. -/
theorem open_acts {H : Type} {enc : TypeId × Value → H} {W : World} {r : Reach} {b0 : Nat} {v : Value} {d : DataW H} {ps : List MemPlace}
    (hv : Value.okWide Try.prog W r b0 32 v) (h : DataW.Trod enc Try.prog W 0 (fun _ => true) true 32 v d ps) :
    ∃ l : List FAct, Rd W W.heap.size 4 v l.length (l.map acells).flatten ∧ l.length ≤ maxLen ∧ ∀ a ∈ l, a.n < 18446744073709551616 ∧ a.m ≤ 9223372036854775807 := by
  obtain ⟨n, css, h1, h2, h3, h4⟩ := open_rd Try.underlying32 4 (by kernel_rfl) (by omega) (fun cs => ∃ a : FAct, cs = acells a ∧ (a.n < 18446744073709551616 ∧ a.m ≤ 9223372036854775807)) (fun n cs x hx => by
    obtain ⟨hl, hf⟩ := trod_cells Try.underlying42 (by kernel_rfl) (by kernel_rfl) hx
    obtain ⟨n0, u0, y0, g0, t0⟩ := hf 0 _ rfl
    obtain ⟨n1, u1, y1, g1, t1⟩ := hf 1 _ rfl
    obtain ⟨n2, u2, y2, g2, t2⟩ := hf 2 _ rfl
    obtain ⟨n3, u3, y3, g3, t3⟩ := hf 3 _ rfl
    obtain ⟨z0, q0, _, _⟩ := DataW.trod_int Try.underlying3 t0
    obtain ⟨z1, q1, _, w1⟩ := DataW.trod_int Try.underlying40 t1
    obtain ⟨z2, q2, _, w2⟩ := DataW.trod_int Try.underlying3 t2
    obtain ⟨z3, q3, _, _⟩ := DataW.trod_int Try.underlying35 t3
    obtain ⟨m1, rfl, hm1⟩ := wf_u64 w1
    simp only [List.cons.injEq, and_true] at q0 q1 q2 q3
    subst q0; subst q1; subst q2; subst q3
    refine ⟨⟨z0, m1, z2, z3⟩, ?_, hm1, (wf_i64 w2).2⟩
    match cs, hl with
    | [a, b, c, d], _ =>
      simp at g0 g1 g2 g3
      simp [g0, g1, g2, g3]) hv h
  obtain ⟨ss, rfl, h5⟩ := list_choose css (fun c hc => (h4 c hc).2)
  simp at h2
  subst h2
  exact ⟨ss, h1, h3, h5⟩

set_option maxRecDepth 100000 in
set_option maxHeartbeats 2000000 in
theorem fieldStays_walk (s : ByteArray) (er : Int) (v : Value) (l : List FAct) (w : World) (_hs : s.size ≤ maxLen) (_hw : (Lit.int .i64 er).wf = true) (hv : Rd w w.heap.size 4 v l.length (l.map acells).flatten) (_hn0 : l.length ≤ maxLen) (hm : ∀ a ∈ l, a.n < 18446744073709551616 ∧ a.m ≤ 9223372036854775807) :
    Calls Try.prog 8 #[.string s, .int .i64 er, v] w fun e w' => e = .returned (.bool true) ∧ Ext w w' := by
  clear _hs _hw _hn0
  obtain ⟨A, c, rfl, hn, hlen, hc⟩ := hv
  have skip : (500 < s.size ∨ 40 < l.length ∨ er = 0) → Calls Try.prog 8 #[.string s, .int .i64 er, .slice A l.length c] w fun e w' => e = .returned (.bool true) ∧ Ext w w' := by
    intro hor
    clear hc hm
    by_cases h1 : 500 < s.size
    · have d1 : decide ((500 : Int) < s.size) = true := by simp; omega
      go_enter Try.func8, Try.ntmps8
      go_wp2_with fail
      refine (works08_any _).mono ?_
      rintro e w1 ⟨rfl, hE⟩
      go_wp2
      go_ret
      exact ⟨rfl, hE⟩
    · have d1 : decide ((500 : Int) < s.size) = false := by simp; omega
      by_cases h2 : 40 < l.length
      · have d2 : decide ((40 : Int) < l.length) = true := by simp; omega
        go_enter Try.func8, Try.ntmps8
        go_wp2_with fail
        refine (works08_any _).mono ?_
        rintro e w1 ⟨rfl, hE⟩
        go_wp2
        go_ret
        exact ⟨rfl, hE⟩
      · have d2 : decide ((40 : Int) < l.length) = false := by simp; omega
        have h3 : er = 0 := by omega
        subst h3
        go_enter Try.func8, Try.ntmps8
        go_wp2_with fail
        refine (works08_any _).mono ?_
        rintro e w1 ⟨rfl, hE⟩
        go_wp2
        go_ret
        exact ⟨rfl, hE⟩
  by_cases hor : 500 < s.size ∨ 40 < l.length ∨ er = 0
  · exact skip hor
  clear skip
  have hs1 : s.size ≤ 500 := by omega
  have hl1 : l.length ≤ 40 := by omega
  have h0 : er ≠ 0 := by omega
  have d1 : decide ((500 : Int) < s.size) = false := by simp; omega
  have d2 : decide ((40 : Int) < l.length) = false := by simp; omega
  have d3 : (er == 0) = false := beq_int_f h0
  clear hor
  have HC := Lib.hid hc; clear hc
  have HM := Lib.hid hm; clear hm
  go_enter Try.func8, Try.ntmps8
  go_wp2_with fail
  refine (new_any s _).mono ?_
  rintro e w1 ⟨rfl, h1, hE1⟩
  go_wp2_with fail
  refine (fail_yes _ _ er _ h1 h0).mono ?_
  rintro e w2 ⟨rfl, h2, hO2⟩
  have hE2 : Ext w w2 := hO2.toExt hE1 (by omega)
  clear hO2 h1 hE1
  have H2 := Lib.hid h2; clear h2
  go_wp2
  go_loopw [8] (fun i wr => ∃ k : Nat, k ≤ l.length ∧ i = .int .i64 k ∧ Ext w wr ∧ Rdr wr w.heap.size true [] er) (fun i _ => l.length - (intOf i).toNat)
  case atStart => exact ⟨0, by simp, rfl, hE2, H2.out⟩
  case round =>
    obtain ⟨k, hk, rfl, hE, hR⟩ := hrel
    by_cases hlt : k < l.length
    · have dk : decide ((k : Int) < l.length) = true := by simp; omega
      obtain ⟨bb, off, rfl, hbb, hc⟩ := HC.out (by omega)
      have ha : l[k].m ≤ 9223372036854775807 := (HM.out _ (List.getElem_mem hlt)).2
      generalize hg : l[k] = a at ha
      have f1 : wr.cell? ⟨bb, off + k * 4 + 1, none⟩ = some (.int .u64 a.n) := ((bcell hE).1 bb _ hbb).trans (by rw [Nat.add_assoc]; exact hc _ _ (by rw [flat4 l k 1 hlt (by omega), hg]; rfl))
      have f2 : wr.cell? ⟨bb, off + k * 4 + 2, none⟩ = some (.int .i64 a.m) := ((bcell hE).1 bb _ hbb).trans (by rw [Nat.add_assoc]; exact hc _ _ (by rw [flat4 l k 2 hlt (by omega), hg]; rfl))
      have f3 : wr.cell? ⟨bb, off + k * 4 + 3, none⟩ = some (.int .i64 a.e) := ((bcell hE).1 bb _ hbb).trans (by rw [Nat.add_assoc]; exact hc _ _ (by rw [flat4 l k 3 hlt (by omega), hg]; rfl))
      clear hg hc
      have ne : bb ≠ w.heap.size := by omega
      go_wp2_with fail
      refine (rd_fail _ _ h0 _ _ hR).mono ?_
      rintro e w3 ⟨rfl, R3, O3⟩
      have f4 := O3.cellAt f1 ne
      have f5 := O3.cellAt f2 ne
      clear hR f1 f2 f3
      go_wp2_with fail
      refine (rd_byte _ _ h0 _ R3).mono ?_
      rintro e w4 ⟨rfl, R4, O4⟩
      have f6 := O4.cellAt f4 ne
      have f7 := O4.cellAt f5 ne
      clear R3 f4 f5
      go_wp2_with fail
      refine (rd_num _ _ h0 _ _ R4).mono ?_
      rintro e w5 ⟨rfl, R5, O5⟩
      have f8 := O5.cellAt f7 ne
      clear R4 f6 f7
      go_wp2_with fail
      refine (rd_text _ _ h0 _ ha _ R5).mono ?_
      rintro e w6 ⟨rfl, R6, O6⟩
      clear R5 f8
      go_wp2_with fail
      refine (left_any _ true _ _ _ R6).mono ?_
      rintro e w7 ⟨rfl, rfl⟩
      go_wp2_with fail
      refine (rd_end _ _ _ R6).mono ?_
      rintro e w7 ⟨rfl, R7, O7⟩
      go_wp2_with fail
      refine (err_any _ _ _ _ R7).mono ?_
      rintro e w8 ⟨rfl, rfl⟩
      go_wp2
      exact ⟨⟨k + 1, by omega, by go_num, O7.toExt (O6.toExt (O5.toExt (O4.toExt (O3.toExt hE (Nat.le_refl _)) (Nat.le_refl _)) (Nat.le_refl _)) (Nat.le_refl _)) (Nat.le_refl _), R7⟩, by simp [intOf]; omega⟩
    · have dk : decide ((k : Int) < l.length) = false := by simp; omega
      go_wp2_with fail
      refine (err_any _ _ _ _ hR).mono ?_
      rintro e w3 ⟨rfl, rfl⟩
      go_wp2_with fail
      refine (works08_any _).mono ?_
      rintro e w4 ⟨rfl, hE4⟩
      go_wp2
      go_ret
      exact ⟨rfl, hE.tr hE4⟩
end Go.Proofs.Yteclfeeeaokddaa
