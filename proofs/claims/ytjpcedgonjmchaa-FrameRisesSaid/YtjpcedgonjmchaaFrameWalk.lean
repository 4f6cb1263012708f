/-
  The law FramePuts returns true at every input. No condition but the reach of strings and structs.
-/
import Derived.Test.YtjpcedgonjmchaaFrameGet2
import Derived.Test.YtjpcedgonjmchaaFrameGet3
import Derived.Test.YtjpcedgonjmchaaFramePut2
import Derived.Test.YtjpcedgonjmchaaRow
import Derived.Lib.SmallJoins
namespace Go.Proofs.Ytjpcedgonjmchaa
open Go.RowKit Go.ChangeShapes Go.WideShapes

theorem fget (s : List UInt8) (w : World) :
    Calls Try.prog 17 #[.string (ofL s)] w fun e w' => e = .returned (.tuple #[frV (frGet s).1, .bool (frGet s).2]) ∧ Ext w w' := by
  by_cases hs : s.length = 128
  · exact fget_long s w hs
  · rw [show frGet s = (⟨0, 0, []⟩, false) from if_neg (fun h => hs h.1)]
    exact fget_short s w hs

def S0 : List UInt8 := frBytes 258 3 [97, 98]
theorem S0_len : (ofL S0).size = 128 := by rw [size_ofL]; exact length_frBytes (by decide)
theorem S0_put : frPut (⟨258, 3, [97, 98]⟩ : Frm) = (S0, 0) := by decide
theorem S0_get : frGet S0 = ((⟨258, 3, [97, 98]⟩ : Frm), true) := by
  have := frGet_put (f := ⟨258, 3, [97, 98]⟩) (by decide) (by rw [S0_put])
  rwa [S0_put] at this
theorem S0_12 : (ofL S0).extract 0 12 = ofL [2, 1, 0, 0, 0, 0, 0, 0, 3, 2, 97, 98] := by rw [ofL_extract]; congr 1
theorem S0_120 : (ofL S0).extract 120 128 = ofL [2, 1, 0, 0, 0, 0, 0, 0] := by rw [ofL_extract]; congr 1
theorem S0_8 : (ofL S0).extract 0 8 = ofL [2, 1, 0, 0, 0, 0, 0, 0] := by rw [ofL_extract]; congr 1
theorem zero_get : frGet (List.replicate 128 0) = (⟨0, 0, []⟩, false) := by
  refine if_neg fun h => h.2.2.2.2.2 ?_
  decide

set_option maxRecDepth 100000 in
set_option maxHeartbeats 2000000 in
theorem works42_any (w : World) : Calls Try.prog 14 #[] w fun e w' => e = .returned (.bool true) ∧ Ext w w' := by
  obtain ⟨w1, hw1, E1, z1, b1⟩ := fr_box w (⟨258, 3, [97, 98]⟩ : Frm)
  have HW1 := Lib.hid hw1; clear hw1 z1
  have h1 := S0_put; have h2 := S0_get; have h3 := S0_len; have h4 := S0_12; have h5 := S0_120; have h6 := S0_8
  obtain ⟨S, hS⟩ : ∃ S, S0 = S := ⟨_, rfl⟩
  rw [hS] at h1 h2 h3 h4 h5 h6
  have H1 := Lib.hid h1; have H2 := Lib.hid h2
  clear h1 h2 hS
  obtain ⟨k0, k1, k2, kf⟩ := b1.cells
  go_enter Try.func14, Try.ntmps14
  go_wp2_with fail
  rw [show (⟨#[97, 98]⟩ : ByteArray) = ofL [97, 98] from rfl, ← HW1.out]
  refine (fput (⟨258, 3, [97, 98]⟩ : Frm) _ (by decide)).mono ?_
  rintro e w2 ⟨rfl, E2⟩
  rw [H1.out]
  clear k0 k1 k2 kf HW1
  have b1 := b1.ext E2
  go_wp2_with fail
  refine (fget S _).mono ?_
  rintro e w3 ⟨rfl, E3⟩
  rw [H2.out]
  have b1 := b1.ext E3
  obtain ⟨w4, hw4, E4, z4, b4⟩ := fr_box w3 (⟨258, 3, [97, 98]⟩ : Frm)
  have b1 := b1.ext E4
  have HW4 := Lib.hid hw4; clear hw4 z4
  have E4 := ((E1.tr E2).tr E3).tr E4
  go_upto_region 4 with fail
  rw [← HW4.out]
  clear HW4 E1 E2 E3
  go_wp2_with (at_make; refine wpl_make Try.elemU8 rfl _ rfl _ _ rfl 128 rfl rfl rfl rfl (by omega) (by omega) ?_)
  intro w5 hown E5
  have hcv := Try.str (l := List.replicate 128 0) (by simpa [U8] using hown)
  have b1 := b1.ext E5
  have b4 := b4.ext E5
  have E5 := E4.tr E5
  clear E4
  go_wp2_with fail
  refine (fget (List.replicate 128 0) _).mono ?_
  rintro e w6 ⟨rfl, E6⟩
  rw [zero_get]
  have b1 := b1.ext E6
  have b4 := b4.ext E6
  obtain ⟨w7, hw7, E7, z7, b7⟩ := fr_box w6 ⟨0, 0, []⟩
  have b1 := b1.ext E7
  have b4 := b4.ext E7
  have E7 := (E5.tr E6).tr E7
  have HW7 := Lib.hid hw7; clear hw7 z7 b7 hcv hown E5 E6
  obtain ⟨k0, k1, k2, kf⟩ := b1.cells
  obtain ⟨j0, j1, j2, jf⟩ := b4.cells
  go_upto_region 6 with fail
  rw [← HW7.out]
  clear HW7
  have hs : (ofL [2, 1, 0, 0, 0, 0, 0, 0, 3, 2, 97, 98] == ⟨#[2, 1, 0, 0, 0, 0, 0, 0, 3, 2, 97, 98]⟩) = true := by decide
  have he := fun W => fr_eql (⟨258, 3, [97, 98]⟩ : Frm) (⟨258, 3, [97, 98]⟩ : Frm) W
  rw [frEq_self] at he
  go_quiet (fail)
  go_wp2
  go_ret
  exact ⟨rfl, E7.drN _⟩

set_option maxRecDepth 100000 in
set_option maxHeartbeats 2000000 in
theorem framePuts_walk (f : Frm) (s : ByteArray) (W : World) (hf : -9223372036854775808 ≤ f.m ∧ f.m ≤ 9223372036854775807) (_hs : s.size ≤ maxLen) :
    Calls Try.prog 5 #[frV f, .string s] W fun e W' => e = .returned (.bool true) ∧ Ext W W' := by
  obtain ⟨w1, hw1, E1, z1, b1⟩ := fr_box W f
  have HW1 := Lib.hid hw1; clear hw1 z1
  have hm : f.m < 9223372036854775808 := by omega
  obtain ⟨k0, k1, k2, kf⟩ := b1.cells
  have hsz : (ofL f.t).size = f.t.length := size_ofL _
  by_cases hbig : 300 < f.t.length ∨ 300 < s.size
  · have d : (decide ((300 : Int) < f.t.length) = true) ∨ (decide ((300 : Int) < f.t.length) = false ∧ decide ((300 : Int) < s.size) = true) := by
      by_cases h : 300 < f.t.length
      · exact .inl (by simp; omega)
      · exact .inr ⟨by simp; omega, by simp; omega⟩
    clear hbig
    rcases d with d | ⟨d, d2⟩
    · go_enter Try.func5, Try.ntmps5
      go_wp2_with fail
      rw [← HW1.out]
      refine (works42_any _).mono ?_
      rintro e w2 ⟨rfl, E2⟩
      go_wp2
      go_ret
      exact ⟨rfl, E1.tr E2⟩
    · go_enter Try.func5, Try.ntmps5
      go_wp2_with fail
      rw [← HW1.out]
      refine (works42_any _).mono ?_
      rintro e w2 ⟨rfl, E2⟩
      go_wp2
      go_ret
      exact ⟨rfl, E1.tr E2⟩
  · have d : decide ((300 : Int) < f.t.length) = false := by simp; omega
    have d2 : decide ((300 : Int) < s.size) = false := by simp; omega
    obtain ⟨l, rfl⟩ : ∃ l, s = ofL l := ⟨toL s, (ofL_toL s).symm⟩
    rw [size_ofL] at d2
    have hsz2 : (ofL l).size = l.length := size_ofL _
    obtain ⟨a, ea, ha⟩ : ∃ a ea, frPut f = (a, ea) := ⟨_, _, rfl⟩
    obtain ⟨q, eq, hq⟩ : ∃ q eq, frGet l = (q, eq) := ⟨_, _, rfl⟩
    have HA := Lib.hid ha; clear ha
    have HQ := Lib.hid hq; clear hq
    clear hbig _hs
    go_enter Try.func5, Try.ntmps5
    go_wp2_with fail
    rw [← HW1.out]
    refine (fput f _ hm).mono ?_
    rintro e w2 ⟨rfl, E2⟩
    rw [HA.out]
    clear HW1 k0 k1 k2 kf
    have b2 := b1.ext E2
    obtain ⟨k0, k1, k2, kf⟩ := b2.cells
    go_wp2_with fail
    refine (rfput f _ hm).mono ?_
    rintro e w3 ⟨rfl, E3⟩
    rw [HA.out]
    clear k0 k1 k2 kf
    go_wp2_with fail
    refine (fget l _).mono ?_
    rintro e w4 ⟨rfl, E4⟩
    rw [HQ.out]
    obtain ⟨w5, hw5, E5, z5, b5⟩ := fr_box w4 q
    have HW5 := Lib.hid hw5; clear hw5
    go_wp2_with fail
    rw [← HW5.out]
    clear HW5
    refine (rfget l _).mono ?_
    rintro e w6 ⟨rfl, E6⟩
    rw [HQ.out]
    have b6 := b5.ext E6
    obtain ⟨k0, k1, k2, kf⟩ := b6.cells
    have he := fun W => fr_eql q q W
    rw [frEq_self] at he
    have E8 := ((((E1.tr E2).tr E3).tr E4).tr E5).tr E6
    clear b1 b2 b5 b6 E1 E2 E3 E4 E5 E6 HA HQ z5
    go_wp2_with fail
    refine (works42_any _).mono ?_
    rintro e w8 ⟨rfl, E9⟩
    go_wp2
    go_ret
    exact ⟨rfl, E8.tr E9⟩

set_option maxRecDepth 100000 in
theorem open_frame {H : Type} {enc : TypeId × Value → H} {W : World} {r : Reach} {b0 : Nat} {v : Value} {d : DataW H} {ps : List MemPlace}
    (hv : Value.okWide Try.prog W r b0 33 v) (h : DataW.Trod enc Try.prog W 0 (fun _ => true) true 33 v d ps) :
    ∃ f : Frm, v = frV f ∧ (-9223372036854775808 ≤ f.m ∧ f.m ≤ 9223372036854775807) := by
  obtain ⟨v0, v1, v2, y0, y1, y2, n, rfl, _, _, h0, h1, h2⟩ := Joins.open_agg3 Try.underlying33 (by kernel_rfl) (by kernel_rfl) hv h
  obtain ⟨m, e0, _, z0⟩ := DataW.trod_int Try.underlying3 h0
  obtain ⟨k, e1, _, _⟩ := DataW.trod_int Try.underlying3 h1
  obtain ⟨s, e2, _, _⟩ := DataW.trod_string Try.underlying9 h2
  obtain rfl : v0 = .int .i64 m := by simpa using e0
  obtain rfl : v1 = .int .i64 k := by simpa using e1
  obtain rfl : v2 = .string s := by simpa using e2
  exact ⟨⟨m, k, toL s⟩, by simp [frV, frCells, ofL_toL], wf_i64 z0⟩
end Go.Proofs.Ytjpcedgonjmchaa
