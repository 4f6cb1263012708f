/-
  The law FrameBack returns true at every input. No condition but the reach of strings and structs.
-/
import Derived.Test.YtjpcedgonjmchaaFrameWalk
namespace Go.Proofs.Ytjpcedgonjmchaa
open Go.RowKit Go.ChangeShapes Go.WideShapes

theorem frGet_m (l : List UInt8) : (frGet l).1.m < 9223372036854775808 := by
  unfold frGet
  split
  · rename_i h
    have h8 : numN (l.take 8) < 9223372036854775808 := (num8_small (by rw [List.length_take]; have := h.1; omega)).2 (by rw [getD_take _ 8 7 (by omega)]; exact h.2.2.1)
    show ((numN (l.take 8) : Nat) : Int) < _
    omega
  · decide
theorem frPut_get {l : List UInt8} (h : (frGet l).2 = true) : frPut (frGet l).1 = (l, 0) := by
  unfold frGet at h ⊢
  split at h
  · rename_i hg
    rw [if_pos hg]
    exact frPut_of hg
  · cases h
theorem frPut_len {f : Frm} (h : (frPut f).2 = 0) : (frPut f).1.length = 128 := by
  by_cases ha : f.m < 1 ∨ f.k < 0 ∨ 255 < f.k
  · rw [frPut_arg ha] at h; exact absurd h (by decide)
  · by_cases hl : 110 < f.t.length
    · rw [frPut_limit ha hl] at h; exact absurd h (by decide)
    · rw [frPut_ok ha hl]; exact length_frBytes (by omega)

set_option maxRecDepth 100000 in
set_option maxHeartbeats 4000000 in
theorem frameBack_walk (f : Frm) (s : ByteArray) (W : World) (hf : -9223372036854775808 ≤ f.m ∧ f.m ≤ 9223372036854775807) (_hs : s.size ≤ maxLen) :
    Calls Try.prog 6 #[frV f, .string s] W fun e W' => e = .returned (.bool true) ∧ Ext W W' := by
  obtain ⟨w1, hw1, E1, z1, b1⟩ := fr_box W f
  have HW1 := Lib.hid hw1; clear hw1 z1
  have hm : f.m < 9223372036854775808 := by omega
  obtain ⟨k0, k1, k2, kf⟩ := b1.cells
  have hsz : (ofL f.t).size = f.t.length := size_ofL _
  by_cases hbig : 300 < f.t.length ∨ 300 < s.size
  · have d : (decide ((300 : Int) < f.t.length) = true) ∨ (decide ((300 : Int) < f.t.length) = false ∧ decide ((300 : Int) < s.size) = true) := by
      by_cases h : 300 < f.t.length
      · exact .inl (by simp; omega)
      · exact .inr ⟨by simp; omega, by simp; omega⟩
    clear hbig
    rcases d with d | ⟨d, d2⟩
    · go_enter Try.func6, Try.ntmps6
      go_wp2_with fail
      rw [← HW1.out]
      refine (works42_any _).mono ?_
      rintro e w2 ⟨rfl, E2⟩
      go_wp2
      go_ret
      exact ⟨rfl, E1.tr E2⟩
    · go_enter Try.func6, Try.ntmps6
      go_wp2_with fail
      rw [← HW1.out]
      refine (works42_any _).mono ?_
      rintro e w2 ⟨rfl, E2⟩
      go_wp2
      go_ret
      exact ⟨rfl, E1.tr E2⟩
  · have d : decide ((300 : Int) < f.t.length) = false := by simp; omega
    have d2 : decide ((300 : Int) < s.size) = false := by simp; omega
    obtain ⟨l, rfl⟩ : ∃ l, s = ofL l := ⟨toL s, (ofL_toL s).symm⟩
    rw [size_ofL] at d2
    have hsz2 : (ofL l).size = l.length := size_ofL _
    have ga : (frPut f).2 = 0 → frGet (frPut f).1 = (f, true) := frGet_put hm
    have gl : (frPut f).2 = 0 → (frPut f).1.length = 128 := frPut_len
    have gb : (frGet l).2 = true → frPut (frGet l).1 = (l, 0) := frPut_get
    have gm := frGet_m l
    obtain ⟨a, ea, ha⟩ : ∃ a ea, frPut f = (a, ea) := ⟨_, _, rfl⟩
    obtain ⟨q, is, hq⟩ : ∃ q is, frGet l = (q, is) := ⟨_, _, rfl⟩
    obtain ⟨p, ep, hp⟩ : ∃ p ep, frPut q = (p, ep) := ⟨_, _, rfl⟩
    rw [ha] at ga gl
    rw [hq] at gb gm
    simp only [hp] at gb
    simp only [] at ga gl gm
    have HA := Lib.hid ha; clear ha
    have HQ := Lib.hid hq; clear hq
    have HP := Lib.hid hp; clear hp
    have GA := Lib.hid ga; clear ga
    have GL := Lib.hid gl; clear gl
    have GB := Lib.hid gb; clear gb
    clear hbig _hs
    go_enter Try.func6, Try.ntmps6
    go_wp2_with fail
    rw [← HW1.out]
    refine (fput f _ hm).mono ?_
    rintro e w2 ⟨rfl, E2⟩
    rw [HA.out]
    clear HW1 k0 k1 k2 kf
    have b1 := b1.ext E2
    have E3 := E1.tr E2
    clear E1 E2
    go_upto_if 29 with fail
    go_cut [] (fun wx => Ext W wx)
    case first =>
      by_cases he : ea = 0
      · subst he
        have hg := GA.out rfl
        have hl := GL.out rfl
        have HG := Lib.hid hg; clear hg
        have hla : (ofL a).size = 128 := by rw [size_ofL]; exact hl
        clear GA GL hl
        go_wp2_with fail
        refine (fget a _).mono ?_
        rintro e w5 ⟨rfl, E5⟩
        rw [HG.out]
        have b1 := b1.ext E5
        obtain ⟨w6, hw6, E6, z6, b6⟩ := fr_box w5 f
        have b1 := b1.ext E6
        have HW6 := Lib.hid hw6; clear hw6 z6
        obtain ⟨k0, k1, k2, kf⟩ := b1.cells
        obtain ⟨i0, i1, i2, kf2⟩ := b6.cells
        have hn := fun W => fr_neq f f W
        rw [frEq_self] at hn
        have E7 := (E3.tr E5).tr E6
        go_upto_region 6 with fail
        rw [← HW6.out]
        clear HW6
        go_wp2_with fail
        go_meet
        exact E7
      · have te : (ea == 0) = false := ieq_f he
        clear he
        go_wp2_with fail
        go_meet
        exact E3
    case rest =>
      have E5 := hcut
      clear hcut b1 E3
      go_wp2_with fail
      refine (fget l _).mono ?_
      rintro e w5 ⟨rfl, E6⟩
      rw [HQ.out]
      obtain ⟨w6, hw6, E7, z6, b6⟩ := fr_box w5 q
      have HW6 := Lib.hid hw6; clear hw6
      obtain ⟨k0, k1, k2, kf⟩ := b6.cells
      go_wp2_with fail
      rw [← HW6.out]
      refine (fput q _ gm).mono ?_
      rintro e w7 ⟨rfl, E8⟩
      rw [HP.out]
      have E9 := ((E5.tr E6).tr E7).tr E8
      clear k0 k1 k2 kf b6 HW6
      cases is with
      | true =>
        have hh := GB.out rfl
        have h1 : p = l := congrArg Prod.fst hh
        have h2 : ep = 0 := congrArg Prod.snd hh
        subst h1 h2
        clear hh GB
        go_wp2_with fail
        refine (works42_any _).mono ?_
        rintro e w8 ⟨rfl, E10⟩
        go_wp2
        go_ret
        exact ⟨rfl, E9.tr E10⟩
      | false =>
        clear GB
        go_wp2_with fail
        refine (works42_any _).mono ?_
        rintro e w8 ⟨rfl, E10⟩
        go_wp2
        go_ret
        exact ⟨rfl, E9.tr E10⟩
end Go.Proofs.Ytjpcedgonjmchaa
