/-
  The law RootidBack returns true at every input. No condition but the reach of strings and structs.
-/
import Derived.Test.YtjpcedgonjmchaaRootWalk2
namespace Go.Proofs.Ytjpcedgonjmchaa
open Go.RowKit Go.ChangeShapes Go.WideShapes

theorem rootPut_len {r : Root} (h : (rootPut r).2 = 0) : (rootPut r).1.length ≤ 1000000 := by
  obtain ⟨t, k, e, n⟩ := r
  by_cases hw : wordL t = true
  · by_cases hn : (numOk k && (numOk e && numOk n)) = true
    · rw [rootPut_ok hw hn]
      have h1 := (wordL_len hw).2
      have h2 := fText_len2 t
      have h3 := length_vput k.toNat
      have h4 := length_vput e.toNat
      have h5 := length_vput n.toNat
      simp
      omega
    · have hn : (numOk k && (numOk e && numOk n)) = false := by simpa using hn
      rw [rootPut_limit hw hn]; decide
  · have hw : wordL t = false := by simpa using hw
    rw [rootPut_name hw]; decide
theorem rootPut_inj {r q : Root} (h : (rootPut r).2 = 0) (h2 : (rootPut q).2 = 0) : (ofL (rootPut r).1 == ofL (rootPut q).1) = rootEq r q := by
  rw [beq_toListBytes, toList_eq_toL, toList_eq_toL, toL_ofL, toL_ofL, Bool.eq_iff_iff, rootEq_iff, beq_iff_eq]
  constructor
  · intro e
    have e' : (rootPut r).1 = (rootPut q).1 := e
    have g1 := rootGet_put h
    have g2 := rootGet_put h2
    rw [e', g2] at g1
    exact (congrArg Prod.fst g1).symm
  · intro e; rw [e]

set_option maxRecDepth 100000 in
set_option maxHeartbeats 4000000 in
theorem rootidBack_walk (r q : Root) (s : ByteArray) (W : World) (_hr : r.t.length ≤ maxLen) (_hq : q.t.length ≤ maxLen) (_hs : s.size ≤ maxLen) :
    Calls Try.prog 4 #[rootV r, rootV q, .string s] W fun e W' => e = .returned (.bool true) ∧ Ext W W' := by
  obtain ⟨w0, hw0, E0, z0, b0⟩ := rtb_box W r
  obtain ⟨w1, hw1, E1, z1, b1⟩ := rtb_box w0 q
  rw [hw0] at hw1
  have b0 := b0.ext E1
  have E1 := E0.tr E1
  rw [z0] at b1
  have HW1 := Lib.hid hw1; clear hw1 hw0 E0 z1
  by_cases hbig : 300 < s.size
  · have d2 : decide ((300 : Int) < s.size) = true := by simp; omega
    clear hbig
    go_enter Try.func4, Try.ntmps4
    go_wp2_with fail
    rw [← HW1.out]
    refine (works29_any _).mono ?_
    rintro e w2 ⟨rfl, E2⟩
    go_wp2
    go_ret
    exact ⟨rfl, E1.tr E2⟩
  · have d2 : decide ((300 : Int) < s.size) = false := by simp; omega
    have hl : (toL s).length ≤ 1000000 := by rw [length_toL]; omega
    obtain ⟨l, rfl⟩ : ∃ l, s = ofL l := ⟨toL s, (ofL_toL s).symm⟩
    rw [toL_ofL] at hl
    rw [size_ofL] at d2
    have hsz2 : (ofL l).size = l.length := size_ofL _
    have ga : (rootPut r).2 = 0 → rootGet (rootPut r).1 = (r, 0) := rootGet_put
    have gl : (rootPut r).2 = 0 → (rootPut r).1.length ≤ 1000000 := rootPut_len
    have gi : (rootPut r).2 = 0 → (rootPut q).2 = 0 → (ofL (rootPut r).1 == ofL (rootPut q).1) = rootEq r q := rootPut_inj
    have gb : (rootGet l).2 = 0 → rootPut (rootGet l).1 = (l, 0) := rootPut_get
    obtain ⟨a, ea, ha⟩ : ∃ a ea, rootPut r = (a, ea) := ⟨_, _, rfl⟩
    obtain ⟨b, eb, hb⟩ : ∃ b eb, rootPut q = (b, eb) := ⟨_, _, rfl⟩
    obtain ⟨d, ed, hd⟩ : ∃ d ed, rootGet l = (d, ed) := ⟨_, _, rfl⟩
    obtain ⟨p, ep, hp⟩ : ∃ p ep, rootPut d = (p, ep) := ⟨_, _, rfl⟩
    rw [ha] at ga gl gi
    rw [hb] at gi
    rw [hd] at gb
    simp only [hp] at gb
    simp only [] at ga gl gi
    have HA := Lib.hid ha; clear ha
    have HB := Lib.hid hb; clear hb
    have HD := Lib.hid hd; clear hd
    have HP := Lib.hid hp; clear hp
    have GA := Lib.hid ga; clear ga
    have GL := Lib.hid gl; clear gl
    have GI := Lib.hid gi; clear gi
    have GB := Lib.hid gb; clear gb
    clear hbig _hs
    obtain ⟨o0, ho0⟩ : ∃ o, o = W.heap.size := ⟨_, rfl⟩
    obtain ⟨k0, k1, k2, k3⟩ := b0.cells
    obtain ⟨j0, j1, j2, j3⟩ := b1.cells
    go_enter Try.func4, Try.ntmps4
    go_wp2_with fail
    rw [← HW1.out]
    refine (root_put r _).mono ?_
    rintro e w2 ⟨rfl, E2⟩
    rw [HA.out]
    clear HW1 k0 k1 k2 k3 j0 j1 j2 j3
    have b0 := b0.ext E2
    have b1 := b1.ext E2
    obtain ⟨j0, j1, j2, j3⟩ := b1.cells
    go_wp2_with fail
    refine (root_put q _).mono ?_
    rintro e w3 ⟨rfl, E3⟩
    rw [HB.out]
    clear j0 j1 j2 j3
    have b0 := b0.ext E3
    have b1 := b1.ext E3
    have E4 := (E1.tr E2).tr E3
    clear E1 E2 E3
    go_upto_if 32 with fail
    go_cut [] (fun wx => Ext W wx)
    case first =>
      by_cases he : ea = 0
      · subst he
        have hg := GA.out rfl
        have hgl := GL.out rfl
        have hi := GI.out rfl
        have HG := Lib.hid hg; clear hg
        clear GA GL GI
        go_wp2_with fail
        refine (root_get a _ hgl).mono ?_
        rintro e w5 ⟨rfl, E5⟩
        rw [HG.out]
        have b0 := b0.ext E5
        have b1 := b1.ext E5
        obtain ⟨w6, hw6, E6, z6, b6⟩ := rtb_box w5 r
        have b0 := b0.ext E6
        have b1 := b1.ext E6
        have HW6 := Lib.hid hw6; clear hw6
        obtain ⟨k0, k1, k2, k3⟩ := b0.cells
        obtain ⟨j0, j1, j2, j3⟩ := b1.cells
        obtain ⟨i0, i1, i2, i3⟩ := b6.cells
        have hn := fun W => root_neq r r W
        rw [rootEq_self] at hn
        have he := fun W => root_eql r q W
        have E7 := (E4.tr E5).tr E6
        go_upto_region 7 with fail
        rw [← HW6.out]
        clear HW6
        by_cases hf : eb = 0
        · have hj := hi hf
          clear hi
          subst hf
          have hi := hj
          clear hj
          cases hx : rootEq r q
          · rw [hx] at he hi
            have hi2 := hi
            rw [beq_toListBytes, toList_eq_toL, toList_eq_toL, toL_ofL, toL_ofL] at hi2
            have hi3 : decide (a = b) = (a == b) := by rw [Bool.eq_iff_iff]; simp
            rw [hi2] at hi3
            go_wp2_with fail
            go_meet
            exact E7
          · rw [hx] at he hi
            have hi2 := hi
            rw [beq_toListBytes, toList_eq_toL, toList_eq_toL, toL_ofL, toL_ofL] at hi2
            have hi3 : decide (a = b) = (a == b) := by rw [Bool.eq_iff_iff]; simp
            rw [hi2] at hi3
            go_wp2_with fail
            go_meet
            exact E7
        · have tf : (eb == 0) = false := beq_int_f hf
          clear hi hf
          go_wp2_with fail
          go_meet
          exact E7
      · have te : (ea == 0) = false := beq_int_f he
        clear he
        go_wp2_with fail
        go_meet
        exact E4
    case rest =>
      have E5 := hcut
      clear hcut b0 b1 E4
      go_wp2_with fail
      refine (root_get l _ hl).mono ?_
      rintro e w5 ⟨rfl, E6⟩
      rw [HD.out]
      obtain ⟨w6, hw6, E7, z6, b6⟩ := rtb_box w5 d
      have HW6 := Lib.hid hw6; clear hw6
      obtain ⟨k0, k1, k2, k3⟩ := b6.cells
      go_wp2_with fail
      rw [← HW6.out]
      refine (root_put d _).mono ?_
      rintro e w7 ⟨rfl, E8⟩
      rw [HP.out]
      have E9 := ((E5.tr E6).tr E7).tr E8
      clear k0 k1 k2 k3 b6 HW6
      by_cases he : ed = 0
      · have hh := GB.out he
        have h1 : p = l := congrArg Prod.fst hh
        have h2 : ep = 0 := congrArg Prod.snd hh
        subst h1 h2 he
        clear hh GB
        go_wp2_with fail
        refine (works29_any _).mono ?_
        rintro e w8 ⟨rfl, E10⟩
        go_wp2
        go_ret
        exact ⟨rfl, E9.tr E10⟩
      · have te : (ed != 0) = true := bne_int_t he
        clear he GB
        go_wp2_with fail
        refine (works29_any _).mono ?_
        rintro e w8 ⟨rfl, E10⟩
        go_wp2
        go_ret
        exact ⟨rfl, E9.tr E10⟩
end Go.Proofs.Ytjpcedgonjmchaa
