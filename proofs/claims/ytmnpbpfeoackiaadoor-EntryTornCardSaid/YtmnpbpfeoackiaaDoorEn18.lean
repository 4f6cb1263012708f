/-
  The reference's reading of an entry. Condition: at most 4096 blocks.
-/
import Derived.Test.YtmnpbpfeoackiaaDoorEn8
import Derived.Test.YtmnpbpfeoackiaaDoorMhH
import Derived.Test.YtmnpbpfeoackiaaDoorMhG
namespace Go.Proofs.YtmnpbpfeoackiaaDoor
open Go.RowKit

/-- What the reference returns. -/
def refV : Option (Int × List UInt8 × Nat) → Value
  | none => .tuple #[.int .i64 0, .string ⟨#[]⟩, .int .i64 0]
  | some (k, s, n) => .tuple #[.int .i64 k, .string (ofL s), .int .i64 n]
theorem bodyE_short {bs : List (List UInt8)} {P : Nat} {gen index : Int} : ∀ (f k : Nat), P + k ≤ bs.length → bs.length < P + k + f → bodyE bs P gen index k f = none
  | 0, k, h1, h2 => absurd h2 (by omega)
  | f + 1, k, h1, h2 => by
    by_cases hl : P + k < bs.length
    · rw [bodyE, List.getElem?_eq_getElem hl]
      dsimp only
      split
      · rw [bodyE_short f (k + 1) (by omega) (by omega)]; rfl
      · rfl
    · rw [bodyE, List.getElem?_eq_none (by omega)]
theorem readE_off {bs : List (List UInt8)} {fr gen index : Int} (h : fr < 0 ∨ markN gen index true = 0 ∨ (bs.length : Int) ≤ fr + index) : readE bs fr gen index = none := by
  unfold readE
  rw [if_pos h]

/-- The frames that were read: good, of the right marks and kinds. -/
structure GoodsE (bs : List (List UInt8)) (P : Nat) (gen ix kd : Int) (N : Nat) (T : List (List UInt8)) : Prop where
  len : T.length = N
  all : ∀ (k : Nat) (t : List UInt8), T[k]? = some t → atE bs ((P + k : Nat) : Int) (markN gen (ix + k) (k == 0)) = (⟨markN gen (ix + k) (k == 0), if k = 0 then kd else 0, t⟩, true)
theorem GoodsE.one {bs : List (List UInt8)} {P : Nat} {gen ix kd : Int} {t : List UInt8} (h : atE bs ((P : Nat) : Int) (markN gen ix true) = (⟨markN gen ix true, kd, t⟩, true)) : GoodsE bs P gen ix kd 1 [t] := by
  refine ⟨rfl, fun k u hu => ?_⟩
  match k, hu with
  | 0, hu =>
    obtain rfl : t = u := Option.some.inj hu
    rw [show (ix + (0 : Nat)) = ix by omega]
    exact h
theorem GoodsE.more {bs : List (List UInt8)} {P N : Nat} {gen ix kd : Int} {T : List (List UInt8)} {t : List UInt8} (h : GoodsE bs P gen ix kd N T) (h0 : N ≠ 0) (hN : atE bs ((P + N : Nat) : Int) (markN gen (ix + N) false) = (⟨markN gen (ix + N) false, 0, t⟩, true)) :
    GoodsE bs P gen ix kd (N + 1) (T ++ [t]) := by
  refine ⟨by rw [List.length_append, h.len]; rfl, fun k u hu => ?_⟩
  by_cases hk : k < N
  · rw [List.getElem?_append_left (by rw [h.len]; exact hk)] at hu
    exact h.all k u hu
  · rw [List.getElem?_append_right (by rw [h.len]; omega), h.len] at hu
    have hk2 : k = N := by
      have := (List.getElem?_eq_some_iff.1 hu).1
      rw [List.length_singleton] at this
      omega
    subst hk2
    rw [Nat.sub_self] at hu
    obtain rfl : t = u := Option.some.inj hu
    rw [show (k == 0) = false by simp; exact h0, if_neg h0]
    exact hN
theorem GoodsE.parts {bs : List (List UInt8)} {P ix N : Nat} {gen kd : Int} {T : List (List UInt8)} {tx : List UInt8} (h : GoodsE bs P gen ix kd N T) (hl : (partsE tx).length = N) :
    partsE tx = T ↔ ∀ k, k < N → (framesE gen ix kd tx)[k]? = bs[P + k]? :=
  frames_parts h.len hl fun k hk => h.all k _ (List.getElem?_eq_getElem (by rw [h.len]; exact hk))
theorem GoodsE.kind {bs : List (List UInt8)} {P N : Nat} {gen ix kd : Int} {T : List (List UInt8)} (h : GoodsE bs P gen ix kd N T) (h0 : 0 < N) : 0 ≤ kd ∧ kd ≤ 255 := by
  obtain ⟨t, ht⟩ : ∃ t, T[0]? = some t := ⟨_, List.getElem?_eq_getElem (by rw [h.len]; exact h0)⟩
  exact (atE_good (h.all 0 t ht)).2.2.1
/-- The reference's blocks, whatever they are. -/
theorem rframes_all (gen index kind : Int) (s : List UInt8) (W : World) (hs : s.length ≤ 100000) : Calls Tryd.prog 37 #[.int .i64 gen, .int .i64 index, .int .i64 kind, .string (ofL s)] W fun e w' => ∃ v F, e = .returned v ∧ w'.ownsRow W.heap.size 9 1 v F.length (F.map Str) ∧ Ext W w' ∧ (framesB gen index kind s.length = true → F = framesE gen index kind s) := by
  cases hb : framesB gen index kind s.length with
  | false => exact (rframes_bad gen index kind s W hs hb).mono fun e w' ⟨h1, h2⟩ => ⟨_, [], h1, ⟨rfl, .inl ⟨rfl, rfl⟩⟩, h2, fun h => by cases h⟩
  | true => exact (rframes_ok gen index kind s W hb).mono fun e w' ⟨v, h1, h2, h3⟩ => ⟨v, _, h1, h2, h3, fun _ => rfl⟩

set_option maxRecDepth 100000 in
set_option maxHeartbeats 4000000 in
theorem rread_any {w : World} {v : Value} {bs : List (List UInt8)} (hR : Rd w w.heap.size 1 v bs.length (bs.map Str)) (hle : bs.length ≤ 4096) (fr gen index : Int) : Calls Tryd.prog 40 #[v, .int .i64 fr, .int .i64 gen, .int .i64 index] w fun e w' => e = .returned (refV (readE bs fr gen index)) ∧ Ext w w' := by
  obtain ⟨A, c, rfl, -, -, hc⟩ := hR
  obtain ⟨n, hn⟩ : ∃ n, bs.length = n := ⟨_, rfl⟩
  rw [hn] at hc hle ⊢
  have HN := Kp.mk hn
  obtain ⟨mk, hmk⟩ : ∃ mk, markN gen index true = mk := ⟨_, rfl⟩
  have cM := Kp.mk (fun W => rmk_any gen index true W)
  rw [hmk] at cM
  by_cases hbad : fr < 0 ∨ mk = 0 ∨ (n : Int) ≤ fr + index
  · have hr := readE_off (bs := bs) (fr := fr) (gen := gen) (index := index) (by rw [hmk, hn]; exact hbad)
    rw [hr]
    have hi : mk ≠ 0 → 0 ≤ index ∧ index ≤ 4095 := fun h => by
      have h9 : ¬ (gen < 1 ∨ 1099511627776 < gen ∨ index < 0 ∨ 4095 < index) := fun hb => h (by rw [← hmk]; exact markN_bad hb)
      omega
    clear hr hmk hc hn
    by_cases p1 : fr < 0
    · have q1 : decide (fr < 0) = true := decide_eq_true p1
      clear hbad hi
      go_enter Tryd.func40, Tryd.ntmps40
      go_wp2
      refine bodyPost_ret (v := refV none) (by simp [refV, results, Tryd.results40, go_sem]) rfl ?_
      exact ⟨rfl, Ext.rfl' _⟩
    · have q1 : decide (fr < 0) = false := decide_eq_false p1
      by_cases p2 : mk = 0
      · have q2 : (mk == 0) = true := by simp; exact p2
        clear hbad hi
        go_enter Tryd.func40, Tryd.ntmps40
        go_wp2_with fail
        refine (cM.out _).mono ?_
        rintro e w ⟨rfl, rfl⟩
        go_wp2
        refine bodyPost_ret (v := refV none) (by simp [refV, results, Tryd.results40, go_sem]) rfl ?_
        exact ⟨rfl, Ext.rfl' _⟩
      · have q2 : (mk == 0) = false := by simp; exact p2
        have hi := hi p2
        have ww1 : IntKind.i64.wrap ((n : Int) - index) = (n : Int) - index := IntWalk.i64_in _ (by omega)
        have q3 : decide ((n : Int) - index ≤ fr) = true := decide_eq_true (by omega)
        have q4 : (n : Int) - index ≤ fr := by omega
        clear hbad
        go_enter Tryd.func40, Tryd.ntmps40
        go_wp2_with fail
        refine (cM.out _).mono ?_
        rintro e w ⟨rfl, rfl⟩
        go_wp2
        refine bodyPost_ret (v := refV none) (by simp [refV, results, Tryd.results40, go_sem]) rfl ?_
        exact ⟨rfl, Ext.rfl' _⟩
  · have hi : ¬ (gen < 1 ∨ 1099511627776 < gen ∨ index < 0 ∨ 4095 < index) := fun hb => hbad (.inr (.inl (by rw [← hmk]; exact markN_bad hb)))
    obtain ⟨fp, rfl⟩ : ∃ fp : Nat, fr = fp := ⟨fr.toNat, by omega⟩
    obtain ⟨ix, rfl⟩ : ∃ ix : Nat, index = ix := ⟨index.toNat, by omega⟩
    have hm0 : mk ≠ 0 := fun h => hbad (.inr (.inl h))
    have hPn : fp + ix < n := by omega
    have hix : ix ≤ 4095 := by omega
    have hg1 : 1 ≤ gen ∧ gen ≤ 1099511627776 := by omega
    obtain ⟨P, hP⟩ : ∃ P, fp + ix = P := ⟨_, rfl⟩
    rw [hP] at hPn
    have hPi : (fp : Int) + ix = (P : Int) := by omega
    obtain ⟨b, off, rfl, hbw, hcell⟩ := hc (by omega)
    have hcl := Kp.mk (show ∀ (j : Nat) (hj : j < bs.length) (W : World), Ext w W → W.cell? ⟨b, off + j, none⟩ = some (.string (ofL bs[j])) from fun j hj W hW => ((bcell hW).1 b _ (by omega)).trans (hcell j _ (by rw [List.getElem?_map, List.getElem?_eq_getElem hj]; rfl)))
    have q1 : decide ((fp : Int) < 0) = false := by simp
    have q2 : (mk == 0) = false := by simp; exact hm0
    have ww1 : IntKind.i64.wrap ((n : Int) - ix) = (n : Int) - ix := IntWalk.i64_in _ (by omega)
    have q3 : decide ((n : Int) - ix ≤ (fp : Int)) = false := decide_eq_false (by omega)
    have q4 : ¬ (n : Int) - ix ≤ (fp : Int) := by omega
    have ww2 : IntKind.i64.wrap ((fp : Int) + ix) = (P : Int) := by rw [hPi]; exact IntWalk.i64_in _ (by omega)
    have hPl : P < bs.length := by rw [hn]; exact hPn
    obtain ⟨s0, hs0⟩ : ∃ s, bs[P] = s := ⟨_, rfl⟩
    have c0 := hcl.out P hPl w (Ext.rfl' w)
    rw [hs0] at c0
    have cG := Kp.mk (fun W => rfget s0 W)
    obtain ⟨⟨⟨fm, fk, ft⟩, ok⟩, hf⟩ : ∃ r, frGet s0 = r := ⟨_, rfl⟩
    have hfl := frGet_len s0
    rw [hf] at cG hfl
    dsimp only at cG hfl
    have hat : atE bs ((fp + ix : Nat) : Int) (markN gen ix true) = (⟨fm, fk, ft⟩, ok && decide (fm = mk)) := by rw [hP, atE_in hPl, hs0, hf, hmk]
    obtain ⟨R, hRR⟩ : ∃ R, readE bs fp gen ix = R := ⟨_, rfl⟩
    rw [hRR]
    have hRk := Kp.mk hRR; have HAT := Kp.mk hat; have HM0 := Kp.mk (show markN gen ix true ≠ 0 by rw [hmk]; exact hm0); have HMK := Kp.mk hmk; have HP := Kp.mk hP; have HPI := Kp.mk hPi
    clear hRR hat hmk hP hf hs0 hcell hc hbad hi hm0 hn hPi
    go_enter Tryd.func40, Tryd.ntmps40
    go_wp2_with fail
    refine (cM.out _).mono ?_
    rintro e w0 ⟨rfl, rfl⟩
    go_wp2_with fail
    refine (cG.out _).mono ?_
    rintro e w1 ⟨rfl, E1⟩
    go_upto_region 4 with fail
    have hsz : (ofL ft).size = ft.length := size_ofL ft
    clear cG c0 q1 q2 q3 q4 ww1
    by_cases p1 : ok = false
    · subst p1
      obtain rfl : R = none := by rw [← hRk.out]; exact readE_nohead HAT.out (.inl rfl)
      clear hRk
      go_wp2
      refine bodyPost_ret (v := refV none) (by simp [refV, results, Tryd.results40, go_sem]) rfl ?_
      exact ⟨rfl, E1⟩
    · obtain rfl : ok = true := by cases ok <;> simp_all
      by_cases p2 : fm = mk
      · have q2 : (fm != mk) = false := by rw [p2]; simp
        have HAT2 := Kp.mk (show atE bs ((fp + ix : Nat) : Int) (markN gen ix true) = (⟨fm, fk, ft⟩, true) by rw [HAT.out, decide_eq_true p2]; rfl)
        have HFM := Kp.mk p2
        clear HAT p2
        by_cases p3 : ft.length < 8
        · have q3 : decide ((ft.length : Int) < 8) = true := by simp; omega
          obtain rfl : R = none := by rw [← hRk.out]; exact readE_nohead HAT2.out (.inr p3)
          clear hRk
          go_wp2_with fail
          refine (cM.out _).mono ?_
          rintro e w1 ⟨rfl, rfl⟩
          go_wp2
          refine bodyPost_ret (v := refV none) (by simp [refV, results, Tryd.results40, go_sem]) rfl ?_
          exact ⟨rfl, E1⟩
        · have q3 : decide ((ft.length : Int) < 8) = false := by simp; omega
          have h8 : 8 ≤ ft.length := by omega
          have hHead := readE_head HM0.out HAT2.out h8
          rw [hRk.out, HP.out] at hHead
          dsimp only at hHead
          have hnum := num4_get (T := ft) (by omega)
          obtain ⟨x0, hx0⟩ : ∃ c, ft.getD 0 0 = c := ⟨_, rfl⟩
          obtain ⟨x1, hx1⟩ : ∃ c, ft.getD 1 0 = c := ⟨_, rfl⟩
          obtain ⟨x2, hx2⟩ : ∃ c, ft.getD 2 0 = c := ⟨_, rfl⟩
          obtain ⟨x3, hx3⟩ : ∃ c, ft.getD 3 0 = c := ⟨_, rfl⟩
          have g0 : ∀ h, (ofL ft)[0]'h = x0 := fun h => by rw [← hx0, ofL_getD]
          have g1 : ∀ h, (ofL ft)[1]'h = x1 := fun h => by rw [← hx1, ofL_getD]
          have g2 : ∀ h, (ofL ft)[2]'h = x2 := fun h => by rw [← hx2, ofL_getD]
          have g3 : ∀ h, (ofL ft)[3]'h = x3 := fun h => by rw [← hx3, ofL_getD]
          rw [hx0, hx1, hx2, hx3] at hnum
          obtain ⟨y0, hy0, l0⟩ : ∃ y, x0.toNat = y ∧ y < 256 := ⟨_, rfl, x0.toNat_lt⟩
          obtain ⟨y1, hy1, l1⟩ : ∃ y, x1.toNat = y ∧ y < 256 := ⟨_, rfl, x1.toNat_lt⟩
          obtain ⟨y2, hy2, l2⟩ : ∃ y, x2.toNat = y ∧ y < 256 := ⟨_, rfl, x2.toNat_lt⟩
          obtain ⟨y3, hy3, l3⟩ : ∃ y, x3.toNat = y ∧ y < 256 := ⟨_, rfl, x3.toNat_lt⟩
          rw [hy0, hy1, hy2, hy3] at hnum
          have hb3 : ¬ ft.length ≤ 3 := by omega
          have hb4 : ¬ (ft.length : Int) ≤ 3 := by omega
          clear hx0 hx1 hx2 hx3
          by_cases p4 : 0 < y3
          · have q5 : decide ((0 : Int) < (y3 : Int)) = true := by simp; exact p4
            obtain rfl : R = none := by
              rw [hHead, if_pos (blkN_zero.2 (.inr (by omega)))]
            clear hHead hRk hnum
            go_wp2_with fail
            refine (cM.out _).mono ?_
            rintro e w1 ⟨rfl, rfl⟩
            go_wp2
            refine bodyPost_ret (v := refV none) (by simp [refV, results, Tryd.results40, go_sem]) rfl ?_
            exact ⟨rfl, E1⟩
          · have q5 : decide ((0 : Int) < (y3 : Int)) = false := by simp; omega
            have q6 : y3 = 0 := by omega
            subst q6
            have HHEAD := Kp.mk hHead; have HNUM := Kp.mk hnum
            clear hHead hnum p4
            go_wp2_with fail
            refine (cM.out _).mono ?_
            rintro e w1 ⟨rfl, rfl⟩
            go_upto_region 6 with fail
            clear q2 q3 q5
            obtain ⟨m1, hm1⟩ : ∃ m, y0 + 256 * y1 = m := ⟨_, rfl⟩
            obtain ⟨sz, hsz2⟩ : ∃ m, m1 + 65536 * y2 = m := ⟨_, rfl⟩
            have r1 : (y0 : Int) + 256 * (y1 : Int) = (m1 : Int) := by omega
            have r2 : (m1 : Int) + 65536 * (y2 : Int) = (sz : Int) := by omega
            have hszb : sz < 16777216 := by omega
            have HSZ := Kp.mk (show numN (ft.take 4) = sz by rw [HNUM.out]; omega)
            have R1 := Kp.mk r1; have R2 := Kp.mk r2
            have G := Kp.mk (And.intro g0 (And.intro g1 g2)); have Y := Kp.mk (And.intro hy0 (And.intro hy1 hy2))
            have l12 : m1 < 65536 := by omega
            clear r1 r2 hm1 hsz2 HNUM g0 g1 g2 g3 hy0 hy1 hy2 hy3 hb3 hb4
            refine wp_region_localsE (fun i v W => match i with
              | 0 => v = .string (ofL ft)
              | 1 => v = .int .u8 (y0 : Int)
              | 2 => v = .int .i64 (y0 : Int)
              | 3 => v = .string (ofL ft)
              | 4 => v = .int .u8 (y1 : Int)
              | 5 => v = .int .i64 (y1 : Int)
              | 6 => v = .int .i64 (256 * (y1 : Int))
              | 7 => v = .int .i64 (m1 : Int)
              | 8 => v = .string (ofL ft)
              | 9 => v = .int .u8 (y2 : Int)
              | 10 => v = .int .i64 (y2 : Int)
              | 11 => v = .int .i64 (65536 * (y2 : Int))
              | 12 => v = .int .i64 (sz : Int)
              | 13 => v = .int .i64 (sz : Int)
              | _ => True) (by kernel_rfl) (by kernel_rfl) (by kernel_rfl) (by kernel_rfl) ?_ ?_ ?_
            · intro i v W1 W2 e1 e2 h
              match i, h with
              | 0, h => exact h
              | 1, h => exact h
              | 2, h => exact h
              | 3, h => exact h
              | 4, h => exact h
              | 5, h => exact h
              | 6, h => exact h
              | 7, h => exact h
              | 8, h => exact h
              | 9, h => exact h
              | 10, h => exact h
              | 11, h => exact h
              | 12, h => exact h
              | 13, h => exact h
              | (i + 14), h => exact h
            · intro HF
              refine locals_cons (fun u W hW hd => ?_) ?_
              · refine opLeaves_ev HF rfl fun ev zc zg zf zt => ?_
                have t13 : ev (.tmp 13) = .string (ofL ft) := zt 13
                clear zt
                exact ev_val (v := .string (ofL ft)) (by go_simp) rfl
              refine locals_cons (fun u W hW hd => ?_) ?_
              · refine opLeaves_ev HF rfl fun ev zc zg zf zt => ?_
                have t72 : ev (.tmp 72) = u 0 := zt 72
                clear zt
                have h0 : u 0 = _ := hd 0 (by kernel_rfl)
                have g := G.out.1; have y := Y.out.1
                have hb : ft ≠ [] := by rintro rfl; simp at h8
                exact ev_val (v := .int .u8 (y0 : Int)) (by go_simp) rfl
              refine locals_cons (fun u W hW hd => ?_) ?_
              · refine opLeaves_ev HF rfl fun ev zc zg zf zt => ?_
                have t73 : ev (.tmp 73) = u 1 := zt 73
                clear zt
                have h1 : u 1 = _ := hd 1 (by kernel_rfl)
                have hw3 : IntKind.i64.wrap (y0 : Int) = (y0 : Int) := IntWalk.i64_in _ (by omega)
                exact ev_val (v := .int .i64 (y0 : Int)) (by go_simp) rfl
              refine locals_cons (fun u W hW hd => ?_) ?_
              · refine opLeaves_ev HF rfl fun ev zc zg zf zt => ?_
                have t13 : ev (.tmp 13) = .string (ofL ft) := zt 13
                clear zt
                exact ev_val (v := .string (ofL ft)) (by go_simp) rfl
              refine locals_cons (fun u W hW hd => ?_) ?_
              · refine opLeaves_ev HF rfl fun ev zc zg zf zt => ?_
                have t75 : ev (.tmp 75) = u 3 := zt 75
                clear zt
                have h3 : u 3 = _ := hd 3 (by kernel_rfl)
                have g := G.out.2.1; have y := Y.out.2.1
                have hb : ¬ ft.length ≤ 1 := by omega
                have hb2 : ¬ (ft.length : Int) ≤ 1 := by omega
                exact ev_val (v := .int .u8 (y1 : Int)) (by go_simp) rfl
              refine locals_cons (fun u W hW hd => ?_) ?_
              · refine opLeaves_ev HF rfl fun ev zc zg zf zt => ?_
                have t76 : ev (.tmp 76) = u 4 := zt 76
                clear zt
                have h4 : u 4 = _ := hd 4 (by kernel_rfl)
                have hw3 : IntKind.i64.wrap (y1 : Int) = (y1 : Int) := IntWalk.i64_in _ (by omega)
                exact ev_val (v := .int .i64 (y1 : Int)) (by go_simp) rfl
              refine locals_cons (fun u W hW hd => ?_) ?_
              · refine opLeaves_ev HF rfl fun ev zc zg zf zt => ?_
                have t77 : ev (.tmp 77) = u 5 := zt 77
                clear zt
                have h5 : u 5 = _ := hd 5 (by kernel_rfl)
                have hw3 : IntKind.i64.wrap (256 * (y1 : Int)) = 256 * (y1 : Int) := IntWalk.i64_in _ (by omega)
                exact ev_val (v := .int .i64 (256 * (y1 : Int))) (by go_simp) rfl
              refine locals_cons (fun u W hW hd => ?_) ?_
              · refine opLeaves_ev HF rfl fun ev zc zg zf zt => ?_
                have t74 : ev (.tmp 74) = u 2 := zt 74
                have t78 : ev (.tmp 78) = u 6 := zt 78
                clear zt
                have h2 : u 2 = _ := hd 2 (by kernel_rfl)
                have h6 : u 6 = _ := hd 6 (by kernel_rfl)
                have hw3 : IntKind.i64.wrap ((y0 : Int) + 256 * (y1 : Int)) = (m1 : Int) := by rw [R1.out]; exact IntWalk.i64_in _ (by omega)
                exact ev_val (v := .int .i64 (m1 : Int)) (by go_simp) rfl
              refine locals_cons (fun u W hW hd => ?_) ?_
              · refine opLeaves_ev HF rfl fun ev zc zg zf zt => ?_
                have t13 : ev (.tmp 13) = .string (ofL ft) := zt 13
                clear zt
                exact ev_val (v := .string (ofL ft)) (by go_simp) rfl
              refine locals_cons (fun u W hW hd => ?_) ?_
              · refine opLeaves_ev HF rfl fun ev zc zg zf zt => ?_
                have t80 : ev (.tmp 80) = u 8 := zt 80
                clear zt
                have h8 : u 8 = _ := hd 8 (by kernel_rfl)
                have g := G.out.2.2; have y := Y.out.2.2
                have hb : ¬ ft.length ≤ 2 := by omega
                have hb2 : ¬ (ft.length : Int) ≤ 2 := by omega
                exact ev_val (v := .int .u8 (y2 : Int)) (by go_simp) rfl
              refine locals_cons (fun u W hW hd => ?_) ?_
              · refine opLeaves_ev HF rfl fun ev zc zg zf zt => ?_
                have t81 : ev (.tmp 81) = u 9 := zt 81
                clear zt
                have h9 : u 9 = _ := hd 9 (by kernel_rfl)
                have hw3 : IntKind.i64.wrap (y2 : Int) = (y2 : Int) := IntWalk.i64_in _ (by omega)
                exact ev_val (v := .int .i64 (y2 : Int)) (by go_simp) rfl
              refine locals_cons (fun u W hW hd => ?_) ?_
              · refine opLeaves_ev HF rfl fun ev zc zg zf zt => ?_
                have t82 : ev (.tmp 82) = u 10 := zt 82
                clear zt
                have h10 : u 10 = _ := hd 10 (by kernel_rfl)
                have hw3 : IntKind.i64.wrap (65536 * (y2 : Int)) = 65536 * (y2 : Int) := IntWalk.i64_in _ (by omega)
                exact ev_val (v := .int .i64 (65536 * (y2 : Int))) (by go_simp) rfl
              refine locals_cons (fun u W hW hd => ?_) ?_
              · refine opLeaves_ev HF rfl fun ev zc zg zf zt => ?_
                have t79 : ev (.tmp 79) = u 7 := zt 79
                have t83 : ev (.tmp 83) = u 11 := zt 83
                clear zt
                have h7 : u 7 = _ := hd 7 (by kernel_rfl)
                have h11 : u 11 = _ := hd 11 (by kernel_rfl)
                have hw3 : IntKind.i64.wrap ((m1 : Int) + 65536 * (y2 : Int)) = (sz : Int) := by rw [R2.out]; exact IntWalk.i64_in _ (by omega)
                exact ev_val (v := .int .i64 (sz : Int)) (by go_simp) rfl
              refine locals_cons (fun u W hW hd => ?_) locals_nil
              · refine opLeaves_ev HF rfl fun ev zc zg zf zt => ?_
                have t84 : ev (.tmp 84) = u 12 := zt 84
                clear zt
                have h12 : u 12 = _ := hd 12 (by kernel_rfl)
                exact ev_val (v := .int .i64 (sz : Int)) (by go_simp) rfl
            · intro u6 w6 hW6 hV
              have h13 : u6 13 = _ := hV 13 (by decide)
              have E6 := E1.tr hW6
              clear hV G Y R1 R2 E1 hW6
              obtain ⟨N, hN⟩ : ∃ N, blkN (sz : Int) = N := ⟨_, rfl⟩
              have cB := Kp.mk (fun W => rblocks_any (sz : Int) W)
              rw [hN] at cB
              have hNle : N ≤ 596 := by rw [← hN]; exact blkN_le _
              have hH2 := HHEAD.out
              rw [HSZ.out, hN] at hH2
              have HH := Kp.mk hH2; have HNB := Kp.mk hN
              clear hH2 hN HHEAD
              go_simp
              go_wp2_with fail
              refine (cB.out _).mono ?_
              rintro e w7 ⟨rfl, rfl⟩
              have E1 := E6
              clear cB E6
              by_cases p5 : N = 0
              · have q5 : ((N : Int) == 0) = true := by simp; exact p5
                obtain rfl : R = none := by rw [HH.out, if_pos p5]
                clear HH p5 hRk
                go_upto_region 9 with fail
                go_wp2
                refine bodyPost_ret (v := refV none) (by simp [refV, results, Tryd.results40, go_sem]) rfl ?_
                exact ⟨rfl, E1⟩
              · have q5 : ((N : Int) == 0) = false := by simp; exact p5
                have hPP := HP.out
                have v1 : IntKind.i64.wrap ((n : Int) - fp) = (n : Int) - fp := IntWalk.i64_in _ (by omega)
                have v2 : IntKind.i64.wrap ((n : Int) - fp - ix) = (n : Int) - fp - ix := IntWalk.i64_in _ (by omega)
                by_cases p6 : n < P + N
                · have q6 : decide ((n : Int) - fp - ix < (N : Int)) = true := by simp; omega
                  have q7 : (n : Int) - fp - ix < (N : Int) := by omega
                  have hbl := HN.out
                  obtain rfl : R = none := by rw [HH.out, if_neg p5, bodyE_short (N - 1) 1 (by omega) (by omega)]; rfl
                  clear HH p5 hRk hbl hPP
                  go_upto_region 9 with fail
                  go_wp2
                  refine bodyPost_ret (v := refV none) (by simp [refV, results, Tryd.results40, go_sem]) rfl ?_
                  exact ⟨rfl, E1⟩
                · have q6 : decide ((n : Int) - fp - ix < (N : Int)) = false := by simp; omega
                  have q7 : ¬ (n : Int) - fp - ix < (N : Int) := by omega
                  clear hPP
                  have x4 : (ofL ft).extract 8 ft.length = ofL (ft.drop 8) := by rw [← size_ofL ft, extract_from, toL_ofL]
                  have hb8 : ¬ (ft.length : Int) < 8 := by omega
                  have hgd0 : GoodsE bs P gen ix fk 1 [ft] := GoodsE.one (by have := HAT2.out; rw [HP.out] at this; rw [this, HFM.out, HMK.out])
                  have HGD0 := Kp.mk hgd0
                  clear hgd0
                  go_upto_region 12 with fail
                  clear x4 hb8 h13 q5 q6 q7 v1 v2
                  have hN1 : 1 ≤ N := by omega
                  have hPN : P + N ≤ n := by omega
                  have hnB := HN.out
                  have H64 := Kp.mk (show (sz : Int) ≤ 65536 from by
                    have h9 : ¬ ((sz : Int) < 0 ∨ 65536 < (sz : Int)) := fun h => p5 (by rw [← HNB.out]; exact blkN_zero.2 h)
                    omega)
                  have HFL := Kp.mk hfl
                  have HNn := Kp.mk hnB
                  clear hnB hfl
                  go_loopw [18, 17] (fun i o wr => ∃ (k : Nat) (acc : List (List UInt8)), i = .int .i64 k ∧ 1 ≤ k ∧ k ≤ N ∧ Ext w0 wr ∧ o = .string (ofL (ft.drop 8 ++ acc.flatten)) ∧ (ft.drop 8 ++ acc.flatten).length ≤ 110 * k ∧ bodyE bs P gen ix 1 (N - 1) = (bodyE bs P gen ix k (N - k)).map (acc ++ ·) ∧ GoodsE bs P gen ix fk k (ft :: acc)) (fun i _ _ => N - (intOf i).toNat)
                  case atStart => exact ⟨1, [], rfl, by omega, hN1, E1, by simp, by have := HFL.out; simp; omega, by simp, HGD0.out⟩
                  case round =>
                    clear E1 HGD0
                    obtain ⟨k, acc, rfl, hk1, hkN, E, rfl, htl, hbody, hgood⟩ := hrel
                    have HBD := Kp.mk hbody; have HGD := Kp.mk hgood
                    clear hbody hgood
                    obtain ⟨tx, htx⟩ : ∃ tx, ft.drop 8 ++ acc.flatten = tx := ⟨_, rfl⟩
                    rw [htx] at htl ⊢
                    have HTX := Kp.mk htx
                    clear htx
                    by_cases hlt : k < N
                    · obtain ⟨Q, hQ⟩ : ∃ Q, P + k = Q := ⟨_, rfl⟩
                      have hQn : Q < n := by omega
                      have hQl : Q < bs.length := by rw [HNn.out]; exact hQn
                      have ww2 : IntKind.i64.wrap ((fp : Int) + ix) = (P : Int) := by rw [HPI.out]; exact IntWalk.i64_in _ (by omega)
                      have ww3 : IntKind.i64.wrap ((P : Int) + k) = (Q : Int) := by rw [show (P : Int) + k = (Q : Int) by omega]; exact IntWalk.i64_in _ (by omega)
                      have ww4 : IntKind.i64.wrap ((ix : Int) + k) = (ix : Int) + k := IntWalk.i64_in _ (by omega)
                      obtain ⟨s1, hs1⟩ : ∃ s, bs[Q] = s := ⟨_, rfl⟩
                      have c1 := hcl.out Q hQl wr E
                      rw [hs1] at c1
                      have cG := Kp.mk (fun W => rfget s1 W)
                      obtain ⟨⟨⟨gm, gk, gt⟩, gok⟩, hf⟩ : ∃ r, frGet s1 = r := ⟨_, rfl⟩
                      have hgl := frGet_len s1
                      rw [hf] at cG hgl
                      dsimp only at cG hgl
                      obtain ⟨m2, hm2⟩ : ∃ m, markN gen ((ix : Int) + k) false = m := ⟨_, rfl⟩
                      have cM2 := Kp.mk (fun W => rmk_any gen ((ix : Int) + k) false W)
                      rw [hm2] at cM2
                      have HAQ := Kp.mk (show atE bs ((P + k : Nat) : Int) (markN gen ((ix : Int) + k) false) = (⟨gm, gk, gt⟩, gok && decide (gm = m2)) by rw [hQ, atE_in hQl, hs1, hf, hm2])
                      have HM2 := Kp.mk hm2
                      have hNk : N - k = (N - k - 1) + 1 := by omega
                      have HNK := Kp.mk hNk
                      clear hf hs1 hm2 hNk
                      go_wp2_with fail
                      refine (cG.out _).mono ?_
                      rintro e w8 ⟨rfl, E8⟩
                      have E1 := E.tr E8
                      clear E E8 cG c1 ww2 ww3
                      go_upto_region 15 with fail
                      by_cases r1 : gok = false
                      · subst r1
                        obtain rfl : R = none := by rw [HH.out, if_neg p5, HBD.out, HNK.out, bodyE_bad HAQ.out (.inl rfl)]; rfl
                        clear HH HBD HNK hRk
                        go_wp2
                        refine bodyPost_ret (v := refV none) (by simp [refV, results, Tryd.results40, go_sem]) rfl ?_
                        exact ⟨rfl, E1⟩
                      · obtain rfl : gok = true := by cases gok <;> simp_all
                        by_cases r2 : gm = m2
                        · have q2 : (gm != m2) = false := by rw [r2]; simp
                          by_cases r3 : gk = 0
                          · subst r3
                            have HAG := Kp.mk (show atE bs ((P + k : Nat) : Int) (markN gen ((ix : Int) + k) false) = (⟨markN gen ((ix : Int) + k) false, 0, gt⟩, true) by rw [HAQ.out, decide_eq_true r2, HM2.out, r2]; rfl)
                            have hbody2 := Kp.mk (show bodyE bs P gen ix 1 (N - 1) = (bodyE bs P gen ix (k + 1) (N - (k + 1))).map ((acc ++ [gt]) ++ ·) by
                              rw [HBD.out, HNK.out, bodyE_good HAG.out rfl, Option.map_map, show N - (k + 1) = N - k - 1 by omega]
                              congr 1
                              funext x
                              simp)
                            have hgd2 := Kp.mk (show GoodsE bs P gen ix fk (k + 1) (ft :: (acc ++ [gt])) from HGD.out.more (by omega) HAG.out)
                            have hcat := ofL_append tx gt
                            have hcl2 : tx.length + gt.length ≤ 9223372036854775807 := by omega
                            have hacc := Kp.mk (show ft.drop 8 ++ (acc ++ [gt]).flatten = tx ++ gt by rw [← HTX.out]; simp)
                            have hq0 : ((0 : Int) != 0) = false := rfl
                            clear r2 HAQ HAG HBD
                            go_wp2_with fail
                            refine (cM2.out _).mono ?_
                            rintro e w8 ⟨rfl, rfl⟩
                            go_wp2_with fail
                            go_roundw
                            case rel => exact ⟨k + 1, acc ++ [gt], by go_num, by omega, hlt, E1, by rw [hacc.out], by rw [hacc.out, List.length_append]; omega, hbody2.out, hgd2.out⟩
                            case measure => simp [intOf]; omega
                          · have q3 : (gk != 0) = true := by simp; exact r3
                            obtain rfl : R = none := by rw [HH.out, if_neg p5, HBD.out, HNK.out, bodyE_bad HAQ.out (.inr r3)]; rfl
                            clear HH HBD HNK hRk r2
                            go_wp2_with fail
                            refine (cM2.out _).mono ?_
                            rintro e w8 ⟨rfl, rfl⟩
                            go_wp2
                            refine bodyPost_ret (v := refV none) (by simp [refV, results, Tryd.results40, go_sem]) rfl ?_
                            exact ⟨rfl, E1⟩
                        · have q2 : (gm != m2) = true := by simp; exact r2
                          obtain rfl : R = none := by rw [HH.out, if_neg p5, HBD.out, HNK.out, bodyE_bad HAQ.out (.inl (by rw [decide_eq_false r2]; rfl))]; rfl
                          clear HH HBD HNK hRk
                          go_wp2_with fail
                          refine (cM2.out _).mono ?_
                          rintro e w8 ⟨rfl, rfl⟩
                          go_wp2
                          refine bodyPost_ret (v := refV none) (by simp [refV, results, Tryd.results40, go_sem]) rfl ?_
                          exact ⟨rfl, E1⟩
                    · obtain rfl : k = N := by omega
                      have hR2 : R = if tx.length = sz ∧ partsE tx = ft :: acc then some (fk, tx, k) else none := by
                        rw [HH.out, if_neg p5, HBD.out, Nat.sub_self, show bodyE bs P gen ix k 0 = some [] from by cases k <;> rfl, Option.map_some, List.append_nil]
                        unfold tailE
                        dsimp only
                        rw [HTX.out, HSZ.out, HNB.out]
                      have HR2 := Kp.mk hR2
                      have cF := Kp.mk (fun W => rframes_all gen ix fk tx W (by omega))
                      have hsx : (ofL tx).size = tx.length := size_ofL tx
                      clear hR2 HH hRk HBD
                      go_wp2_with fail
                      refine (cF.out _).mono ?_
                      rintro e w8 ⟨v, F, rfl, O, E8, hF⟩
                      obtain ⟨fA, fc, rfl⟩ := own_slice O
                      have E1 := E.tr E8
                      clear cF E E8
                      go_upto_region 19 with fail
                      by_cases r1 : tx.length = sz
                      · have q7 : ((tx.length : Int) != (sz : Int)) = false := by rw [r1]; simp
                        have h64 := H64.out
                        have hpl : (partsE tx).length = k := by
                          rw [length_partsE (by omega), r1]
                          exact HNB.out
                        have hkd := HGD.out.kind (by omega)
                        have hFe : F = framesE gen ix fk tx := hF (by
                          unfold framesB
                          simp only [Bool.and_eq_true, decide_eq_true_eq]
                          refine ⟨by omega, fun hb => HM0.out hb, fun hb => ?_, hkd.1, hkd.2⟩
                          have hz := markN_zero.1 hb
                          have e1 : (blkN (tx.length : Int) : Int) = k := by rw [r1, HNB.out]
                          have := HPI.out
                          omega)
                        have hfl : F.length = k := by rw [hFe, length_framesE]; exact hpl
                        have hcmp := HGD.out.parts hpl
                        rw [← hFe] at hcmp
                        have HCMP := Kp.mk hcmp; have HFLL := Kp.mk hfl
                        rw [hfl] at O ⊢
                        have q8 : ((k : Int) != (k : Int)) = false := by simp
                        have OW := Kp.mk O; have HTS := Kp.mk r1
                        clear hF hFe hcmp hfl O hkd h64 hpl r1
                        go_upto_region 22 with fail
                        go_loopw [24] (fun i wr => ∃ j : Nat, i = .int .i64 j ∧ j ≤ k ∧ Ext w8 wr ∧ ∀ q, q < j → F[q]? = bs[P + q]?) (fun i _ => k - (intOf i).toNat)
                        case atStart => exact ⟨0, rfl, Nat.zero_le _, Ext.rfl' _, fun q hq => absurd hq (by omega)⟩
                        case round =>
                          obtain ⟨j, rfl, hj, EX, hpre⟩ := hrel
                          have EW := E1.tr EX
                          have HPRE := Kp.mk hpre
                          clear hpre
                          by_cases hjk : j < k
                          · obtain ⟨Q, hQ⟩ : ∃ Q, P + j = Q := ⟨_, rfl⟩
                            have hQn : Q < n := by omega
                            have hQl : Q < bs.length := by rw [HNn.out]; exact hQn
                            have ww2 : IntKind.i64.wrap ((fp : Int) + ix) = (P : Int) := by rw [HPI.out]; exact IntWalk.i64_in _ (by omega)
                            have ww3 : IntKind.i64.wrap ((P : Int) + j) = (Q : Int) := by rw [show (P : Int) + j = (Q : Int) by omega]; exact IntWalk.i64_in _ (by omega)
                            have c1 := hcl.out Q hQl wr EW
                            obtain ⟨gf, hgf, _, _, hcc⟩ := own_at (own_ext OW.out fun k _ hk => EX.block k hk) (by omega)
                            subst hgf
                            obtain ⟨X, hX⟩ : ∃ X, F[j]? = some X := ⟨_, List.getElem?_eq_getElem (by rw [HFLL.out]; exact hjk)⟩
                            have c2 : wr.cell? ⟨gf, j, none⟩ = some (.string (ofL X)) := hcc j _ (by rw [List.getElem?_map, hX]; rfl)
                            obtain ⟨Y, hY⟩ : ∃ Y, bs[Q] = Y := ⟨_, rfl⟩
                            have hYQ := Kp.mk (show bs[P + j]? = some Y by rw [hQ, List.getElem?_eq_getElem hQl, hY])
                            rw [hY] at c1
                            have HX := Kp.mk hX
                            clear hcc hX hY
                            by_cases hxy : X = Y
                            · subst hxy
                              have hbq : (ofL X != ofL X) = false := by rw [bne, beq_toListBytes, beq_self_eq_true]; rfl
                              go_upto_region 24 with fail
                              go_region
                              go_wp2_with fail
                              go_roundw
                              case rel => exact ⟨j + 1, by go_num, hjk, EX.dr, fun q hq => by
                                by_cases hqj : q < j
                                · exact HPRE.out q hqj
                                · obtain rfl : q = j := by omega
                                  rw [HX.out, hYQ.out]⟩
                              case measure => simp [intOf]; omega
                            · have hbq : (ofL X == ofL Y) = false := by rw [beq_toListBytes, toList_eq_toL, toList_eq_toL, toL_ofL, toL_ofL]; exact beq_eq_false_iff_ne.2 hxy
                              have hbq3 : (X == Y) = false := beq_eq_false_iff_ne.2 hxy
                              have hbq2 : (ofL X != ofL Y) = true := by rw [bne, hbq]; rfl
                              obtain rfl : R = none := by
                                rw [HR2.out, if_neg]
                                rintro ⟨_, he⟩
                                have := HCMP.out.1 he j hjk
                                rw [HX.out, hYQ.out] at this
                                exact hxy (Option.some.inj this)
                              replace E1 := EW.dr
                              go_upto_region 24 with fail
                              go_region
                              go_wp2
                              refine bodyPost_ret (v := refV none) (by simp [refV, results, Tryd.results40, go_sem]) rfl ?_
                              exact ⟨rfl, E1⟩
                          · obtain rfl : j = k := by omega
                            have hpe := HCMP.out.2 fun q hq => HPRE.out q hq
                            obtain rfl : R = some (fk, tx, j) := by rw [HR2.out, if_pos ⟨HTS.out, hpe⟩]
                            clear hpe
                            replace E1 := EW
                            go_wp2
                            refine bodyPost_ret (v := refV (some (fk, tx, j))) (by simp [refV, results, Tryd.results40, go_sem]) rfl ?_
                            exact ⟨rfl, E1⟩
                      · have q7 : ((tx.length : Int) != (sz : Int)) = true := by simp; omega
                        obtain rfl : R = none := by rw [HR2.out, if_neg (fun h => r1 h.1)]
                        go_wp2
                        refine bodyPost_ret (v := refV none) (by simp [refV, results, Tryd.results40, go_sem]) rfl ?_
                        exact ⟨rfl, E1⟩
      · have q2 : (fm != mk) = true := by simp; exact p2
        obtain rfl : R = none := by rw [← hRk.out]; exact readE_nohead HAT.out (.inl (by rw [decide_eq_false p2]; rfl))
        clear hRk HAT
        go_wp2_with fail
        refine (cM.out _).mono ?_
        rintro e w1 ⟨rfl, rfl⟩
        go_wp2
        refine bodyPost_ret (v := refV none) (by simp [refV, results, Tryd.results40, go_sem]) rfl ?_
        exact ⟨rfl, E1⟩
end Go.Proofs.YtmnpbpfeoackiaaDoor
