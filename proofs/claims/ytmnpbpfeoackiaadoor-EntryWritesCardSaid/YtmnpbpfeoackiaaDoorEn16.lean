/-
  porterlaw43.EntryWrites: what the law walks. No condition.
-/
import Derived.Test.YtmnpbpfeoackiaaDoorMhE
import Derived.Test.YtmnpbpfeoackiaaDoorEn8
import Derived.Test.YtmnpbpfeoackiaaDoorEn15
namespace Go.Proofs.YtmnpbpfeoackiaaDoor
open Go.RowKit

theorem checkE_frames {n : Nat} {fr gen ix kind : Int} {L : Nat} (h : checkE n fr gen ix kind L = 0) : framesB gen ix kind L = true := by
  have hG := check_good h
  have h1 := hG.gen0; have h2 := hG.ix0; have h3 := hG.last; have h4 := hG.kind0; have h5 := hG.len; have h6 := hG.pos
  unfold framesB
  simp only [Bool.and_eq_true, decide_eq_true_eq]
  refine ⟨h5, fun hb => ?_, fun hb => ?_, h4.1, h4.2⟩
  · have := markN_zero.1 hb; omega
  · have := markN_zero.1 hb; omega

/-- What a writing onto a new disk leaves. -/
theorem entW (n : Nat) (a0 a1 a2 a3 : Int) (s : List UInt8) : ∃ bs' wr', writeE (dk0 n none) a0 a1 a2 a3 s = (⟨bs', none, wr', false⟩, checkE n a0 a1 a2 a3 s.length) ∧ bs'.length = n ∧
    (checkE n a0 a1 a2 a3 s.length = 0 → ∀ q, q < n → bs'[q]? = if (a0 + a2).toNat ≤ q ∧ q < (a0 + a2).toNat + blkN s.length then (framesE a1 a2 a3 s)[q - (a0 + a2).toNat]? else some (List.replicate 128 0)) ∧
    (checkE n a0 a1 a2 a3 s.length ≠ 0 → ∀ q, q < n → bs'[q]? = some (List.replicate 128 0)) := by
  have hz : ∀ q, q < n → (List.replicate n (List.replicate 128 (0 : UInt8)))[q]? = some (List.replicate 128 0) := fun q hq => List.getElem?_replicate_of_lt hq
  by_cases hc : checkE n a0 a1 a2 a3 s.length = 0
  · have hG := check_good hc
    have g1 := hG.fr0; have g2 := hG.ix0
    obtain ⟨fp, rfl⟩ : ∃ fp : Nat, a0 = fp := ⟨a0.toNat, by omega⟩
    obtain ⟨ix, rfl⟩ : ∃ ix : Nat, a2 = ix := ⟨a2.toNat, by omega⟩
    obtain ⟨bs', h1, h2, h3⟩ := writeE_done (bs := List.replicate n (List.replicate 128 0)) (wr := 0) (fp := fp) (ix := ix) (gen := a1) (kind := a3) (s := s) (by rw [List.length_replicate]; exact hc)
    rw [List.length_replicate] at h2
    refine ⟨bs', 0 + blkN s.length, by rw [hc]; exact h1, h2, fun _ q hq => ?_, fun h => absurd hc h⟩
    rw [h3, show ((fp : Int) + ix).toNat = fp + ix by omega, hz q hq]
  · refine ⟨List.replicate n (List.replicate 128 0), 0, ?_, List.length_replicate, fun h => absurd h hc, fun _ q hq => hz q hq⟩
    unfold writeE dk0
    dsimp only
    rw [List.length_replicate, if_pos hc]
/-- In which order the law asks. -/
theorem entCls (n : Nat) (a0 a1 a2 a3 : Int) (L N : Nat) (mk m2 : Int) (c : Nat) (hN : blkN L = N) (hmk : markN a1 a2 true = mk) (hm2 : markN a1 (a2 + N - 1) true = m2) (hc : checkE n a0 a1 a2 a3 L = c) (b8 : Bool) (hb8 : (decide (a0 < 0) || decide (mk = 0) || decide (a3 < 0) || decide (255 < a3)) = b8) :
    (b8 = true → c = 7) ∧ (b8 = false → (0 ≤ a0 ∧ 0 ≤ a2 ∧ a2 ≤ 4095) ∧ (N = 0 → c = 3) ∧ (N ≠ 0 → m2 = 0 → c = 19) ∧ (N ≠ 0 → m2 ≠ 0 → n < a0 + a2 + N → c = 19) ∧ (N ≠ 0 → m2 ≠ 0 → ¬ n < a0 + a2 + N → c = 0)) := by
  have h1 : b8 = true ↔ (a0 < 0 ∨ mk = 0 ∨ a3 < 0 ∨ 255 < a3) := by
    rw [← hb8]
    simp only [Bool.or_eq_true, decide_eq_true_eq]
    omega
  have hbl := blkN_le (L : Int)
  rw [hN] at hbl
  unfold checkE at hc
  rw [hmk, hN] at hc
  constructor
  · intro h
    rw [if_pos (h1.1 h)] at hc
    exact hc.symm
  · intro h
    have hn : ¬ (a0 < 0 ∨ mk = 0 ∨ a3 < 0 ∨ 255 < a3) := fun q => by rw [h1.2 q] at h; cases h
    rw [if_neg hn] at hc
    have hmm : ¬ (a1 < 1 ∨ 1099511627776 < a1 ∨ a2 < 0 ∨ 4095 < a2) := fun hb => hn (.inr (.inl (by rw [← hmk]; exact markN_bad hb)))
    have hz := blkN_zero (n := (L : Int))
    rw [hN] at hz
    have hm2z := markN_zero (gen := a1) (index := a2 + N - 1) (head := true)
    rw [hm2] at hm2z
    refine ⟨by omega, fun h0 => ?_, fun h0 hm => ?_, fun h0 hm hl => ?_, fun h0 hm hl => ?_⟩
    · rw [if_pos (by have := hz.1 h0; omega)] at hc
      exact hc.symm
    · have h6 : ¬ 65536 < L := fun h => h0 (hz.2 (.inr (by omega)))
      have := hm2z.1 hm
      rw [if_neg h6, if_pos (.inl (by omega))] at hc
      exact hc.symm
    · have h6 : ¬ 65536 < L := fun h => h0 (hz.2 (.inr (by omega)))
      rw [if_neg h6, if_pos (.inr (.inr hl))] at hc
      exact hc.symm
    · have h6 : ¬ 65536 < L := fun h => h0 (hz.2 (.inr (by omega)))
      have h7 : ¬ (a1 < 1 ∨ 1099511627776 < a1 ∨ a2 + N - 1 < 0 ∨ 4095 < a2 + N - 1) := fun hb => hm (hm2z.2 hb)
      rw [if_neg h6, if_neg (by omega)] at hc
      exact hc.symm

set_option maxRecDepth 100000 in
set_option maxHeartbeats 4000000 in
theorem entryWrites_walk (a0 a1 a2 a3 : Int) (s : List UInt8) (n : Int) (w : World) (hT : Tab w) (r0 : -9223372036854775808 ≤ a0 ∧ a0 ≤ 9223372036854775807) (r2 : -9223372036854775808 ≤ a2 ∧ a2 ≤ 9223372036854775807) :
    Calls Tryd.prog 9 #[.agg #[.int .i64 a0, .int .i64 a1, .int .i64 a2, .int .i64 a3], .string (ofL s), .int .i64 n] w fun e w' => e = .returned (.bool true) ∧ Ext w w' := by
  obtain ⟨L, hL⟩ : ∃ L, s.length = L := ⟨_, rfl⟩
  have hsz : (ofL s).size = L := by rw [size_ofL, hL]
  have HL := Kp.mk hL
  clear hL
  obtain ⟨w0, hw0, E0, A0⟩ : ∃ w0, w0 = w.alloc (.cells #[.int .i64 a0, .int .i64 a1, .int .i64 a2, .int .i64 a3] 46) ∧ Ext w w0 ∧ Arr w0 w.heap.size 46 [.int .i64 a0, .int .i64 a1, .int .i64 a2, .int .i64 a3] := ⟨_, rfl, (Ext.rfl' _).al _, Arr.new w _ [.int .i64 a0, .int .i64 a1, .int .i64 a2, .int .i64 a3]⟩
  have HW0 := Kp.mk hw0
  clear hw0
  have hcase : (decide ((900 : Int) < (L : Int)) = true ∧ decide ((L : Int) ≤ 65536) = true) ∨
      (decide ((900 : Int) < (L : Int)) = true ∧ decide ((L : Int) ≤ 65536) = false ∧ decide ((65600 : Int) < (L : Int)) = true) ∨
      ((decide ((900 : Int) < (L : Int)) = false ∨ decide ((900 : Int) < (L : Int)) = true ∧ decide ((L : Int) ≤ 65536) = false) ∧ decide ((65600 : Int) < (L : Int)) = false ∧ (decide (n < 1) = true ∨ decide (n < 1) = false ∧ (decide (20 < n) = true ∨ decide (20 < n) = false))) := by
    simp only [decide_eq_true_eq, decide_eq_false_iff_not]
    omega
  rcases hcase with ⟨q1, q2⟩ | ⟨q1, q2, q3⟩ | ⟨q12, q3, q4⟩
  · go_enter Tryd.func9, Tryd.ntmps9
    go_upto_region 1 with fail
    rw [← HW0.out]
    clear HW0
    go_upto_region 2 with fail
    go_wp2_with fail
    refine (works43_any _ (hT.ext E0)).mono ?_
    rintro e w1 ⟨rfl, E1⟩
    go_wp2
    go_ret
    exact ⟨rfl, E0.tr E1⟩
  · go_enter Tryd.func9, Tryd.ntmps9
    go_upto_region 1 with fail
    rw [← HW0.out]
    clear HW0
    go_upto_region 2 with fail
    go_wp2_with fail
    refine (works43_any _ (hT.ext E0)).mono ?_
    rintro e w1 ⟨rfl, E1⟩
    go_wp2
    go_ret
    exact ⟨rfl, E0.tr E1⟩
  · obtain ⟨b, hb⟩ : ∃ b, (decide (n < 1) || decide (20 < n)) = b := ⟨_, rfl⟩
    have HB := Kp.mk hb
    have hL0 : L ≤ 65600 := by simp only [decide_eq_false_iff_not] at q3; omega
    clear hb
    go_enter Tryd.func9, Tryd.ntmps9
    go_upto_region 1 with fail
    rw [← HW0.out]
    clear HW0
    go_cut [42] (fun x wx => x = .bool b ∧ wx = w0)
    case first =>
      rcases q12 with q1 | ⟨q1, q2⟩ <;> rcases q4 with q5 | ⟨q5, q6 | q6⟩
      · go_wp2_with fail
        go_meet
        exact ⟨by rw [← HB.out, q5]; rfl, rfl⟩
      · go_wp2_with fail
        go_meet
        exact ⟨by rw [← HB.out, q5, q6]; rfl, rfl⟩
      · go_wp2_with fail
        go_meet
        exact ⟨by rw [← HB.out, q5, q6]; rfl, rfl⟩
      · go_wp2_with fail
        go_meet
        exact ⟨by rw [← HB.out, q5]; rfl, rfl⟩
      · go_wp2_with fail
        go_meet
        exact ⟨by rw [← HB.out, q5, q6]; rfl, rfl⟩
      · go_wp2_with fail
        go_meet
        exact ⟨by rw [← HB.out, q5, q6]; rfl, rfl⟩
    case rest =>
      obtain ⟨rfl, rfl⟩ := hcut
      cases b with
      | true =>
        go_upto_region 2 with fail
        go_wp2_with fail
        refine (works43_any _ (hT.ext E0)).mono ?_
        rintro e w1 ⟨rfl, E1⟩
        go_wp2
        go_ret
        exact ⟨rfl, E0.tr E1⟩
      | false =>
        have hn1 : ¬ n < 1 ∧ ¬ 20 < n := by
          have := HB.out
          rw [Bool.or_eq_false_iff, decide_eq_false_iff_not, decide_eq_false_iff_not] at this
          exact this
        obtain ⟨nn, rfl⟩ : ∃ nn : Nat, n = nn := ⟨n.toNat, by omega⟩
        have h1 : 1 ≤ nn := by omega
        have h20 : nn ≤ 20 := by omega
        clear hn1 HB q12 q3 q4
        go_upto_region 3 with fail
        refine wp_region_stageE [] (fun bs W => Ext wc W) (fun bs i v W => match i with
          | 0 => v = .pointer (some ⟨w.heap.size, 0, none⟩)
          | 1 => v = .int .i64 a0
          | 2 => v = .pointer (some ⟨w.heap.size, 1, none⟩)
          | 3 => v = .int .i64 a1
          | 4 => v = .pointer (some ⟨w.heap.size, 2, none⟩)
          | 5 => v = .int .i64 a2
          | 6 => v = .pointer (some ⟨w.heap.size, 3, none⟩)
          | 7 => v = .int .i64 a3
          | 8 => v = .int .i64 a0
          | 9 => v = .int .i64 a1
          | 10 => v = .int .i64 a2
          | 11 => v = .int .i64 a3
          | _ => True) (cs_inj (by decide)) (by decide) (by kernel_rfl) (by kernel_rfl) (by kernel_rfl) (by kernel_rfl) ((Ext.rfl' wc).dr) (fun bs W1 W2 h e => h.tr e) ?_ ?_ ?_
        · intro bs i v W1 W2 e1 e2 h
          match i, h with
          | 0, h => exact h
          | 1, h => exact h
          | 2, h => exact h
          | 3, h => exact h
          | 4, h => exact h
          | 5, h => exact h
          | 6, h => exact h
          | 7, h => exact h
          | 8, h => exact h
          | 9, h => exact h
          | 10, h => exact h
          | 11, h => exact h
          | (i + 12), h => exact h
        · intro HF
          refine localsQ_ord (by decide) (fun bs u W hbs hW hno hd => ?_) ?_
          · refine opLeaves_ev HF rfl fun ev zc zg zf zt => ?_
            have t3 : ev (.tmp 3) = .pointer (some ⟨w.heap.size, 0, none⟩) := zt 3
            clear zt
            exact ev_val (v := .pointer (some ⟨w.heap.size, 0, none⟩)) (by go_simp) rfl
          refine localsQ_ord (by decide) (fun bs u W hbs hW hno hd => ?_) ?_
          · refine opLeaves_ev HF rfl fun ev zc zg zf zt => ?_
            have t44 : ev (.tmp 44) = u 0 := zt 44
            clear zt
            have h0 : u 0 = _ := hd 0 (by kernel_rfl)
            have c0 := (A0.ext hW A0.lt).cell 0
            simp only [List.getElem?_cons_zero] at c0
            exact ev_val (v := .int .i64 a0) (by go_simp) rfl
          refine localsQ_ord (by decide) (fun bs u W hbs hW hno hd => ?_) ?_
          · refine opLeaves_ev HF rfl fun ev zc zg zf zt => ?_
            have t3 : ev (.tmp 3) = .pointer (some ⟨w.heap.size, 0, none⟩) := zt 3
            clear zt
            exact ev_val (v := .pointer (some ⟨w.heap.size, 1, none⟩)) (by go_simp) rfl
          refine localsQ_ord (by decide) (fun bs u W hbs hW hno hd => ?_) ?_
          · refine opLeaves_ev HF rfl fun ev zc zg zf zt => ?_
            have t46 : ev (.tmp 46) = u 2 := zt 46
            clear zt
            have h2 : u 2 = _ := hd 2 (by kernel_rfl)
            have c0 := (A0.ext hW A0.lt).cell 1
            simp only [List.getElem?_cons_zero, List.getElem?_cons_succ] at c0
            exact ev_val (v := .int .i64 a1) (by go_simp) rfl
          refine localsQ_ord (by decide) (fun bs u W hbs hW hno hd => ?_) ?_
          · refine opLeaves_ev HF rfl fun ev zc zg zf zt => ?_
            have t3 : ev (.tmp 3) = .pointer (some ⟨w.heap.size, 0, none⟩) := zt 3
            clear zt
            exact ev_val (v := .pointer (some ⟨w.heap.size, 2, none⟩)) (by go_simp) rfl
          refine localsQ_ord (by decide) (fun bs u W hbs hW hno hd => ?_) ?_
          · refine opLeaves_ev HF rfl fun ev zc zg zf zt => ?_
            have t48 : ev (.tmp 48) = u 4 := zt 48
            clear zt
            have h4 : u 4 = _ := hd 4 (by kernel_rfl)
            have c0 := (A0.ext hW A0.lt).cell 2
            simp only [List.getElem?_cons_zero, List.getElem?_cons_succ] at c0
            exact ev_val (v := .int .i64 a2) (by go_simp) rfl
          refine localsQ_ord (by decide) (fun bs u W hbs hW hno hd => ?_) ?_
          · refine opLeaves_ev HF rfl fun ev zc zg zf zt => ?_
            have t3 : ev (.tmp 3) = .pointer (some ⟨w.heap.size, 0, none⟩) := zt 3
            clear zt
            exact ev_val (v := .pointer (some ⟨w.heap.size, 3, none⟩)) (by go_simp) rfl
          refine localsQ_ord (by decide) (fun bs u W hbs hW hno hd => ?_) ?_
          · refine opLeaves_ev HF rfl fun ev zc zg zf zt => ?_
            have t50 : ev (.tmp 50) = u 6 := zt 50
            clear zt
            have h6 : u 6 = _ := hd 6 (by kernel_rfl)
            have c0 := (A0.ext hW A0.lt).cell 3
            simp only [List.getElem?_cons_zero, List.getElem?_cons_succ] at c0
            exact ev_val (v := .int .i64 a3) (by go_simp) rfl
          refine localsQ_ord (by decide) (fun bs u W hbs hW hno hd => ?_) ?_
          · refine opLeaves_ev HF rfl fun ev zc zg zf zt => ?_
            have t45 : ev (.tmp 45) = u 1 := zt 45
            clear zt
            have h1 : u 1 = _ := hd 1 (by kernel_rfl)
            exact ev_val (v := .int .i64 a0) (by go_simp) rfl
          refine localsQ_ord (by decide) (fun bs u W hbs hW hno hd => ?_) ?_
          · refine opLeaves_ev HF rfl fun ev zc zg zf zt => ?_
            have t47 : ev (.tmp 47) = u 3 := zt 47
            clear zt
            have h3 : u 3 = _ := hd 3 (by kernel_rfl)
            exact ev_val (v := .int .i64 a1) (by go_simp) rfl
          refine localsQ_ord (by decide) (fun bs u W hbs hW hno hd => ?_) ?_
          · refine opLeaves_ev HF rfl fun ev zc zg zf zt => ?_
            have t49 : ev (.tmp 49) = u 5 := zt 49
            clear zt
            have h5 : u 5 = _ := hd 5 (by kernel_rfl)
            exact ev_val (v := .int .i64 a2) (by go_simp) rfl
          refine localsQ_ord (by decide) (fun bs u W hbs hW hno hd => ?_) localsQ_nil
          · refine opLeaves_ev HF rfl fun ev zc zg zf zt => ?_
            have t51 : ev (.tmp 51) = u 7 := zt 51
            clear zt
            have h7 : u 7 = _ := hd 7 (by kernel_rfl)
            exact ev_val (v := .int .i64 a3) (by go_simp) rfl
        · intro u3 w3 hW3 hV
          have h8 : u3 8 = _ := hV 8 (by decide)
          have h9 : u3 9 = _ := hV 9 (by decide)
          have h10 : u3 10 = _ := hV 10 (by decide)
          have h11 : u3 11 = _ := hV 11 (by decide)
          have E3 := E0.tr hW3
          clear hV hW3 A0 E0
          go_simp
          go_wp2_with fail
          refine (dnew_any nn h1 (by omega) _).mono ?_
          rintro e w4 ⟨p, g, m, rfl, D4, E4⟩
          have hpB := D4.pB; have hgB := D4.gB
          have E04 := E3.tr E4
          have hs3 := E3.size
          go_wp2_with fail
          refine (ewrite_any D4 rfl (by show (0 : Nat) ≤ 900000; omega) a0 a1 a2 a3 s (hT.ext E04)).mono ?_
          rintro e w5 ⟨rfl, D5, T5⟩
          have E5 := T5.toExt E04 (by omega) (by omega)
          clear D4 T5 E4 E3 h8 h9 h10 h11
          go_wp2_with fail
          refine (rblocks_any (L : Int) _).mono ?_
          rintro e w5 ⟨rfl, rfl⟩
          obtain ⟨bs', wr', hwr, hbl, hbg, hbz⟩ := entW nn a0 a1 a2 a3 s
          rw [HL.out] at hwr hbg hbz
          obtain ⟨c, hc⟩ : ∃ c, checkE nn a0 a1 a2 a3 L = c := ⟨_, rfl⟩
          rw [hc] at hwr hbg hbz
          rw [hwr] at D5 ⊢
          dsimp only at D5 ⊢
          obtain ⟨N, hN⟩ : ∃ N, blkN (L : Int) = N := ⟨_, rfl⟩
          rw [hN] at hbg ⊢
          obtain ⟨mk, hmk⟩ : ∃ m, markN a1 a2 true = m := ⟨_, rfl⟩
          obtain ⟨m2, hm2⟩ : ∃ m, markN a1 (a2 + N - 1) true = m := ⟨_, rfl⟩
          obtain ⟨b8, hb8⟩ : ∃ b, (decide (a0 < 0) || decide (mk = 0) || decide (a3 < 0) || decide (255 < a3)) = b := ⟨_, rfl⟩
          have hcls := entCls nn a0 a1 a2 a3 L N mk m2 c hN hmk hm2 hc b8 hb8
          have hNle := blkN_le (L : Int)
          rw [hN] at hNle
          have cM := Kp.mk (fun W => rmk_any a1 a2 true W)
          have cM2 := Kp.mk (fun W => rmk_any a1 (a2 + N - 1) true W)
          rw [hmk] at cM
          rw [hm2] at cM2
          have HB8 := Kp.mk hb8; have HCLS := Kp.mk hcls; have HC := Kp.mk hc; have HN := Kp.mk hN; have HBG := Kp.mk hbg; have HBZ := Kp.mk hbz; have HBL := Kp.mk hbl
          clear hb8 hcls hc hN hbg hbz hbl hwr hmk hm2
          go_upto_region 8 with fail
          go_cut [82] (fun x wx => x = .bool b8 ∧ wx = w5)
          case first =>
            have h8 := HB8.out
            by_cases p1 : a0 < 0
            · have q1 : decide (a0 < 0) = true := decide_eq_true p1
              go_wp2_with fail
              go_meet
              exact ⟨by rw [← h8, q1]; rfl, rfl⟩
            · have q1 : decide (a0 < 0) = false := decide_eq_false p1
              by_cases p2 : mk = 0
              · have q2 : (mk == 0) = true := by simp; exact p2
                go_wp2_with fail
                refine (cM.out _).mono ?_
                rintro e w5 ⟨rfl, rfl⟩
                go_wp2_with fail
                go_meet
                exact ⟨by rw [← h8, q1, decide_eq_true p2]; rfl, rfl⟩
              · have q2 : (mk == 0) = false := by simp; exact p2
                by_cases p3 : a3 < 0
                · have q3 : decide (a3 < 0) = true := decide_eq_true p3
                  go_wp2_with fail
                  refine (cM.out _).mono ?_
                  rintro e w5 ⟨rfl, rfl⟩
                  go_wp2_with fail
                  go_meet
                  exact ⟨by rw [← h8, q1, decide_eq_false p2, q3]; rfl, rfl⟩
                · have q3 : decide (a3 < 0) = false := decide_eq_false p3
                  by_cases p4 : 255 < a3
                  · have q4 : decide (255 < a3) = true := decide_eq_true p4
                    go_wp2_with fail
                    refine (cM.out _).mono ?_
                    rintro e w5 ⟨rfl, rfl⟩
                    go_wp2_with fail
                    go_meet
                    exact ⟨by rw [← h8, q1, decide_eq_false p2, q3, q4]; rfl, rfl⟩
                  · have q4 : decide (255 < a3) = false := decide_eq_false p4
                    go_wp2_with fail
                    refine (cM.out _).mono ?_
                    rintro e w5 ⟨rfl, rfl⟩
                    go_wp2_with fail
                    go_meet
                    exact ⟨by rw [← h8, q1, decide_eq_false p2, q3, q4]; rfl, rfl⟩
          case rest =>
            obtain ⟨rfl, rfl⟩ := hcut
            go_upto_if 82 with fail
            go_cut [15] (fun x wx => x = .int .i64 c ∧ wx = wc)
            case first =>
              cases b8 with
              | true =>
                obtain rfl : c = 7 := HCLS.out.1 rfl
                go_wp2_with fail
                go_meet
                exact ⟨rfl, rfl⟩
              | false =>
                obtain ⟨k0, k1, k2, k3, k4⟩ := HCLS.out.2 rfl
                by_cases p1 : N = 0
                · obtain rfl : c = 3 := k1 p1
                  have q1 : ((N : Int) == 0) = true := by simp; exact p1
                  clear k1 k2 k3 k4 p1
                  go_wp2_with fail
                  go_meet
                  exact ⟨rfl, rfl⟩
                · have q1 : ((N : Int) == 0) = false := by simp; exact p1
                  have w1 : IntKind.i64.wrap (a2 + N) = a2 + N := IntWalk.i64_in _ (by omega)
                  have w2 : IntKind.i64.wrap (a2 + N - 1) = a2 + N - 1 := IntWalk.i64_in _ (by omega)
                  have w3 : IntKind.i64.wrap ((nn : Int) - N) = (nn : Int) - N := IntWalk.i64_in _ (by omega)
                  have w4 : IntKind.i64.wrap ((nn : Int) - N - a2) = (nn : Int) - N - a2 := IntWalk.i64_in _ (by omega)
                  by_cases p2 : m2 = 0
                  · obtain rfl : c = 19 := k2 p1 p2
                    have q2 : (m2 == 0) = true := by simp; exact p2
                    clear k1 k2 k3 k4
                    go_wp2_with fail
                    refine (cM2.out _).mono ?_
                    rintro e w5 ⟨rfl, rfl⟩
                    go_wp2_with fail
                    go_meet
                    exact ⟨rfl, rfl⟩
                  · have q2 : (m2 == 0) = false := by simp; exact p2
                    by_cases p3 : (nn : Int) < a0 + a2 + N
                    · obtain rfl : c = 19 := k3 p1 p2 p3
                      have q3 : decide ((nn : Int) - N - a2 < a0) = true := by simp; omega
                      clear k1 k2 k3 k4
                      go_wp2_with fail
                      refine (cM2.out _).mono ?_
                      rintro e w5 ⟨rfl, rfl⟩
                      go_wp2_with fail
                      go_meet
                      exact ⟨rfl, rfl⟩
                    · obtain rfl : c = 0 := k4 p1 p2 p3
                      have q3 : decide ((nn : Int) - N - a2 < a0) = false := by simp; omega
                      clear k1 k2 k3 k4
                      go_wp2_with fail
                      refine (cM2.out _).mono ?_
                      rintro e w5 ⟨rfl, rfl⟩
                      go_wp2_with fail
                      go_meet
                      exact ⟨rfl, rfl⟩
            case rest =>
              obtain ⟨rfl, rfl⟩ := hcut
              have hcn : ((c : Int) != (c : Int)) = false := by simp
              go_wp2_with fail
              refine (emark_any _ _ _ _).mono ?_
              rintro e w5 ⟨rfl, rfl⟩
              go_wp2_with fail
              refine (rmk_any _ _ _ _).mono ?_
              rintro e w5 ⟨rfl, rfl⟩
              go_wp2_with fail
              refine (eblocks_any _ _).mono ?_
              rintro e w5 ⟨rfl, rfl⟩
              go_wp2_with fail
              refine (rblocks_any _ _).mono ?_
              rintro e w5 ⟨rfl, rfl⟩
              go_wp2_with fail
              refine (eblocks_any _ _).mono ?_
              rintro e w5 ⟨rfl, rfl⟩
              rw [HN.out]
              go_wp2_with fail
              refine (all_disk D5 rfl).mono ?_
              rintro e w6 ⟨v16, rfl, O6, E6⟩
              dsimp only at O6
              rw [HBL.out] at O6
              obtain ⟨bA, bc, hbv⟩ := own_slice O6
              subst hbv
              have E06 := E5.tr E6
              have cF := Kp.mk (show ∀ W : World, Calls Tryd.prog 37 #[.int .i64 a1, .int .i64 a2, .int .i64 a3, .string (ofL s)] W fun e w' => ∃ v, e = .returned v ∧ (c = 0 → w'.ownsRow W.heap.size 9 1 v N ((framesE a1 a2 a3 s).map Str)) ∧ Ext W w' from fun W => by
                have hLL := HL.out
                have hCC := HC.out
                cases hfb : framesB a1 a2 a3 s.length
                · have hc0 : c ≠ 0 := fun h => by
                    rw [h] at hCC
                    rw [hLL, checkE_frames hCC] at hfb
                    cases hfb
                  exact (rframes_bad a1 a2 a3 s W (by omega) hfb).mono fun e w' ⟨h1, h2⟩ => ⟨_, h1, fun h => absurd h hc0, h2⟩
                · refine (rframes_ok a1 a2 a3 s W hfb).mono fun e w' ⟨v, h1, h2, h3⟩ => ⟨v, h1, fun h => own_eq h2 rfl ?_, h3⟩
                  rw [h] at hCC
                  rw [length_framesE, length_partsE (by rw [hLL]; exact (check_good hCC).len), hLL]
                  exact HN.out)
              clear D5 E5 E6 cM cM2 HB8 HCLS HBL
              go_wp2_with fail
              refine (cF.out _).mono ?_
              rintro e w7 ⟨v17, rfl, O17, E7⟩
              have E07 := E06.tr E7
              have O67 := own_ext O6 (fun k _ hk => E7.block k hk)
              clear O6 E06 E7 cF
              go_wp2_with (at_make; refine wpl_make Tryd.elemU8 rfl _ rfl _ _ rfl 128 rfl rfl rfl rfl (by omega) (by omega) ?_)
              intro w8 O8 E8
              obtain ⟨Z, hZ⟩ : ∃ l, List.replicate 128 (0 : UInt8) = l := ⟨_, rfl⟩
              have O8z := Kp.mk (own_eq O8 (show _ = Z.map U8 by rw [← hZ, List.map_replicate]; rfl) rfl)
              have O68 := Kp.mk (own_ext O67 (fun k _ hk => E8.block k hk))
              have O178 := Kp.mk (fun h : c = 0 => own_ext (O17 h) (fun k _ hk => E8.block k hk))
              have E08 := E07.tr E8
              have HZ := Kp.mk hZ
              clear O67 O17 O8 E07 E8 hZ
              go_upto_region 20 with fail
              go_loopw [19] (fun i wr => ∃ j : Nat, i = .int .i64 j ∧ j ≤ nn ∧ Ext w8 wr) (fun i _ => nn - (intOf i).toNat)
              case atStart => exact ⟨0, rfl, Nat.zero_le _, Ext.rfl' _⟩
              case round =>
                obtain ⟨j, rfl, hj, E⟩ := hrel
                by_cases hlt : j < nn
                · have hcv := Tryd.str (own_ext O8z.out (fun k _ hk => E.block k hk))
                  obtain ⟨gb, hgb⟩ : ∃ gb, bA = some ⟨gb, 0, none⟩ := by
                    rcases O68.out.2 with ⟨_, h⟩ | ⟨gb, cap, cur, e, _⟩
                    · omega
                    · cases e; exact ⟨gb, rfl⟩
                  subst hgb
                  have ob := (own_ext O68.out (fun k _ hk => E.block k hk)).cellAt j (by omega)
                  by_cases hin : c = 0 ∧ a0 + a2 ≤ (j : Int) ∧ (j : Int) < a0 + a2 + N
                  · obtain ⟨hc0, hi1, hi2⟩ := hin
                    have hCC := HC.out
                    rw [hc0] at hCC
                    have hG := check_good hCC
                    have g1 := hG.fr0; have g2 := hG.ix0; have g3 := hG.room
                    rw [HN.out] at g3
                    obtain ⟨kq, hkq⟩ : ∃ kq : Nat, (j : Int) - a0 - a2 = kq := ⟨((j : Int) - a0 - a2).toNat, by omega⟩
                    have hkN : kq < N := by omega
                    have of0 := O178.out hc0
                    obtain ⟨fA, fc, hfv⟩ := own_slice of0
                    subst hfv
                    obtain ⟨gf, hgf⟩ : ∃ gf, fA = some ⟨gf, 0, none⟩ := by
                      rcases of0.2 with ⟨_, h⟩ | ⟨gf, cap, cur, e, _⟩
                      · omega
                      · cases e; exact ⟨gf, rfl⟩
                    subst hgf
                    have ofk := (own_ext of0 (fun k _ hk => E.block k hk)).cellAt kq (by omega)
                    have hfl : (framesE a1 a2 a3 s).length = N := by
                      rw [length_framesE, length_partsE (by rw [HL.out]; exact hG.len), HL.out]
                      exact HN.out
                    obtain ⟨X, hX⟩ : ∃ X, (framesE a1 a2 a3 s)[kq]? = some X := ⟨_, List.getElem?_eq_getElem (by omega)⟩
                    have hb := HBG.out hc0 j hlt
                    rw [if_pos (by omega), show j - (a0 + a2).toNat = kq by omega, hX] at hb
                    rw [List.getElem?_map, hX] at ofk
                    rw [List.getElem?_map, hb] at ob
                    have of1 : wr.cell? _ = some (.string (ofL X)) := ofk
                    have ob1 : wr.cell? _ = some (.string (ofL X)) := ob
                    have hbq : (ofL X != ofL X) = false := by rw [bne, beq_toListBytes, beq_self_eq_true]; rfl
                    have q1 : ((c : Int) == 0) = true := by rw [hc0]; rfl
                    have w1 : IntKind.i64.wrap (a0 + a2) = a0 + a2 := IntWalk.i64_in _ (by omega)
                    have w2 : IntKind.i64.wrap (a0 + a2 + N) = a0 + a2 + N := IntWalk.i64_in _ (by omega)
                    have w3 : IntKind.i64.wrap ((j : Int) - a0) = (j : Int) - a0 := IntWalk.i64_in _ (by omega)
                    have w4 : IntKind.i64.wrap ((j : Int) - a0 - a2) = (kq : Int) := by rw [hkq]; exact IntWalk.i64_in _ (by omega)
                    have q2 : decide (a0 + a2 ≤ (j : Int)) = true := decide_eq_true hi1
                    have q3 : decide ((j : Int) < a0 + a2 + N) = true := decide_eq_true hi2
                    clear hc0 hCC hG hkq of0 ofk ob hb hX hfl O178
                    go_wp2_with fail
                    go_roundw
                    case rel => exact ⟨j + 1, by go_num, hlt, E⟩
                    case measure => simp [intOf]; omega
                  · have hbj : (bs'.map Str)[j]? = some (.string (ofL Z)) := by
                      rw [List.getElem?_map]
                      by_cases hc0 : c = 0
                      · have hCC := HC.out
                        rw [hc0] at hCC
                        have hG := check_good hCC
                        have g1 := hG.fr0; have g2 := hG.ix0
                        rw [HBG.out hc0 j hlt, if_neg (by omega), HZ.out]
                        rfl
                      · rw [HBZ.out hc0 j hlt, HZ.out]
                        rfl
                    rw [hbj] at ob
                    have hbq : (ofL Z != ofL Z) = false := by rw [bne, beq_toListBytes, beq_self_eq_true]; rfl
                    by_cases hc0 : c = 0
                    · have hCC := HC.out
                      rw [hc0] at hCC
                      have hG := check_good hCC
                      have g1 := hG.fr0; have g2 := hG.ix0; have g3 := hG.room
                      rw [HN.out] at g3
                      have q1 : ((c : Int) == 0) = true := by rw [hc0]; rfl
                      have w1 : IntKind.i64.wrap (a0 + a2) = a0 + a2 := IntWalk.i64_in _ (by omega)
                      have w2 : IntKind.i64.wrap (a0 + a2 + N) = a0 + a2 + N := IntWalk.i64_in _ (by omega)
                      by_cases hi1 : a0 + a2 ≤ (j : Int)
                      · have q2 : decide (a0 + a2 ≤ (j : Int)) = true := decide_eq_true hi1
                        have q3 : decide ((j : Int) < a0 + a2 + N) = false := decide_eq_false (fun h => hin ⟨hc0, hi1, h⟩)
                        clear hc0 hCC hG hin
                        go_wp2_with fail
                        go_roundw
                        case rel => exact ⟨j + 1, by go_num, hlt, E⟩
                        case measure => simp [intOf]; omega
                      · have q2 : decide (a0 + a2 ≤ (j : Int)) = false := decide_eq_false hi1
                        clear hc0 hCC hG hin
                        go_wp2_with fail
                        go_roundw
                        case rel => exact ⟨j + 1, by go_num, hlt, E⟩
                        case measure => simp [intOf]; omega
                    · have q1 : ((c : Int) == 0) = false := by simp; exact hc0
                      go_wp2_with fail
                      go_roundw
                      case rel => exact ⟨j + 1, by go_num, hlt, E⟩
                      case measure => simp [intOf]; omega
                · have hle : nn ≤ j := by omega
                  have E0 := E08.tr E
                  go_wp2_with fail
                  refine (ewrite_nil _ _ _ _ _ _).mono ?_
                  rintro e w9 ⟨rfl, rfl⟩
                  go_wp2_with fail
                  refine (works43_any _ (hT.ext E0)).mono ?_
                  rintro e w1 ⟨rfl, E1⟩
                  go_wp2
                  go_ret
                  exact ⟨rfl, E0.tr E1⟩
end Go.Proofs.YtmnpbpfeoackiaaDoor
