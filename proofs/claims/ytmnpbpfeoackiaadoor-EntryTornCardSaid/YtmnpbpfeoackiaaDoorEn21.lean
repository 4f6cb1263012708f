/-
  porterlaw43.EntryTorn: what the law walks. Condition: the number of blocks and the length of the second text are lengths.
-/
import Derived.Test.YtmnpbpfeoackiaaDoorEn19
import Derived.Test.YtmnpbpfeoackiaaDoorEn20
import Derived.Test.YtmnpbpfeoackiaaDoorMhL
namespace Go.Proofs.YtmnpbpfeoackiaaDoor
open Go.RowKit

/-- The bytes of a mark. -/
theorem tmark_any (mk : Int) (h1 : 1 ≤ mk) (h2 : mk < 9223372036854775808) (w : World) : Calls Tryd.prog 42 #[.int .i64 mk] w fun e w' => e = .returned (.string (ofL (leN 8 mk.toNat))) ∧ Ext w w' := by
  have cP := rfput ⟨mk, 0, []⟩ w h2
  rw [frPut_ok (by dsimp only; omega) (by simp)] at cP
  dsimp only at cP
  obtain ⟨B, hB⟩ : ∃ B, frBytes mk.toNat (Int.toNat 0) [] = B := ⟨_, rfl⟩
  have hl : B.length = 128 := by rw [← hB]; exact length_frBytes (by decide)
  have ht : B.take 8 = leN 8 mk.toNat := by rw [← hB]; exact frBytes_take
  have hsz : (ofL B).size = 128 := by rw [size_ofL, hl]
  have x8 : (ofL B).extract 0 8 = ofL (leN 8 mk.toNat) := by rw [extract_to, toL_ofL, ht]
  rw [hB] at cP
  replace cP := Kp.mk (show Calls Tryd.prog 79 #[.int .i64 mk, .int .i64 0, .string ⟨#[]⟩] w fun e w' => e = .returned (.tuple #[.string (ofL B), .int .i64 0]) ∧ Ext w w' from cP)
  clear hB hl ht
  go_enter Tryd.func42, Tryd.ntmps42
  go_wp2_with fail
  refine cP.out.mono ?_
  rintro e w1 ⟨rfl, E1⟩
  go_wp2
  go_ret
  exact ⟨rfl, E1⟩
theorem checkE_vals {n : Nat} {fr gen ix kind : Int} {L : Nat} : checkE n fr gen ix kind L = 0 ∨ checkE n fr gen ix kind L = 3 ∨ checkE n fr gen ix kind L = 7 ∨ checkE n fr gen ix kind L = 19 := by
  unfold checkE
  split
  · exact .inr (.inr (.inl rfl))
  · split
    · exact .inr (.inl rfl)
    · split
      · exact .inr (.inr (.inr rfl))
      · exact .inl rfl
/-- What the law finds behind a writing that the check lets through. -/
theorem torn_sum {bs : List (List UInt8)} {cr : Option (Int × Nat)} {wr : Nat} {fp ix : Nat} {gen : Int} {s : List UInt8} (h : checkE bs.length fp gen ix 2 s.length = 0) (h128 : ∀ b ∈ bs, b.length = 128) (hk : ∀ a k, cr = some (a, k) → k ≤ 128) {B : List UInt8} (hB : bs[fp + ix]? = some B) :
    ∃ bs' wr' dn e, writeE ⟨bs, cr, wr, false⟩ fp gen ix 2 s = (⟨bs', cr, wr', dn⟩, e) ∧ (e = 0 ∨ e = 20) ∧ ((B.drop 120 == leN 8 (markN gen ix true).toNat) = false → (e = 0 ∧ readE bs' fp gen ix = some (2, s, blkN s.length)) ∨ (e = 20 ∧ readE bs' fp gen ix = none) ∨ (e = 20 ∧ readE bs' fp gen ix = some (2, s, blkN s.length))) := by
  cases ht : (B.drop 120 == leN 8 (markN gen ix true).toNat) with
  | true =>
    have hw : writeE ⟨bs, cr, wr, false⟩ fp gen ix 2 s = Dk.puts ⟨bs, cr, wr, false⟩ (orderE (fp + ix) (framesE gen ix 2 s)) := by
      unfold writeE
      rw [if_neg (fun hne => hne h), show ((fp : Int) + ix).toNat = fp + ix by omega]
    rw [hw]
    rcases puts_torn (orderE (fp + ix) (framesE gen ix 2 s)) bs cr wr with hd | ⟨l1, i, b, l2, a, k, h1, h2, h3⟩
    · exact ⟨_, _, _, _, hd, .inl rfl, fun h => by cases h⟩
    · exact ⟨_, _, _, _, h3, .inr rfl, fun h => by cases h⟩
  | false =>
    obtain ⟨bs', wr', dn, e, h1, h2, h3⟩ := torn_read (gen := gen) (s := s) (wr := wr) (cr := cr) h h128 hk (fun b hb he => by
      rw [hB] at hb
      obtain rfl := Option.some.inj hb
      rw [he, beq_self_eq_true] at ht
      cases ht)
    refine ⟨bs', wr', dn, e, h1, ?_, fun _ => ?_⟩
    · rcases h3 with ⟨h, _⟩ | ⟨h, _⟩
      · exact .inl h
      · exact .inr h
    · rcases h3 with ⟨h, h'⟩ | ⟨h, h' | h'⟩
      · exact .inl ⟨h, h'⟩
      · exact .inr (.inl ⟨h, h'⟩)
      · exact .inr (.inr ⟨h, h'⟩)

set_option maxRecDepth 100000 in
set_option maxHeartbeats 4000000 in
theorem entryTorn_walk (bs : List (List UInt8)) (v0 : Value) (a0 a1 a2 a3 : Int) (s0 s1 : List UInt8) (w : World) (hT : Tab w) (hR : Rd w w.heap.size 1 v0 bs.length (bs.map Str)) (hbs : bs.length ≤ maxLen) (hs1 : s1.length ≤ maxLen) :
    Calls Tryd.prog 11 #[v0, .agg #[.int .i64 a0, .int .i64 a1, .int .i64 a2, .int .i64 a3], .agg #[.string (ofL s0), .string (ofL s1)]] w fun e w' => e = .returned (.bool true) ∧ Ext w w' := by
  obtain ⟨A, c, rfl, -, -, hc⟩ := hR
  obtain ⟨n, hn⟩ : ∃ n, bs.length = n := ⟨_, rfl⟩
  rw [hn] at hc hbs
  rw [hn]
  unfold maxLen at hbs hs1
  have HN := Kp.mk hn
  clear hn
  obtain ⟨L, hL⟩ : ∃ L, s0.length = L := ⟨_, rfl⟩
  have hsz : (ofL s0).size = L := by rw [size_ofL, hL]
  have HL := Kp.mk hL
  clear hL
  obtain ⟨w0, hw0, E0, A0, A1⟩ : ∃ w0, w0 = (w.alloc (.cells #[.int .i64 a0, .int .i64 a1, .int .i64 a2, .int .i64 a3] 46)).alloc (.cells #[.string (ofL s0), .string (ofL s1)] 67) ∧ Ext w w0 ∧ Arr w0 w.heap.size 46 [.int .i64 a0, .int .i64 a1, .int .i64 a2, .int .i64 a3] ∧ Arr w0 (w.heap.size + 1) 67 [.string (ofL s0), .string (ofL s1)] := by
    refine ⟨_, rfl, ((Ext.rfl' w).al _).al _, (Arr.new w _ [.int .i64 a0, .int .i64 a1, .int .i64 a2, .int .i64 a3]).alloc _, ?_⟩
    have h := Arr.new (w.alloc (.cells #[.int .i64 a0, .int .i64 a1, .int .i64 a2, .int .i64 a3] 46)) 67 [.string (ofL s0), .string (ofL s1)]
    rw [World.size_alloc] at h
    exact h
  have HW0 := Kp.mk hw0
  have b0 := A1.cell 0
  simp only [List.getElem?_cons_zero] at b0
  clear hw0
  by_cases p1 : n < 1
  · have q1 : decide ((n : Int) < 1) = true := by simp; omega
    clear hc
    go_enter Tryd.func11, Tryd.ntmps11
    go_upto_region 1 with fail
    rw [← HW0.out]
    clear HW0
    go_upto_region 3 with fail
    go_wp2_with fail
    refine (works43_any _ (hT.ext E0)).mono ?_
    rintro e w1 ⟨rfl, E1⟩
    go_wp2
    go_ret
    exact ⟨rfl, E0.tr E1⟩
  · have q1 : decide ((n : Int) < 1) = false := by simp; omega
    by_cases p2 : 12 < n
    · have q2 : decide ((12 : Int) < (n : Int)) = true := by simp; omega
      clear hc
      go_enter Tryd.func11, Tryd.ntmps11
      go_upto_region 1 with fail
      rw [← HW0.out]
      clear HW0
      go_upto_region 3 with fail
      go_wp2_with fail
      refine (works43_any _ (hT.ext E0)).mono ?_
      rintro e w1 ⟨rfl, E1⟩
      go_wp2
      go_ret
      exact ⟨rfl, E0.tr E1⟩
    · have q2 : decide ((12 : Int) < (n : Int)) = false := by simp; omega
      by_cases p3 : 900 < L
      · have q3 : decide ((900 : Int) < (L : Int)) = true := by simp; omega
        clear hc
        go_enter Tryd.func11, Tryd.ntmps11
        go_upto_region 1 with fail
        rw [← HW0.out]
        clear HW0
        go_upto_region 3 with fail
        go_wp2_with fail
        refine (works43_any _ (hT.ext E0)).mono ?_
        rintro e w1 ⟨rfl, E1⟩
        go_wp2
        go_ret
        exact ⟨rfl, E0.tr E1⟩
      · have q3 : decide ((900 : Int) < (L : Int)) = false := by simp; omega
        have h1 : 1 ≤ n := by omega
        have h12 : n ≤ 12 := by omega
        obtain ⟨b, off, rfl, hbw, hcell⟩ := hc (by omega)
        have hcl := Kp.mk (show ∀ (j : Nat) (s : List UInt8), bs[j]? = some s → ∀ W : World, Ext w W → W.cell? ⟨b, off + j, none⟩ = some (.string (ofL s)) from fun j s hj W hW => ((bcell hW).1 b _ (by omega)).trans (hcell j _ (by rw [List.getElem?_map, hj]; rfl)))
        clear hc p1 p2 hcell
        go_enter Tryd.func11, Tryd.ntmps11
        go_upto_region 1 with fail
        rw [← HW0.out]
        clear HW0
        go_upto_region 4 with fail
        clear q1 q2 q3 b0
        refine wp_region_stageE [] (fun bs W => Ext w0 W) (fun bs i v W => match i with
          | 0 => v = .pointer (some ⟨w.heap.size, 0, none⟩)
          | 1 => v = .int .i64 a0
          | 2 => v = .pointer (some ⟨w.heap.size, 1, none⟩)
          | 3 => v = .int .i64 a1
          | 4 => v = .pointer (some ⟨w.heap.size, 2, none⟩)
          | 5 => v = .int .i64 a2
          | 6 => v = .pointer (some ⟨w.heap.size, 3, none⟩)
          | 7 => v = .int .i64 a3
          | 8 => v = .int .i64 a0
          | 9 => v = .int .i64 a1
          | 10 => v = .int .i64 a2
          | 11 => v = .int .i64 a3
          | _ => True) (cs_inj (by decide)) (by decide) (by kernel_rfl) (by kernel_rfl) (by kernel_rfl) (by kernel_rfl) ((Ext.rfl' w0).dr) (fun bs W1 W2 h e => h.tr e) ?_ ?_ ?_
        · intro bs i v W1 W2 e1 e2 h
          match i, h with
          | 0, h => exact h
          | 1, h => exact h
          | 2, h => exact h
          | 3, h => exact h
          | 4, h => exact h
          | 5, h => exact h
          | 6, h => exact h
          | 7, h => exact h
          | 8, h => exact h
          | 9, h => exact h
          | 10, h => exact h
          | 11, h => exact h
          | (i + 12), h => exact h
        · intro HF
          refine localsQ_ord (by decide) (fun bs u W hbs hW hno hd => ?_) ?_
          · refine opLeaves_ev HF rfl fun ev zc zg zf zt => ?_
            have t4 : ev (.tmp 4) = .pointer (some ⟨w.heap.size, 0, none⟩) := zt 4
            clear zt
            exact ev_val (v := .pointer (some ⟨w.heap.size, 0, none⟩)) (by go_simp) rfl
          refine localsQ_ord (by decide) (fun bs u W hbs hW hno hd => ?_) ?_
          · refine opLeaves_ev HF rfl fun ev zc zg zf zt => ?_
            have t34 : ev (.tmp 34) = u 0 := zt 34
            clear zt
            have h0 : u 0 = _ := hd 0 (by kernel_rfl)
            have c0 := (A0.ext hW A0.lt).cell 0
            simp only [List.getElem?_cons_zero] at c0
            exact ev_val (v := .int .i64 a0) (by go_simp) rfl
          refine localsQ_ord (by decide) (fun bs u W hbs hW hno hd => ?_) ?_
          · refine opLeaves_ev HF rfl fun ev zc zg zf zt => ?_
            have t4 : ev (.tmp 4) = .pointer (some ⟨w.heap.size, 0, none⟩) := zt 4
            clear zt
            exact ev_val (v := .pointer (some ⟨w.heap.size, 1, none⟩)) (by go_simp) rfl
          refine localsQ_ord (by decide) (fun bs u W hbs hW hno hd => ?_) ?_
          · refine opLeaves_ev HF rfl fun ev zc zg zf zt => ?_
            have t36 : ev (.tmp 36) = u 2 := zt 36
            clear zt
            have h2 : u 2 = _ := hd 2 (by kernel_rfl)
            have c0 := (A0.ext hW A0.lt).cell 1
            simp only [List.getElem?_cons_zero, List.getElem?_cons_succ] at c0
            exact ev_val (v := .int .i64 a1) (by go_simp) rfl
          refine localsQ_ord (by decide) (fun bs u W hbs hW hno hd => ?_) ?_
          · refine opLeaves_ev HF rfl fun ev zc zg zf zt => ?_
            have t4 : ev (.tmp 4) = .pointer (some ⟨w.heap.size, 0, none⟩) := zt 4
            clear zt
            exact ev_val (v := .pointer (some ⟨w.heap.size, 2, none⟩)) (by go_simp) rfl
          refine localsQ_ord (by decide) (fun bs u W hbs hW hno hd => ?_) ?_
          · refine opLeaves_ev HF rfl fun ev zc zg zf zt => ?_
            have t38 : ev (.tmp 38) = u 4 := zt 38
            clear zt
            have h4 : u 4 = _ := hd 4 (by kernel_rfl)
            have c0 := (A0.ext hW A0.lt).cell 2
            simp only [List.getElem?_cons_zero, List.getElem?_cons_succ] at c0
            exact ev_val (v := .int .i64 a2) (by go_simp) rfl
          refine localsQ_ord (by decide) (fun bs u W hbs hW hno hd => ?_) ?_
          · refine opLeaves_ev HF rfl fun ev zc zg zf zt => ?_
            have t4 : ev (.tmp 4) = .pointer (some ⟨w.heap.size, 0, none⟩) := zt 4
            clear zt
            exact ev_val (v := .pointer (some ⟨w.heap.size, 3, none⟩)) (by go_simp) rfl
          refine localsQ_ord (by decide) (fun bs u W hbs hW hno hd => ?_) ?_
          · refine opLeaves_ev HF rfl fun ev zc zg zf zt => ?_
            have t40 : ev (.tmp 40) = u 6 := zt 40
            clear zt
            have h6 : u 6 = _ := hd 6 (by kernel_rfl)
            have c0 := (A0.ext hW A0.lt).cell 3
            simp only [List.getElem?_cons_zero, List.getElem?_cons_succ] at c0
            exact ev_val (v := .int .i64 a3) (by go_simp) rfl
          refine localsQ_ord (by decide) (fun bs u W hbs hW hno hd => ?_) ?_
          · refine opLeaves_ev HF rfl fun ev zc zg zf zt => ?_
            have t35 : ev (.tmp 35) = u 1 := zt 35
            clear zt
            have h1 : u 1 = _ := hd 1 (by kernel_rfl)
            exact ev_val (v := .int .i64 a0) (by go_simp) rfl
          refine localsQ_ord (by decide) (fun bs u W hbs hW hno hd => ?_) ?_
          · refine opLeaves_ev HF rfl fun ev zc zg zf zt => ?_
            have t37 : ev (.tmp 37) = u 3 := zt 37
            clear zt
            have h3 : u 3 = _ := hd 3 (by kernel_rfl)
            exact ev_val (v := .int .i64 a1) (by go_simp) rfl
          refine localsQ_ord (by decide) (fun bs u W hbs hW hno hd => ?_) ?_
          · refine opLeaves_ev HF rfl fun ev zc zg zf zt => ?_
            have t39 : ev (.tmp 39) = u 5 := zt 39
            clear zt
            have h5 : u 5 = _ := hd 5 (by kernel_rfl)
            exact ev_val (v := .int .i64 a2) (by go_simp) rfl
          refine localsQ_ord (by decide) (fun bs u W hbs hW hno hd => ?_) localsQ_nil
          · refine opLeaves_ev HF rfl fun ev zc zg zf zt => ?_
            have t41 : ev (.tmp 41) = u 7 := zt 41
            clear zt
            have h7 : u 7 = _ := hd 7 (by kernel_rfl)
            exact ev_val (v := .int .i64 a3) (by go_simp) rfl
        · intro u3 w3 hW3 hV
          have h8 : u3 8 = _ := hV 8 (by decide)
          have h9 : u3 9 = _ := hV 9 (by decide)
          have h10 : u3 10 = _ := hV 10 (by decide)
          have h11 : u3 11 = _ := hV 11 (by decide)
          have E3 := E0.tr hW3
          have B1 := A1.ext hW3 A1.lt
          have b1 := B1.cell 1
          simp only [List.getElem?_cons_zero, List.getElem?_cons_succ] at b1
          have hz1 : (ofL s1).size = s1.length := size_ofL s1
          obtain ⟨t, ht⟩ : ∃ t, a3.tmod 10 = t := ⟨_, rfl⟩
          have htb : -10 < t ∧ t < 10 ∧ (t < 0 → a3 < 0) := by
            rw [← ht]
            have e1 := Int.tmod_lt_of_pos a3 (show (0 : Int) < 10 by decide)
            have e2 := Int.lt_tmod_of_pos a3 (show (0 : Int) < 10 by decide)
            refine ⟨by omega, e1, fun hn => ?_⟩
            rcases Int.lt_or_le a3 0 with h | h
            · exact h
            · have := Int.tmod_nonneg 10 h
              omega
          have hw1 : IntKind.i64.wrap t = t := IntWalk.i64_in _ (by omega)
          have hw2 : IntKind.i64.wrap ((n : Int) + t) = (n : Int) + t := IntWalk.i64_in _ (by omega)
          clear hV hW3 A0 A1 E0
          go_simp
          go_wp2_with fail
          obtain ⟨V, hV, EV, BV⟩ : ∃ V, w3.alloc (.cells #[.int .i64 ((n : Int) + t), .int .i64 s1.length] 69) = V ∧ Ext w3 V ∧ Arr V w3.heap.size 69 [.int .i64 ((n : Int) + t), .int .i64 s1.length] := ⟨_, rfl, (Ext.rfl' _).al _, Arr.new w3 _ [.int .i64 ((n : Int) + t), .int .i64 s1.length]⟩
          rw [hV]
          have k0 := BV.cell 0; have k1 := BV.cell 1
          simp only [List.getElem?_cons_zero, List.getElem?_cons_succ] at k0 k1
          obtain ⟨kp, hkp, hkp2⟩ : ∃ kp : Nat, min (max (s1.length : Int) 0) 128 = (kp : Int) ∧ kp ≤ 128 := ⟨min s1.length 128, by omega, by omega⟩
          have hs3 := E3.size
          have hsV := EV.size
          refine (dnew_crash n h1 (by omega) w3.heap.size 1 ((n : Int) + t) s1.length kp hkp V k0 k1 BV.lt).mono ?_
          rintro e w4 ⟨p, g, m, rfl, D4, E4⟩
          have hpB := D4.pB; have hgB := D4.gB
          have E04 := (E3.tr EV).tr E4
          have D4' : DkAt w4 V.heap.size p g m (fillD bs (some ((n : Int) + t, kp)) 0) := by rw [fillD_zero, HN.out]; exact D4
          have HT := Kp.mk htb
          have hpw : w.heap.size ≤ p := by omega
          have hgw : w.heap.size ≤ g := by omega
          clear hkp k0 k1 BV hV EV E3 b1 B1 hw1 hw2 ht hz1 D4 E4 h8 h9 h10 h11 hs3 hsV htb
          go_upto_region 7 with fail
          go_loopw [14] (fun i wr => ∃ j : Nat, i = .int .i64 j ∧ j ≤ n ∧ DkAt wr V.heap.size p g m (fillD bs (some ((n : Int) + t, kp)) j) ∧ Ext w wr ∧ (∀ q B, q < j → bs[q]? = some B → B.length = 128)) (fun i _ => n - (intOf i).toNat)
          case atStart => exact ⟨0, rfl, Nat.zero_le _, D4', E04, fun q B hq => absurd hq (by omega)⟩
          case round =>
            clear D4' E04
            obtain ⟨j, rfl, hj, D, EW, h128⟩ := hrel
            have H128 := Kp.mk h128
            clear h128
            by_cases hjn : j < n
            · obtain ⟨x1, hx1⟩ : ∃ s, bs[j]? = some s := ⟨_, List.getElem?_eq_getElem (by rw [HN.out]; exact hjn)⟩
              have c1 := hcl.out j x1 hx1 wr EW
              have hsz1 : (ofL x1).size = x1.length := size_ofL x1
              by_cases h128 : x1.length = 128
              · have q1 : ((x1.length : Int) != 128) = false := by rw [h128]; rfl
                have hfl := fillD_len (cr := some ((n : Int) + t, kp)) (show j ≤ bs.length by rw [HN.out]; omega)
                have cW := Kp.mk (dwrite_any D rfl (i := j) (by rw [hfl, HN.out]; exact hjn) h128 (by show j < 1000000; omega))
                by_cases hcr : (n : Int) + t = (j : Int)
                · have hp2 : ((fillD bs (some ((n : Int) + t, kp)) j).put j x1).2 = 20 := by
                    rw [put_crash (d := fillD bs (some ((n : Int) + t, kp)) j) (k := kp) rfl (by
                      show (if (n : Int) + t = (j : Int) then (kp, true) else (0, false)) = _
                      rw [if_pos hcr])]
                  rw [hp2] at cW
                  have ha3 : a3 < 0 := HT.out.2.2 (by omega)
                  have q2 : decide (a3 < 0) = true := decide_eq_true ha3
                  have HX1 := Kp.mk hx1
                  clear hfl D hx1 hp2
                  go_wp2_with fail
                  refine cW.out.mono ?_
                  rintro e w5 ⟨rfl, -, T5⟩
                  have E0 := T5.toExt EW hpw hgw
                  clear cW T5 EW c1
                  have c1 := hcl.out j x1 HX1.out w5 E0
                  go_wp2_with fail
                  refine (works43_any _ (hT.ext E0)).mono ?_
                  rintro e w1 ⟨rfl, E1⟩
                  go_wp2
                  go_ret
                  exact ⟨rfl, E0.tr E1⟩
                · have hp2 := fillD_put (cr := some ((n : Int) + t, kp)) hx1 (show crAt (some ((n : Int) + t, kp)) j = (0, false) by
                      show (if (n : Int) + t = (j : Int) then (kp, true) else (0, false)) = _
                      rw [if_neg hcr])
                  rw [hp2] at cW
                  have h128' := Kp.mk (show ∀ q B, q < j + 1 → bs[q]? = some B → B.length = 128 from fun q B hq hB => by
                    by_cases hqj : q < j
                    · exact H128.out q B hqj hB
                    · obtain rfl : q = j := by omega
                      rw [hx1] at hB
                      obtain rfl := Option.some.inj hB
                      exact h128)
                  clear hfl D hx1 hp2 hcr
                  go_wp2_with fail
                  refine cW.out.mono ?_
                  rintro e w5 ⟨rfl, D5, T5⟩
                  have F1 := T5.toExt EW hpw hgw
                  clear cW T5 EW c1
                  go_wp2_with fail
                  go_roundw
                  case rel => exact ⟨j + 1, by go_num, hjn, D5, F1, h128'.out⟩
                  case measure => simp [intOf]; omega
              · have q1 : ((x1.length : Int) != 128) = true := by simp; omega
                clear D hx1
                go_wp2
                go_ret
                exact ⟨rfl, EW⟩
            · obtain rfl : j = n := by omega
              obtain ⟨cr, hcr⟩ : ∃ cr, some ((j : Int) + t, kp) = cr := ⟨_, rfl⟩
              rw [hcr] at D
              have hkk : ∀ a k, cr = some (a, k) → k ≤ 128 := by
                intro a k h
                rw [← hcr] at h
                cases h
                exact hkp2
              have D5 : DkAt wr V.heap.size p g m ⟨bs, cr, bs.length, false⟩ := by
                have := D
                rw [show fillD bs cr j = ⟨bs, cr, bs.length, false⟩ by rw [← HN.out]; exact fillD_all bs cr] at this
                exact this
              have hall : ∀ B ∈ bs, B.length = 128 := fun B hB => by
                obtain ⟨q, hq, rfl⟩ := List.mem_iff_getElem.1 hB
                exact H128.out q _ (by have := HN.out; omega) (List.getElem?_eq_getElem hq)
              have cW := ewrite_any D5 rfl (by show bs.length ≤ 900000; have := HN.out; omega) a0 a1 a2 2 s0 (hT.ext EW)
              obtain ⟨cc, hcc⟩ : ∃ c, checkE bs.length a0 a1 a2 2 s0.length = c := ⟨_, rfl⟩
              by_cases hc0 : cc = 0
              · rw [hc0] at hcc
                have hG := check_good hcc
                have g1 := hG.fr0; have g2 := hG.ix0; have g3 := hG.room; have g4 := hG.pos; have g5 := hG.gen0; have g6 := hG.last
                obtain ⟨fp, rfl⟩ : ∃ fp : Nat, a0 = fp := ⟨a0.toNat, by omega⟩
                obtain ⟨ix, rfl⟩ : ∃ ix : Nat, a2 = ix := ⟨a2.toNat, by omega⟩
                obtain ⟨P, hP⟩ : ∃ P, fp + ix = P := ⟨_, rfl⟩
                have hPl : P < bs.length := by omega
                have hPj : P < j := by have := HN.out; omega
                obtain ⟨B, hB⟩ : ∃ B, bs[P]? = some B := ⟨_, List.getElem?_eq_getElem hPl⟩
                have hB128 : (ofL B).size = 128 := by rw [size_ofL]; exact hall B (List.mem_of_getElem? hB)
                have hm0 : markN a1 ix true ≠ 0 := fun hb => by have := markN_zero.1 hb; omega
                have hmb := markN_lt a1 ix true
                obtain ⟨bs', wr', dn, e0, hw, he, hth⟩ := torn_sum (wr := bs.length) hcc hall hkk (B := B) (by rw [hP]; exact hB)
                rw [hw] at cW
                dsimp only at cW
                have hix : ix ≤ 4095 := by omega
                have hfp : fp ≤ 12 := by have := HN.out; omega
                obtain ⟨mk, hmk⟩ : ∃ m, markN a1 ix true = m := ⟨_, rfl⟩
                rw [hmk] at hth hm0 hmb
                have cM := Kp.mk (show ∀ W : World, Calls Tryd.prog 33 #[.int .i64 a1, .int .i64 ix, .bool true] W fun e w' => e = .returned (.int .i64 mk) ∧ Ext W w' from fun W => (rmk_any a1 ix true W).mono fun e w' ⟨h1, h2⟩ => ⟨by rw [h1, hmk], by rw [h2]; exact Ext.rfl' W⟩)
                have cT := Kp.mk (fun W => tmark_any mk (by omega) hmb.2 W)
                obtain ⟨K8, hK8⟩ : ∃ k, leN 8 mk.toNat = k := ⟨_, rfl⟩
                obtain ⟨X8, hX8⟩ : ∃ k, B.drop 120 = k := ⟨_, rfl⟩
                rw [hK8] at cT hth
                rw [hX8] at hth
                have x8 : (ofL B).extract 120 128 = ofL X8 := by rw [← hB128, extract_from, toL_ofL, hX8]
                obtain ⟨tb, htb⟩ : ∃ b, (X8 == K8) = b := ⟨_, rfl⟩
                have htb2 : (ofL X8 == ofL K8) = tb := by rw [beq_toListBytes, toList_eq_toL, toList_eq_toL, toL_ofL, toL_ofL]; exact htb
                rw [htb] at hth
                have ww : IntKind.i64.wrap ((fp : Int) + ix) = (P : Int) := by rw [show (fp : Int) + ix = (P : Int) by omega]; exact IntWalk.i64_in _ (by omega)
                obtain ⟨N, hN⟩ : ∃ N, blkN (s0.length : Int) = N := ⟨_, rfl⟩
                rw [hN] at hth
                have cB := Kp.mk (show ∀ W : World, Calls Tryd.prog 32 #[.int .i64 L] W fun e w' => e = .returned (.int .i64 N) ∧ Ext W w' from fun W => (rblocks_any (L : Int) W).mono fun e w' ⟨h1, h2⟩ => ⟨by rw [h1, ← HL.out, hN], by rw [h2]; exact Ext.rfl' W⟩)
                have HTH := Kp.mk hth; have HB := Kp.mk hB
                replace cW := Kp.mk cW
                clear hcc hG g1 g2 g3 g4 g5 g6 hP hm0 hmb hw hmk hK8 hX8 hN hth hB D D5 hall hkk hcr hPl
                go_wp2_with fail
                refine cW.out.mono ?_
                rintro e w5 ⟨rfl, D6, T5⟩
                have E5 := T5.toExt EW hpw hgw
                clear cW T5 EW
                go_upto_region 12 with fail
                go_cut [104] (fun x wx => x = .bool false ∧ wx = w5)
                case first =>
                  rcases he with rfl | rfl
                  · go_wp2_with fail
                    go_meet
                    exact ⟨rfl, rfl⟩
                  · go_wp2_with fail
                    go_meet
                    exact ⟨rfl, rfl⟩
                case rest =>
                  obtain ⟨rfl, rfl⟩ := hcut
                  go_upto_region 14 with fail
                  refine wp_region_localsE (fun i v W => match i with
                    | 0 => v = .int .i64 fp
                    | 1 => v = .int .i64 ix
                    | 2 => v = .int .i64 P
                    | 3 => v = .bool false
                    | 4 => v = .bool false
                    | 5 => v = .int .i64 fp
                    | 6 => v = .int .i64 ix
                    | 7 => v = .int .i64 P
                    | 8 => v = .slice (some ⟨b, off, none⟩) j c
                    | 9 => v = .int .i64 j
                    | 10 => v = .bool false
                    | 11 => v = .bool false
                    | 12 => v = .bool false
                    | 13 => v = .slice (some ⟨b, off, none⟩) j c
                    | 14 => v = .int .i64 fp
                    | 15 => v = .int .i64 ix
                    | 16 => v = .int .i64 P
                    | 17 => v = .pointer (some ⟨b, off + P, none⟩)
                    | 18 => v = .string (ofL B)
                    | 19 => v = .string (ofL X8)
                    | 20 => v = .int .i64 a1
                    | 21 => v = .int .i64 ix
                    | 22 => v = .int .i64 mk
                    | 23 => v = .string (ofL K8)
                    | 24 => v = .bool tb
                    | 25 => v = .bool tb
                    | _ => True) (by kernel_rfl) (by kernel_rfl) (by kernel_rfl) (by kernel_rfl) ?_ ?_ ?_
                  · intro i v W1 W2 e1 e2 h
                    match i, h with
                    | 0, h => exact h
                    | 1, h => exact h
                    | 2, h => exact h
                    | 3, h => exact h
                    | 4, h => exact h
                    | 5, h => exact h
                    | 6, h => exact h
                    | 7, h => exact h
                    | 8, h => exact h
                    | 9, h => exact h
                    | 10, h => exact h
                    | 11, h => exact h
                    | 12, h => exact h
                    | 13, h => exact h
                    | 14, h => exact h
                    | 15, h => exact h
                    | 16, h => exact h
                    | 17, h => exact h
                    | 18, h => exact h
                    | 19, h => exact h
                    | 20, h => exact h
                    | 21, h => exact h
                    | 22, h => exact h
                    | 23, h => exact h
                    | 24, h => exact h
                    | 25, h => exact h
                    | (i + 26), h => exact h
                  · intro HF
                    refine locals_cons (fun u W hW hd => ?_) ?_
                    · refine opLeaves_ev HF rfl fun ev zc zg zf zt => ?_
                      have t8 : ev (.tmp 8) = .int .i64 fp := zt 8
                      clear zt
                      exact ev_val (v := .int .i64 fp) (by go_simp) rfl
                    refine locals_cons (fun u W hW hd => ?_) ?_
                    · refine opLeaves_ev HF rfl fun ev zc zg zf zt => ?_
                      have t10 : ev (.tmp 10) = .int .i64 ix := zt 10
                      clear zt
                      exact ev_val (v := .int .i64 ix) (by go_simp) rfl
                    refine locals_cons (fun u W hW hd => ?_) ?_
                    · refine opLeaves_ev HF rfl fun ev zc zg zf zt => ?_
                      have t113 : ev (.tmp 113) = u 0 := zt 113
                      have t114 : ev (.tmp 114) = u 1 := zt 114
                      clear zt
                      have h0 : u 0 = _ := hd 0 (by kernel_rfl)
                      have h1 : u 1 = _ := hd 1 (by kernel_rfl)
                      exact ev_val (v := .int .i64 P) (by go_simp) rfl
                    refine locals_cons (fun u W hW hd => ?_) ?_
                    · refine opLeaves_ev HF rfl fun ev zc zg zf zt => ?_
                      have t115 : ev (.tmp 115) = u 2 := zt 115
                      clear zt
                      have h2 : u 2 = _ := hd 2 (by kernel_rfl)
                      exact ev_val (v := .bool false) (by go_simp) rfl
                    refine locals_cons (fun u W hW hd => ?_) ?_
                    · refine opLeaves_ev HF rfl fun ev zc zg zf zt => ?_
                      have t116 : ev (.tmp 116) = u 3 := zt 116
                      clear zt
                      have h3 : u 3 = _ := hd 3 (by kernel_rfl)
                      exact ev_val (v := .bool false) (by go_simp) rfl
                    refine locals_cons (fun u W hW hd => ?_) ?_
                    · have h4 : u 4 = _ := hd 4 (by kernel_rfl)
                      exact leaves_val (by simp [Region.wanted, yielded, go_sem, h4]) (v := .int .i64 fp) (by go_simp) rfl
                    refine locals_cons (fun u W hW hd => ?_) ?_
                    · have h4 : u 4 = _ := hd 4 (by kernel_rfl)
                      exact leaves_val (by simp [Region.wanted, yielded, go_sem, h4]) (v := .int .i64 ix) (by go_simp) rfl
                    refine locals_cons (fun u W hW hd => ?_) ?_
                    · have h4 : u 4 = _ := hd 4 (by kernel_rfl)
                      have h5 : u 5 = _ := hd 5 (by kernel_rfl)
                      have h6 : u 6 = _ := hd 6 (by kernel_rfl)
                      exact leaves_val (by simp [Region.wanted, yielded, go_sem, h4]) (v := .int .i64 P) (by go_simp) rfl
                    refine locals_cons (fun u W hW hd => ?_) ?_
                    · have h4 : u 4 = _ := hd 4 (by kernel_rfl)
                      exact leaves_val (by simp [Region.wanted, yielded, go_sem, h4]) (v := .slice (some ⟨b, off, none⟩) j c) (by go_simp) rfl
                    refine locals_cons (fun u W hW hd => ?_) ?_
                    · have h4 : u 4 = _ := hd 4 (by kernel_rfl)
                      have h8 : u 8 = _ := hd 8 (by kernel_rfl)
                      exact leaves_val (by simp [Region.wanted, yielded, go_sem, h4]) (v := .int .i64 j) (by go_simp) rfl
                    refine locals_cons (fun u W hW hd => ?_) ?_
                    · have h4 : u 4 = _ := hd 4 (by kernel_rfl)
                      have h7 : u 7 = _ := hd 7 (by kernel_rfl)
                      have h9 : u 9 = _ := hd 9 (by kernel_rfl)
                      have q9 : decide ((j : Int) ≤ (P : Int)) = false := decide_eq_false (by omega)
                      exact leaves_val (by simp [Region.wanted, yielded, go_sem, h4]) (v := .bool false) (by go_simp) rfl
                    refine locals_cons (fun u W hW hd => ?_) ?_
                    · refine opLeaves_ev HF rfl fun ev zc zg zf zt => ?_
                      have t117 : ev (.tmp 117) = u 4 := zt 117
                      have t123 : ev (.tmp 123) = u 10 := zt 123
                      clear zt
                      have h4 : u 4 = _ := hd 4 (by kernel_rfl)
                      have h10 : u 10 = _ := hd 10 (by kernel_rfl)
                      exact ev_val (v := .bool false) (by go_simp) rfl
                    refine locals_cons (fun u W hW hd => ?_) ?_
                    · refine opLeaves_ev HF rfl fun ev zc zg zf zt => ?_
                      have t124 : ev (.tmp 124) = u 11 := zt 124
                      clear zt
                      have h11 : u 11 = _ := hd 11 (by kernel_rfl)
                      exact ev_val (v := .bool false) (by go_simp) rfl
                    refine locals_cons (fun u W hW hd => ?_) ?_
                    · have h12 : u 12 = _ := hd 12 (by kernel_rfl)
                      exact leaves_val (by simp [Region.wanted, yielded, go_sem, h12]) (v := .slice (some ⟨b, off, none⟩) j c) (by go_simp) rfl
                    refine locals_cons (fun u W hW hd => ?_) ?_
                    · have h12 : u 12 = _ := hd 12 (by kernel_rfl)
                      exact leaves_val (by simp [Region.wanted, yielded, go_sem, h12]) (v := .int .i64 fp) (by go_simp) rfl
                    refine locals_cons (fun u W hW hd => ?_) ?_
                    · have h12 : u 12 = _ := hd 12 (by kernel_rfl)
                      exact leaves_val (by simp [Region.wanted, yielded, go_sem, h12]) (v := .int .i64 ix) (by go_simp) rfl
                    refine locals_cons (fun u W hW hd => ?_) ?_
                    · have h12 : u 12 = _ := hd 12 (by kernel_rfl)
                      have h14 : u 14 = _ := hd 14 (by kernel_rfl)
                      have h15 : u 15 = _ := hd 15 (by kernel_rfl)
                      exact leaves_val (by simp [Region.wanted, yielded, go_sem, h12]) (v := .int .i64 P) (by go_simp) rfl
                    refine locals_cons (fun u W hW hd => ?_) ?_
                    · have h12 : u 12 = _ := hd 12 (by kernel_rfl)
                      have h13 : u 13 = _ := hd 13 (by kernel_rfl)
                      have h16 : u 16 = _ := hd 16 (by kernel_rfl)
                      exact leaves_val (by simp [Region.wanted, yielded, go_sem, h12]) (v := .pointer (some ⟨b, off + P, none⟩)) (by go_simp) rfl
                    refine locals_cons (fun u W hW hd => ?_) ?_
                    · have h12 : u 12 = _ := hd 12 (by kernel_rfl)
                      have h17 : u 17 = _ := hd 17 (by kernel_rfl)
                      have c1 := hcl.out P B HB.out W (E5.tr hW)
                      exact leaves_val (by simp [Region.wanted, yielded, go_sem, h12]) (v := .string (ofL B)) (by go_simp) rfl
                    refine locals_cons (fun u W hW hd => ?_) ?_
                    · have h12 : u 12 = _ := hd 12 (by kernel_rfl)
                      have h18 : u 18 = _ := hd 18 (by kernel_rfl)
                      exact leaves_val (by simp [Region.wanted, yielded, go_sem, h12]) (v := .string (ofL X8)) (by go_simp) rfl
                    refine locals_cons (fun u W hW hd => ?_) ?_
                    · have h12 : u 12 = _ := hd 12 (by kernel_rfl)
                      exact leaves_val (by simp [Region.wanted, yielded, go_sem, h12]) (v := .int .i64 a1) (by go_simp) rfl
                    refine locals_cons (fun u W hW hd => ?_) ?_
                    · have h12 : u 12 = _ := hd 12 (by kernel_rfl)
                      exact leaves_val (by simp [Region.wanted, yielded, go_sem, h12]) (v := .int .i64 ix) (by go_simp) rfl
                    refine locals_cons (fun u W hW hd => ?_) ?_
                    · have h12 : u 12 = _ := hd 12 (by kernel_rfl)
                      have h20 : u 20 = _ := hd 20 (by kernel_rfl)
                      have h21 : u 21 = _ := hd 21 (by kernel_rfl)
                      exact leaves_call (by simp [Region.wanted, yielded, go_sem, h12]) (f := 33) (args := #[.int .i64 a1, .int .i64 ix, .bool true]) (by go_simp) ((cM.out W).mono (by rintro e9 W9 ⟨rfl, h9⟩; exact ⟨_, rfl, h9, rfl⟩))
                    refine locals_cons (fun u W hW hd => ?_) ?_
                    · have h12 : u 12 = _ := hd 12 (by kernel_rfl)
                      have h22 : u 22 = _ := hd 22 (by kernel_rfl)
                      exact leaves_call (by simp [Region.wanted, yielded, go_sem, h12]) (f := 42) (args := #[.int .i64 mk]) (by go_simp) ((cT.out W).mono (by rintro e9 W9 ⟨rfl, h9⟩; exact ⟨_, rfl, h9, rfl⟩))
                    refine locals_cons (fun u W hW hd => ?_) ?_
                    · have h12 : u 12 = _ := hd 12 (by kernel_rfl)
                      have h19 : u 19 = _ := hd 19 (by kernel_rfl)
                      have h23 : u 23 = _ := hd 23 (by kernel_rfl)
                      exact leaves_val (by simp [Region.wanted, yielded, go_sem, h12]) (v := .bool tb) (by go_simp) rfl
                    refine locals_cons (fun u W hW hd => ?_) locals_nil
                    · refine opLeaves_ev HF rfl fun ev zc zg zf zt => ?_
                      have t125 : ev (.tmp 125) = u 12 := zt 125
                      have t137 : ev (.tmp 137) = u 24 := zt 137
                      clear zt
                      have h12 : u 12 = _ := hd 12 (by kernel_rfl)
                      have h24 : u 24 = _ := hd 24 (by kernel_rfl)
                      exact ev_val (v := .bool tb) (by go_simp) rfl
                  · intro u14 w14 hW14 hV
                    have h25 : u14 25 = _ := hV 25 (by decide)
                    have E14 := E5.tr hW14
                    have D14 := D6.ext hW14
                    clear hV hW14 E5 D6 cM cT htb htb2
                    go_simp
                    cases tb with
                    | true =>
                      have E0 := E14
                      have q9 : decide ((P : Int) < 0) = false := by simp
                      have q8 : decide ((0 : Int) ≤ (P : Int)) = true := by simp
                      have q7 : decide ((P : Int) < (j : Int)) = true := by simp; omega
                      go_wp2_with fail
                      refine (works43_any _ (hT.ext E0)).mono ?_
                      rintro e w1 ⟨rfl, E1⟩
                      go_wp2
                      go_ret
                      exact ⟨rfl, E0.tr E1⟩
                    | false =>
                      have cPw := Kp.mk (dpower_any D14)
                      dsimp only at cPw
                      clear D14
                      go_wp2_with fail
                      refine cPw.out.mono ?_
                      rintro e w16 ⟨rfl, D16, T16⟩
                      have E16 := T16.toExt E14 hpw hgw
                      clear cPw T16 E14
                      rcases HTH.out (by first | rfl | trivial) with ⟨rfl, hr⟩ | ⟨rfl, hr⟩ | ⟨rfl, hr⟩
                      · clear HTH
                        have cR := eread_any D16 rfl (hT.ext E16) fp a1 ix
                        dsimp only at cR
                        rw [hr] at cR
                        replace cR := Kp.mk cR
                        clear hr D16
                        go_wp2_with fail
                        refine cR.out.mono ?_
                        rintro e w17 ⟨rfl, E17⟩
                        unfold readV
                        dsimp only
                        clear cR
                        go_upto_region 18 with fail
                        obtain ⟨V5, hV5, EV5, B5⟩ : ∃ V, w17.alloc (.cells #[.int .i64 2, .string (ofL s0), .int .i64 N] 61) = V ∧ Ext w17 V ∧ Arr V w17.heap.size 61 [.int .i64 2, .string (ofL s0), .int .i64 N] := ⟨_, rfl, (Ext.rfl' _).al _, Arr.new w17 _ [.int .i64 2, .string (ofL s0), .int .i64 N]⟩
                        rw [hV5]
                        have E18 := (E16.tr E17).tr EV5
                        clear hV5 EV5 E17 E16
                        refine wp_region_localsE (fun i v W => match i with
                          | 0 => v = .int .i64 0
                          | 1 => v = .bool false
                          | 2 => v = .bool false
                          | 3 => v = .bool true
                          | 4 => v = .bool true
                          | 5 => v = .bool true
                          | 6 => v = .bool true
                          | 7 => v = .bool false
                          | 8 => v = .bool false
                          | 9 => v = .agg #[.int .i64 2, .string (ofL s0), .int .i64 N]
                          | 10 => v = .string (ofL s0)
                          | 11 => v = .string (ofL s0)
                          | 12 => v = .int .i64 L
                          | 13 => v = .int .i64 N
                          | 14 => v = .agg #[.int .i64 2, .string (ofL s0), .int .i64 N]
                          | 15 => v = .bool true
                          | 16 => v = .bool true
                          | 17 => v = .bool true
                          | 18 => v = .bool true
                          | 19 => v = .bool true
                          | 20 => v = .bool true
                          | 21 => v = .bool true
                          | _ => True) (by kernel_rfl) (by kernel_rfl) (by kernel_rfl) (by kernel_rfl) ?_ ?_ ?_
                        · intro i v W1 W2 e1 e2 h
                          match i, h with
                          | 0, h => exact h
                          | 1, h => exact h
                          | 2, h => exact h
                          | 3, h => exact h
                          | 4, h => exact h
                          | 5, h => exact h
                          | 6, h => exact h
                          | 7, h => exact h
                          | 8, h => exact h
                          | 9, h => exact h
                          | 10, h => exact h
                          | 11, h => exact h
                          | 12, h => exact h
                          | 13, h => exact h
                          | 14, h => exact h
                          | 15, h => exact h
                          | 16, h => exact h
                          | 17, h => exact h
                          | 18, h => exact h
                          | 19, h => exact h
                          | 20, h => exact h
                          | 21, h => exact h
                          | (i + 22), h => exact h
                        · intro HF
                          refine locals_cons (fun u W hW hd => ?_) ?_
                          · refine opLeaves_ev HF rfl fun ev zc zg zf zt => ?_
                            have t15 : ev (.tmp 15) = .int .i64 0 := zt 15
                            clear zt
                            exact ev_val (v := .int .i64 0) (by go_simp) rfl
                          refine locals_cons (fun u W hW hd => ?_) ?_
                          · refine opLeaves_ev HF rfl fun ev zc zg zf zt => ?_
                            have t164 : ev (.tmp 164) = u 0 := zt 164
                            clear zt
                            have h0 : u 0 = _ := hd 0 (by kernel_rfl)
                            exact ev_val (v := .bool false) (by go_simp) rfl
                          refine locals_cons (fun u W hW hd => ?_) ?_
                          · refine opLeaves_ev HF rfl fun ev zc zg zf zt => ?_
                            have t165 : ev (.tmp 165) = u 1 := zt 165
                            clear zt
                            have h1 : u 1 = _ := hd 1 (by kernel_rfl)
                            exact ev_val (v := .bool false) (by go_simp) rfl
                          refine locals_cons (fun u W hW hd => ?_) ?_
                          · have h2 : u 2 = _ := hd 2 (by kernel_rfl)
                            exact leaves_val (by simp [Region.wanted, yielded, go_sem, h2]) (v := .bool true) (by go_simp) rfl
                          refine locals_cons (fun u W hW hd => ?_) ?_
                          · refine opLeaves_ev HF rfl fun ev zc zg zf zt => ?_
                            have t166 : ev (.tmp 166) = u 2 := zt 166
                            have t167 : ev (.tmp 167) = u 3 := zt 167
                            clear zt
                            have h2 : u 2 = _ := hd 2 (by kernel_rfl)
                            have h3 : u 3 = _ := hd 3 (by kernel_rfl)
                            exact ev_val (v := .bool true) (by go_simp) rfl
                          refine locals_cons (fun u W hW hd => ?_) ?_
                          · refine opLeaves_ev HF rfl fun ev zc zg zf zt => ?_
                            have t168 : ev (.tmp 168) = u 4 := zt 168
                            clear zt
                            have h4 : u 4 = _ := hd 4 (by kernel_rfl)
                            exact ev_val (v := .bool true) (by go_simp) rfl
                          refine locals_cons (fun u W hW hd => ?_) ?_
                          · have h5 : u 5 = _ := hd 5 (by kernel_rfl)
                            exact leaves_val (by simp [Region.wanted, yielded, go_sem, h5]) (v := .bool true) (by go_simp) rfl
                          refine locals_cons (fun u W hW hd => ?_) ?_
                          · have h5 : u 5 = _ := hd 5 (by kernel_rfl)
                            have h6 : u 6 = _ := hd 6 (by kernel_rfl)
                            exact leaves_val (by simp [Region.wanted, yielded, go_sem, h5]) (v := .bool false) (by go_simp) rfl
                          refine locals_cons (fun u W hW hd => ?_) ?_
                          · have h5 : u 5 = _ := hd 5 (by kernel_rfl)
                            have h7 : u 7 = _ := hd 7 (by kernel_rfl)
                            exact leaves_val (by simp [Region.wanted, yielded, go_sem, h5]) (v := .bool false) (by go_simp) rfl
                          refine locals_cons (fun u W hW hd => ?_) ?_
                          · have h8 : u 8 = _ := hd 8 (by kernel_rfl)
                            have b0 := (B5.ext hW B5.lt).cell 0; have b1 := (B5.ext hW B5.lt).cell 1; have b2 := (B5.ext hW B5.lt).cell 2
                            simp only [List.getElem?_cons_zero, List.getElem?_cons_succ] at b0 b1 b2
                            exact leaves_val (by simp [Region.wanted, yielded, go_sem, h8]) (v := .agg #[.int .i64 2, .string (ofL s0), .int .i64 N]) (by go_simp) rfl
                          refine locals_cons (fun u W hW hd => ?_) ?_
                          · have h8 : u 8 = _ := hd 8 (by kernel_rfl)
                            exact leaves_val (by simp [Region.wanted, yielded, go_sem, h8]) (v := .string (ofL s0)) (by go_simp) rfl
                          refine locals_cons (fun u W hW hd => ?_) ?_
                          · have h8 : u 8 = _ := hd 8 (by kernel_rfl)
                            exact leaves_val (by simp [Region.wanted, yielded, go_sem, h8]) (v := .string (ofL s0)) (by go_simp) rfl
                          refine locals_cons (fun u W hW hd => ?_) ?_
                          · have h8 : u 8 = _ := hd 8 (by kernel_rfl)
                            have h11 : u 11 = _ := hd 11 (by kernel_rfl)
                            exact leaves_val (by simp [Region.wanted, yielded, go_sem, h8]) (v := .int .i64 L) (by go_simp) rfl
                          refine locals_cons (fun u W hW hd => ?_) ?_
                          · have h8 : u 8 = _ := hd 8 (by kernel_rfl)
                            have h12 : u 12 = _ := hd 12 (by kernel_rfl)
                            exact leaves_call (by simp [Region.wanted, yielded, go_sem, h8]) (f := 32) (args := #[.int .i64 L]) (by go_simp) ((cB.out W).mono (by rintro e9 W9 ⟨rfl, h9⟩; exact ⟨_, rfl, h9, rfl⟩))
                          refine locals_cons (fun u W hW hd => ?_) ?_
                          · have h8 : u 8 = _ := hd 8 (by kernel_rfl)
                            have h10 : u 10 = _ := hd 10 (by kernel_rfl)
                            have h13 : u 13 = _ := hd 13 (by kernel_rfl)
                            exact leaves_val (by simp [Region.wanted, yielded, go_sem, h8]) (v := .agg #[.int .i64 2, .string (ofL s0), .int .i64 N]) (by go_simp) rfl
                          refine locals_cons (fun u W hW hd => ?_) ?_
                          · have h8 : u 8 = _ := hd 8 (by kernel_rfl)
                            have h9 : u 9 = _ := hd 9 (by kernel_rfl)
                            have h14 : u 14 = _ := hd 14 (by kernel_rfl)
                            have hse := ent_self 2 N s0 W
                            unfold entV at hse
                            exact leaves_val (by simp [Region.wanted, yielded, go_sem, h8]) (v := .bool true) (by go_simp) rfl
                          refine locals_cons (fun u W hW hd => ?_) ?_
                          · have h5 : u 5 = _ := hd 5 (by kernel_rfl)
                            have h8 : u 8 = _ := hd 8 (by kernel_rfl)
                            have h15 : u 15 = _ := hd 15 (by kernel_rfl)
                            exact leaves_val (by simp [Region.wanted, yielded, go_sem, h5]) (v := .bool true) (by go_simp) rfl
                          refine locals_cons (fun u W hW hd => ?_) ?_
                          · refine opLeaves_ev HF rfl fun ev zc zg zf zt => ?_
                            have t169 : ev (.tmp 169) = u 5 := zt 169
                            have t180 : ev (.tmp 180) = u 16 := zt 180
                            clear zt
                            have h5 : u 5 = _ := hd 5 (by kernel_rfl)
                            have h16 : u 16 = _ := hd 16 (by kernel_rfl)
                            exact ev_val (v := .bool true) (by go_simp) rfl
                          refine locals_cons (fun u W hW hd => ?_) ?_
                          · refine opLeaves_ev HF rfl fun ev zc zg zf zt => ?_
                            have t181 : ev (.tmp 181) = u 17 := zt 181
                            clear zt
                            have h17 : u 17 = _ := hd 17 (by kernel_rfl)
                            exact ev_val (v := .bool true) (by go_simp) rfl
                          refine locals_cons (fun u W hW hd => ?_) ?_
                          · have h18 : u 18 = _ := hd 18 (by kernel_rfl)
                            exact leaves_call (by simp [Region.wanted, yielded, go_sem, h18]) (f := 29) (args := #[]) (by go_simp) ((works43_any _ (hT.ext (E18.tr hW))).mono (by rintro e9 W9 ⟨rfl, h9⟩; exact ⟨_, rfl, h9, rfl⟩))
                          refine locals_cons (fun u W hW hd => ?_) ?_
                          · refine opLeaves_ev HF rfl fun ev zc zg zf zt => ?_
                            have t182 : ev (.tmp 182) = u 18 := zt 182
                            have t183 : ev (.tmp 183) = u 19 := zt 183
                            clear zt
                            have h18 : u 18 = _ := hd 18 (by kernel_rfl)
                            have h19 : u 19 = _ := hd 19 (by kernel_rfl)
                            exact ev_val (v := .bool true) (by go_simp) rfl
                          refine locals_cons (fun u W hW hd => ?_) locals_nil
                          · refine opLeaves_ev HF rfl fun ev zc zg zf zt => ?_
                            have t184 : ev (.tmp 184) = u 20 := zt 184
                            clear zt
                            have h20 : u 20 = _ := hd 20 (by kernel_rfl)
                            exact ev_val (v := .bool true) (by go_simp) rfl
                        · intro u18 w18 hW18 hV
                          have h21 : u18 21 = _ := hV 21 (by decide)
                          have E0 := E18.tr hW18
                          clear hV
                          go_simp
                          go_wp2
                          go_ret
                          exact ⟨rfl, E0⟩
                      · clear HTH
                        have cR := eread_any D16 rfl (hT.ext E16) fp a1 ix
                        dsimp only at cR
                        rw [hr] at cR
                        replace cR := Kp.mk cR
                        clear hr D16
                        go_wp2_with fail
                        refine cR.out.mono ?_
                        rintro e w17 ⟨rfl, E17⟩
                        unfold readV
                        dsimp only
                        clear cR
                        go_upto_region 18 with fail
                        obtain ⟨V5, hV5, EV5, B5⟩ : ∃ V, w17.alloc (.cells #[.int .i64 0, .string ⟨#[]⟩, .int .i64 0] 61) = V ∧ Ext w17 V ∧ Arr V w17.heap.size 61 [.int .i64 0, .string ⟨#[]⟩, .int .i64 0] := ⟨_, rfl, (Ext.rfl' _).al _, Arr.new w17 _ [.int .i64 0, .string ⟨#[]⟩, .int .i64 0]⟩
                        rw [hV5]
                        have E18 := (E16.tr E17).tr EV5
                        clear hV5 EV5 E17 E16
                        refine wp_region_localsE (fun i v W => match i with
                          | 0 => v = .int .i64 20
                          | 1 => v = .bool true
                          | 2 => v = .bool true
                          | 3 => v = undef
                          | 4 => v = .bool true
                          | 5 => v = .bool true
                          | 6 => v = .bool false
                          | 7 => v = .bool true
                          | 8 => v = .bool true
                          | 9 => v = undef
                          | 10 => v = undef
                          | 11 => v = undef
                          | 12 => v = undef
                          | 13 => v = undef
                          | 14 => v = undef
                          | 15 => v = undef
                          | 16 => v = .bool true
                          | 17 => v = .bool true
                          | 18 => v = .bool true
                          | 19 => v = .bool true
                          | 20 => v = .bool true
                          | 21 => v = .bool true
                          | _ => True) (by kernel_rfl) (by kernel_rfl) (by kernel_rfl) (by kernel_rfl) ?_ ?_ ?_
                        · intro i v W1 W2 e1 e2 h
                          match i, h with
                          | 0, h => exact h
                          | 1, h => exact h
                          | 2, h => exact h
                          | 3, h => exact h
                          | 4, h => exact h
                          | 5, h => exact h
                          | 6, h => exact h
                          | 7, h => exact h
                          | 8, h => exact h
                          | 9, h => exact h
                          | 10, h => exact h
                          | 11, h => exact h
                          | 12, h => exact h
                          | 13, h => exact h
                          | 14, h => exact h
                          | 15, h => exact h
                          | 16, h => exact h
                          | 17, h => exact h
                          | 18, h => exact h
                          | 19, h => exact h
                          | 20, h => exact h
                          | 21, h => exact h
                          | (i + 22), h => exact h
                        · intro HF
                          refine locals_cons (fun u W hW hd => ?_) ?_
                          · refine opLeaves_ev HF rfl fun ev zc zg zf zt => ?_
                            have t15 : ev (.tmp 15) = .int .i64 20 := zt 15
                            clear zt
                            exact ev_val (v := .int .i64 20) (by go_simp) rfl
                          refine locals_cons (fun u W hW hd => ?_) ?_
                          · refine opLeaves_ev HF rfl fun ev zc zg zf zt => ?_
                            have t164 : ev (.tmp 164) = u 0 := zt 164
                            clear zt
                            have h0 : u 0 = _ := hd 0 (by kernel_rfl)
                            exact ev_val (v := .bool true) (by go_simp) rfl
                          refine locals_cons (fun u W hW hd => ?_) ?_
                          · refine opLeaves_ev HF rfl fun ev zc zg zf zt => ?_
                            have t165 : ev (.tmp 165) = u 1 := zt 165
                            clear zt
                            have h1 : u 1 = _ := hd 1 (by kernel_rfl)
                            exact ev_val (v := .bool true) (by go_simp) rfl
                          refine locals_cons (fun u W hW hd => ?_) ?_
                          · have h2 : u 2 = _ := hd 2 (by kernel_rfl)
                            exact .inr ⟨by simp [Region.wanted, yielded, go_sem, h2], rfl⟩
                          refine locals_cons (fun u W hW hd => ?_) ?_
                          · refine opLeaves_ev HF rfl fun ev zc zg zf zt => ?_
                            have t166 : ev (.tmp 166) = u 2 := zt 166
                            have t167 : ev (.tmp 167) = u 3 := zt 167
                            clear zt
                            have h2 : u 2 = _ := hd 2 (by kernel_rfl)
                            have h3 : u 3 = _ := hd 3 (by kernel_rfl)
                            exact ev_val (v := .bool true) (by go_simp) rfl
                          refine locals_cons (fun u W hW hd => ?_) ?_
                          · refine opLeaves_ev HF rfl fun ev zc zg zf zt => ?_
                            have t168 : ev (.tmp 168) = u 4 := zt 168
                            clear zt
                            have h4 : u 4 = _ := hd 4 (by kernel_rfl)
                            exact ev_val (v := .bool true) (by go_simp) rfl
                          refine locals_cons (fun u W hW hd => ?_) ?_
                          · have h5 : u 5 = _ := hd 5 (by kernel_rfl)
                            exact leaves_val (by simp [Region.wanted, yielded, go_sem, h5]) (v := .bool false) (by go_simp) rfl
                          refine locals_cons (fun u W hW hd => ?_) ?_
                          · have h5 : u 5 = _ := hd 5 (by kernel_rfl)
                            have h6 : u 6 = _ := hd 6 (by kernel_rfl)
                            exact leaves_val (by simp [Region.wanted, yielded, go_sem, h5]) (v := .bool true) (by go_simp) rfl
                          refine locals_cons (fun u W hW hd => ?_) ?_
                          · have h5 : u 5 = _ := hd 5 (by kernel_rfl)
                            have h7 : u 7 = _ := hd 7 (by kernel_rfl)
                            exact leaves_val (by simp [Region.wanted, yielded, go_sem, h5]) (v := .bool true) (by go_simp) rfl
                          refine locals_cons (fun u W hW hd => ?_) ?_
                          · have h8 : u 8 = _ := hd 8 (by kernel_rfl)
                            exact .inr ⟨by simp [Region.wanted, yielded, go_sem, h8], rfl⟩
                          refine locals_cons (fun u W hW hd => ?_) ?_
                          · have h8 : u 8 = _ := hd 8 (by kernel_rfl)
                            exact .inr ⟨by simp [Region.wanted, yielded, go_sem, h8], rfl⟩
                          refine locals_cons (fun u W hW hd => ?_) ?_
                          · have h8 : u 8 = _ := hd 8 (by kernel_rfl)
                            exact .inr ⟨by simp [Region.wanted, yielded, go_sem, h8], rfl⟩
                          refine locals_cons (fun u W hW hd => ?_) ?_
                          · have h8 : u 8 = _ := hd 8 (by kernel_rfl)
                            exact .inr ⟨by simp [Region.wanted, yielded, go_sem, h8], rfl⟩
                          refine locals_cons (fun u W hW hd => ?_) ?_
                          · have h8 : u 8 = _ := hd 8 (by kernel_rfl)
                            exact .inr ⟨by simp [Region.wanted, yielded, go_sem, h8], rfl⟩
                          refine locals_cons (fun u W hW hd => ?_) ?_
                          · have h8 : u 8 = _ := hd 8 (by kernel_rfl)
                            exact .inr ⟨by simp [Region.wanted, yielded, go_sem, h8], rfl⟩
                          refine locals_cons (fun u W hW hd => ?_) ?_
                          · have h8 : u 8 = _ := hd 8 (by kernel_rfl)
                            exact .inr ⟨by simp [Region.wanted, yielded, go_sem, h8], rfl⟩
                          refine locals_cons (fun u W hW hd => ?_) ?_
                          · have h5 : u 5 = _ := hd 5 (by kernel_rfl)
                            have h8 : u 8 = _ := hd 8 (by kernel_rfl)
                            have h15 : u 15 = _ := hd 15 (by kernel_rfl)
                            exact leaves_val (by simp [Region.wanted, yielded, go_sem, h5]) (v := .bool true) (by go_simp) rfl
                          refine locals_cons (fun u W hW hd => ?_) ?_
                          · refine opLeaves_ev HF rfl fun ev zc zg zf zt => ?_
                            have t169 : ev (.tmp 169) = u 5 := zt 169
                            have t180 : ev (.tmp 180) = u 16 := zt 180
                            clear zt
                            have h5 : u 5 = _ := hd 5 (by kernel_rfl)
                            have h16 : u 16 = _ := hd 16 (by kernel_rfl)
                            exact ev_val (v := .bool true) (by go_simp) rfl
                          refine locals_cons (fun u W hW hd => ?_) ?_
                          · refine opLeaves_ev HF rfl fun ev zc zg zf zt => ?_
                            have t181 : ev (.tmp 181) = u 17 := zt 181
                            clear zt
                            have h17 : u 17 = _ := hd 17 (by kernel_rfl)
                            exact ev_val (v := .bool true) (by go_simp) rfl
                          refine locals_cons (fun u W hW hd => ?_) ?_
                          · have h18 : u 18 = _ := hd 18 (by kernel_rfl)
                            exact leaves_call (by simp [Region.wanted, yielded, go_sem, h18]) (f := 29) (args := #[]) (by go_simp) ((works43_any _ (hT.ext (E18.tr hW))).mono (by rintro e9 W9 ⟨rfl, h9⟩; exact ⟨_, rfl, h9, rfl⟩))
                          refine locals_cons (fun u W hW hd => ?_) ?_
                          · refine opLeaves_ev HF rfl fun ev zc zg zf zt => ?_
                            have t182 : ev (.tmp 182) = u 18 := zt 182
                            have t183 : ev (.tmp 183) = u 19 := zt 183
                            clear zt
                            have h18 : u 18 = _ := hd 18 (by kernel_rfl)
                            have h19 : u 19 = _ := hd 19 (by kernel_rfl)
                            exact ev_val (v := .bool true) (by go_simp) rfl
                          refine locals_cons (fun u W hW hd => ?_) locals_nil
                          · refine opLeaves_ev HF rfl fun ev zc zg zf zt => ?_
                            have t184 : ev (.tmp 184) = u 20 := zt 184
                            clear zt
                            have h20 : u 20 = _ := hd 20 (by kernel_rfl)
                            exact ev_val (v := .bool true) (by go_simp) rfl
                        · intro u18 w18 hW18 hV
                          have h21 : u18 21 = _ := hV 21 (by decide)
                          have E0 := E18.tr hW18
                          clear hV
                          go_simp
                          go_wp2
                          go_ret
                          exact ⟨rfl, E0⟩
                      · clear HTH
                        have cR := eread_any D16 rfl (hT.ext E16) fp a1 ix
                        dsimp only at cR
                        rw [hr] at cR
                        replace cR := Kp.mk cR
                        clear hr D16
                        go_wp2_with fail
                        refine cR.out.mono ?_
                        rintro e w17 ⟨rfl, E17⟩
                        unfold readV
                        dsimp only
                        clear cR
                        go_upto_region 18 with fail
                        obtain ⟨V5, hV5, EV5, B5⟩ : ∃ V, w17.alloc (.cells #[.int .i64 2, .string (ofL s0), .int .i64 N] 61) = V ∧ Ext w17 V ∧ Arr V w17.heap.size 61 [.int .i64 2, .string (ofL s0), .int .i64 N] := ⟨_, rfl, (Ext.rfl' _).al _, Arr.new w17 _ [.int .i64 2, .string (ofL s0), .int .i64 N]⟩
                        rw [hV5]
                        have E18 := (E16.tr E17).tr EV5
                        clear hV5 EV5 E17 E16
                        refine wp_region_localsE (fun i v W => match i with
                          | 0 => v = .int .i64 20
                          | 1 => v = .bool true
                          | 2 => v = .bool true
                          | 3 => v = undef
                          | 4 => v = .bool true
                          | 5 => v = .bool true
                          | 6 => v = .bool true
                          | 7 => v = .bool false
                          | 8 => v = .bool false
                          | 9 => v = .agg #[.int .i64 2, .string (ofL s0), .int .i64 N]
                          | 10 => v = .string (ofL s0)
                          | 11 => v = .string (ofL s0)
                          | 12 => v = .int .i64 L
                          | 13 => v = .int .i64 N
                          | 14 => v = .agg #[.int .i64 2, .string (ofL s0), .int .i64 N]
                          | 15 => v = .bool true
                          | 16 => v = .bool true
                          | 17 => v = .bool true
                          | 18 => v = .bool true
                          | 19 => v = .bool true
                          | 20 => v = .bool true
                          | 21 => v = .bool true
                          | _ => True) (by kernel_rfl) (by kernel_rfl) (by kernel_rfl) (by kernel_rfl) ?_ ?_ ?_
                        · intro i v W1 W2 e1 e2 h
                          match i, h with
                          | 0, h => exact h
                          | 1, h => exact h
                          | 2, h => exact h
                          | 3, h => exact h
                          | 4, h => exact h
                          | 5, h => exact h
                          | 6, h => exact h
                          | 7, h => exact h
                          | 8, h => exact h
                          | 9, h => exact h
                          | 10, h => exact h
                          | 11, h => exact h
                          | 12, h => exact h
                          | 13, h => exact h
                          | 14, h => exact h
                          | 15, h => exact h
                          | 16, h => exact h
                          | 17, h => exact h
                          | 18, h => exact h
                          | 19, h => exact h
                          | 20, h => exact h
                          | 21, h => exact h
                          | (i + 22), h => exact h
                        · intro HF
                          refine locals_cons (fun u W hW hd => ?_) ?_
                          · refine opLeaves_ev HF rfl fun ev zc zg zf zt => ?_
                            have t15 : ev (.tmp 15) = .int .i64 20 := zt 15
                            clear zt
                            exact ev_val (v := .int .i64 20) (by go_simp) rfl
                          refine locals_cons (fun u W hW hd => ?_) ?_
                          · refine opLeaves_ev HF rfl fun ev zc zg zf zt => ?_
                            have t164 : ev (.tmp 164) = u 0 := zt 164
                            clear zt
                            have h0 : u 0 = _ := hd 0 (by kernel_rfl)
                            exact ev_val (v := .bool true) (by go_simp) rfl
                          refine locals_cons (fun u W hW hd => ?_) ?_
                          · refine opLeaves_ev HF rfl fun ev zc zg zf zt => ?_
                            have t165 : ev (.tmp 165) = u 1 := zt 165
                            clear zt
                            have h1 : u 1 = _ := hd 1 (by kernel_rfl)
                            exact ev_val (v := .bool true) (by go_simp) rfl
                          refine locals_cons (fun u W hW hd => ?_) ?_
                          · have h2 : u 2 = _ := hd 2 (by kernel_rfl)
                            exact .inr ⟨by simp [Region.wanted, yielded, go_sem, h2], rfl⟩
                          refine locals_cons (fun u W hW hd => ?_) ?_
                          · refine opLeaves_ev HF rfl fun ev zc zg zf zt => ?_
                            have t166 : ev (.tmp 166) = u 2 := zt 166
                            have t167 : ev (.tmp 167) = u 3 := zt 167
                            clear zt
                            have h2 : u 2 = _ := hd 2 (by kernel_rfl)
                            have h3 : u 3 = _ := hd 3 (by kernel_rfl)
                            exact ev_val (v := .bool true) (by go_simp) rfl
                          refine locals_cons (fun u W hW hd => ?_) ?_
                          · refine opLeaves_ev HF rfl fun ev zc zg zf zt => ?_
                            have t168 : ev (.tmp 168) = u 4 := zt 168
                            clear zt
                            have h4 : u 4 = _ := hd 4 (by kernel_rfl)
                            exact ev_val (v := .bool true) (by go_simp) rfl
                          refine locals_cons (fun u W hW hd => ?_) ?_
                          · have h5 : u 5 = _ := hd 5 (by kernel_rfl)
                            exact leaves_val (by simp [Region.wanted, yielded, go_sem, h5]) (v := .bool true) (by go_simp) rfl
                          refine locals_cons (fun u W hW hd => ?_) ?_
                          · have h5 : u 5 = _ := hd 5 (by kernel_rfl)
                            have h6 : u 6 = _ := hd 6 (by kernel_rfl)
                            exact leaves_val (by simp [Region.wanted, yielded, go_sem, h5]) (v := .bool false) (by go_simp) rfl
                          refine locals_cons (fun u W hW hd => ?_) ?_
                          · have h5 : u 5 = _ := hd 5 (by kernel_rfl)
                            have h7 : u 7 = _ := hd 7 (by kernel_rfl)
                            exact leaves_val (by simp [Region.wanted, yielded, go_sem, h5]) (v := .bool false) (by go_simp) rfl
                          refine locals_cons (fun u W hW hd => ?_) ?_
                          · have h8 : u 8 = _ := hd 8 (by kernel_rfl)
                            have b0 := (B5.ext hW B5.lt).cell 0; have b1 := (B5.ext hW B5.lt).cell 1; have b2 := (B5.ext hW B5.lt).cell 2
                            simp only [List.getElem?_cons_zero, List.getElem?_cons_succ] at b0 b1 b2
                            exact leaves_val (by simp [Region.wanted, yielded, go_sem, h8]) (v := .agg #[.int .i64 2, .string (ofL s0), .int .i64 N]) (by go_simp) rfl
                          refine locals_cons (fun u W hW hd => ?_) ?_
                          · have h8 : u 8 = _ := hd 8 (by kernel_rfl)
                            exact leaves_val (by simp [Region.wanted, yielded, go_sem, h8]) (v := .string (ofL s0)) (by go_simp) rfl
                          refine locals_cons (fun u W hW hd => ?_) ?_
                          · have h8 : u 8 = _ := hd 8 (by kernel_rfl)
                            exact leaves_val (by simp [Region.wanted, yielded, go_sem, h8]) (v := .string (ofL s0)) (by go_simp) rfl
                          refine locals_cons (fun u W hW hd => ?_) ?_
                          · have h8 : u 8 = _ := hd 8 (by kernel_rfl)
                            have h11 : u 11 = _ := hd 11 (by kernel_rfl)
                            exact leaves_val (by simp [Region.wanted, yielded, go_sem, h8]) (v := .int .i64 L) (by go_simp) rfl
                          refine locals_cons (fun u W hW hd => ?_) ?_
                          · have h8 : u 8 = _ := hd 8 (by kernel_rfl)
                            have h12 : u 12 = _ := hd 12 (by kernel_rfl)
                            exact leaves_call (by simp [Region.wanted, yielded, go_sem, h8]) (f := 32) (args := #[.int .i64 L]) (by go_simp) ((cB.out W).mono (by rintro e9 W9 ⟨rfl, h9⟩; exact ⟨_, rfl, h9, rfl⟩))
                          refine locals_cons (fun u W hW hd => ?_) ?_
                          · have h8 : u 8 = _ := hd 8 (by kernel_rfl)
                            have h10 : u 10 = _ := hd 10 (by kernel_rfl)
                            have h13 : u 13 = _ := hd 13 (by kernel_rfl)
                            exact leaves_val (by simp [Region.wanted, yielded, go_sem, h8]) (v := .agg #[.int .i64 2, .string (ofL s0), .int .i64 N]) (by go_simp) rfl
                          refine locals_cons (fun u W hW hd => ?_) ?_
                          · have h8 : u 8 = _ := hd 8 (by kernel_rfl)
                            have h9 : u 9 = _ := hd 9 (by kernel_rfl)
                            have h14 : u 14 = _ := hd 14 (by kernel_rfl)
                            have hse := ent_self 2 N s0 W
                            unfold entV at hse
                            exact leaves_val (by simp [Region.wanted, yielded, go_sem, h8]) (v := .bool true) (by go_simp) rfl
                          refine locals_cons (fun u W hW hd => ?_) ?_
                          · have h5 : u 5 = _ := hd 5 (by kernel_rfl)
                            have h8 : u 8 = _ := hd 8 (by kernel_rfl)
                            have h15 : u 15 = _ := hd 15 (by kernel_rfl)
                            exact leaves_val (by simp [Region.wanted, yielded, go_sem, h5]) (v := .bool true) (by go_simp) rfl
                          refine locals_cons (fun u W hW hd => ?_) ?_
                          · refine opLeaves_ev HF rfl fun ev zc zg zf zt => ?_
                            have t169 : ev (.tmp 169) = u 5 := zt 169
                            have t180 : ev (.tmp 180) = u 16 := zt 180
                            clear zt
                            have h5 : u 5 = _ := hd 5 (by kernel_rfl)
                            have h16 : u 16 = _ := hd 16 (by kernel_rfl)
                            exact ev_val (v := .bool true) (by go_simp) rfl
                          refine locals_cons (fun u W hW hd => ?_) ?_
                          · refine opLeaves_ev HF rfl fun ev zc zg zf zt => ?_
                            have t181 : ev (.tmp 181) = u 17 := zt 181
                            clear zt
                            have h17 : u 17 = _ := hd 17 (by kernel_rfl)
                            exact ev_val (v := .bool true) (by go_simp) rfl
                          refine locals_cons (fun u W hW hd => ?_) ?_
                          · have h18 : u 18 = _ := hd 18 (by kernel_rfl)
                            exact leaves_call (by simp [Region.wanted, yielded, go_sem, h18]) (f := 29) (args := #[]) (by go_simp) ((works43_any _ (hT.ext (E18.tr hW))).mono (by rintro e9 W9 ⟨rfl, h9⟩; exact ⟨_, rfl, h9, rfl⟩))
                          refine locals_cons (fun u W hW hd => ?_) ?_
                          · refine opLeaves_ev HF rfl fun ev zc zg zf zt => ?_
                            have t182 : ev (.tmp 182) = u 18 := zt 182
                            have t183 : ev (.tmp 183) = u 19 := zt 183
                            clear zt
                            have h18 : u 18 = _ := hd 18 (by kernel_rfl)
                            have h19 : u 19 = _ := hd 19 (by kernel_rfl)
                            exact ev_val (v := .bool true) (by go_simp) rfl
                          refine locals_cons (fun u W hW hd => ?_) locals_nil
                          · refine opLeaves_ev HF rfl fun ev zc zg zf zt => ?_
                            have t184 : ev (.tmp 184) = u 20 := zt 184
                            clear zt
                            have h20 : u 20 = _ := hd 20 (by kernel_rfl)
                            exact ev_val (v := .bool true) (by go_simp) rfl
                        · intro u18 w18 hW18 hV
                          have h21 : u18 21 = _ := hV 21 (by decide)
                          have E0 := E18.tr hW18
                          clear hV
                          go_simp
                          go_wp2
                          go_ret
                          exact ⟨rfl, E0⟩
              · have hw : writeE ⟨bs, cr, bs.length, false⟩ a0 a1 a2 2 s0 = (⟨bs, cr, bs.length, false⟩, cc) := by
                  unfold writeE
                  dsimp only
                  rw [hcc, if_pos hc0]
                rw [hw] at cW
                dsimp only at cW
                have hv := checkE_vals (n := bs.length) (fr := a0) (gen := a1) (ix := a2) (kind := 2) (L := s0.length)
                rw [hcc] at hv
                have q1 : ((cc : Int) != 0) = true := by simp; omega
                have q2 : ((cc : Int) != 20) = true := by simp; omega
                replace cW := Kp.mk cW
                clear hcc hw hv D D5 hall hkk hcr
                go_wp2_with fail
                refine cW.out.mono ?_
                rintro e w5 ⟨rfl, D6, T5⟩
                have E0 := T5.toExt EW hpw hgw
                have cS := dwrites_any D6
                dsimp only at cS
                rw [HN.out] at cS
                replace cS := Kp.mk cS
                clear cW T5 EW D6
                go_wp2_with fail
                refine cS.out.mono ?_
                rintro e w6 ⟨rfl, rfl⟩
                go_wp2_with fail
                refine (works43_any _ (hT.ext E0)).mono ?_
                rintro e w1 ⟨rfl, E1⟩
                go_wp2
                go_ret
                exact ⟨rfl, E0.tr E1⟩
end Go.Proofs.YtmnpbpfeoackiaaDoor
