/-
  Package entry: Write. Conditions: the power is on; the package's table holds the constants; a text of at most 100000 bytes; at most 900000 writes so far.
-/
import Derived.Test.YtmnpbpfeoackiaaDoorEn5
import Derived.Test.YtmnpbpfeoackiaaDoorEn6
import Derived.Test.YtmnpbpfeoackiaaDoorMhH
namespace Go.Proofs.YtmnpbpfeoackiaaDoor
open Go.RowKit

/-! ### plain facts -/
theorem length_orderE (p : Nat) (l : List (List UInt8)) : (orderE p l).length = l.length := by unfold orderE; rw [List.length_map, List.length_range]
theorem orderE_get (p : Nat) (l : List (List UInt8)) (j : Nat) (h : j < l.length) : (orderE p l)[j]? = some (p + (j + 1) % l.length, l.getD ((j + 1) % l.length) []) := by
  unfold orderE
  rw [List.getElem?_map, List.getElem?_range h]
  rfl
theorem orderE_drop (p : Nat) (l : List (List UInt8)) (j : Nat) (h : j < l.length) : (orderE p l).drop j = (p + (j + 1) % l.length, l.getD ((j + 1) % l.length) []) :: (orderE p l).drop (j + 1) := by
  have hj : j < (orderE p l).length := by rw [length_orderE]; exact h
  rw [List.drop_eq_getElem_cons hj]
  congr 1
  have := orderE_get p l j h
  rw [List.getElem?_eq_getElem hj] at this
  exact Option.some.inj this
theorem put_on {d : Dk} (hd : d.dn = false) (i : Nat) (b : List UInt8) : (d.put i b).1.bs.length = d.bs.length ∧ (d.put i b).1.wr = d.wr + 1 ∧ ((d.put i b).2 = 0 → (d.put i b).1.dn = false) ∧ (d.put i b).1.cr = d.cr ∧ ((d.put i b).2 = 0 ∨ (d.put i b).2 = 20) := by
  obtain ⟨⟨k, cb⟩, hc⟩ : ∃ c, crAt d.cr d.wr = c := ⟨_, rfl⟩
  cases cb with
  | true => rw [put_crash hd hc]; exact ⟨List.length_set .., rfl, fun h => (by cases h), rfl, .inr rfl⟩
  | false => rw [put_ok hd hc]; exact ⟨List.length_set .., rfl, fun _ => rfl, rfl, .inl rfl⟩
theorem puts_step {d : Dk} {i : Nat} {b : List UInt8} {r : List (Nat × List UInt8)} (h : (d.put i b).2 = 0) : d.puts ((i, b) :: r) = (d.put i b).1.puts r := by
  conv => lhs; unfold Dk.puts
  rw [if_pos h]
theorem puts_stop {d : Dk} {i : Nat} {b : List UInt8} {r : List (Nat × List UInt8)} (h : (d.put i b).2 ≠ 0) : d.puts ((i, b) :: r) = d.put i b := by
  conv => lhs; unfold Dk.puts
  rw [if_neg h]
/-- What the check says. -/
structure GoodE (blocks : Nat) (fr gen index kind : Int) (n : Nat) : Prop where
  fr0 : 0 ≤ fr
  gen0 : 1 ≤ gen ∧ gen ≤ 1099511627776
  ix0 : 0 ≤ index
  kind0 : 0 ≤ kind ∧ kind ≤ 255
  len : n ≤ 65536
  pos : 1 ≤ blkN n
  last : index + blkN n ≤ 4096
  room : fr + index + blkN n ≤ blocks
theorem check_good {blocks n : Nat} {fr gen index kind : Int} (h : checkE blocks fr gen index kind n = 0) : GoodE blocks fr gen index kind n := by
  unfold checkE at h
  split at h
  · cases h
  · rename_i h1
    split at h
    · cases h
    · rename_i h2
      split at h
      · cases h
      · rename_i h3
        have h4 : ¬ (gen < 1 ∨ 1099511627776 < gen ∨ index < 0 ∨ 4095 < index) := fun hb => h1 (.inr (.inl (markN_bad hb)))
        have h5 : blkN (n : Int) ≠ 0 := fun hb => by have := blkN_zero.1 hb; omega
        exact ⟨by omega, ⟨by omega, by omega⟩, by omega, ⟨by omega, by omega⟩, by omega, by omega, by omega, by omega⟩
theorem frame_put {blocks n : Nat} {fr gen index kind : Int} (h : GoodE blocks fr gen index kind n) {k : Nat} (hk : k < blkN n) {t : List UInt8} (ht : t.length ≤ 110) :
    frPut ⟨markN gen (index + k) (k == 0), if k = 0 then kind else 0, t⟩ = (frameE gen index kind k t, 0) ∧ markN gen (index + k) (k == 0) < 9223372036854775808 := by
  have h1 := h.gen0; have h2 := h.ix0; have h3 := h.last; have h4 := h.kind0
  have hm := markN_lt gen (index + k) (k == 0)
  have hm0 : markN gen (index + k) (k == 0) ≠ 0 := fun hb => by have := markN_zero.1 hb; omega
  refine ⟨?_, hm.2⟩
  rw [frPut_ok (by dsimp only; split <;> omega) (by dsimp only; omega)]
  unfold frameE
  dsimp only
  split <;> rfl
def agreesW (w : World) (s : List UInt8) (n : Nat) (v : Value) (W : World) : Prop := W.ownsRow w.heap.size 9 1 v n ((partsE s).map Str)
theorem own_two {w W W' : World} {p g : Nat} {e : TypeId} {size n : Nat} {v : Value} {xs : List Value} (h : W.ownsRow w.heap.size e size v n xs) (t : Two p g W W') (hp : p < w.heap.size) (hg : g < w.heap.size) : W'.ownsRow w.heap.size e size v n xs :=
  own_ext h fun k hk hk2 => t.block k hk2 (by omega) (by omega)

set_option maxRecDepth 100000 in
set_option maxHeartbeats 4000000 in
theorem ewrite_ok {w : World} {B p g m : Nat} {d : Dk} (h : DkAt w B p g m d) (hd : d.dn = false) (hw : d.wr ≤ 900000) (fr gen index kind : Int) (s : List UInt8) (hT : Tab w) (hc0 : checkE d.bs.length fr gen index kind s.length = 0) :
    Calls Tryd.prog 31 #[.pointer (some ⟨p, 0, none⟩), .int .i64 fr, .int .i64 gen, .int .i64 index, .int .i64 kind, .string (ofL s)] w fun e w' => e = .returned (.int .i64 (writeE d fr gen index kind s).2) ∧ DkAt w' B p g m (writeE d fr gen index kind s).1 ∧ Two p g w w' := by
  have hG := check_good hc0
  have cC := Kp.mk (show Calls Tryd.prog 74 #[.pointer (some ⟨p, 0, none⟩), .int .i64 fr, .int .i64 gen, .int .i64 index, .int .i64 kind, .string (ofL s)] w fun e w' => e = .returned (.int .i64 0) ∧ w' = w from by
    have q := echeck_any h fr gen index kind s
    rw [hc0] at q
    exact q)
  have cP := Kp.mk (eparts_any s w hT (by have := hG.len; omega))
  have hpl := length_partsE hG.len
  obtain ⟨fp, rfl⟩ : ∃ fp : Nat, fr = fp := ⟨fr.toNat, by have := hG.fr0; omega⟩
  obtain ⟨ix, rfl⟩ : ∃ ix : Nat, index = ix := ⟨index.toNat, by have := hG.ix0; omega⟩
  obtain ⟨R, hR⟩ : ∃ R, writeE d fp gen ix kind s = R := ⟨_, rfl⟩
  have hR0 := hR
  unfold writeE at hR0
  rw [if_neg (fun hne => hne hc0), show ((fp : Int) + ix).toNat = fp + ix by omega] at hR0
  obtain ⟨F, hF⟩ : ∃ F, framesE gen ix kind s = F := ⟨_, rfl⟩
  rw [hF] at hR0
  have hFl : F.length = (partsE s).length := by rw [← hF]; exact length_framesE _ _ _ _
  have HFk0 := (show ∀ k, k < (partsE s).length → F.getD k [] = frameE gen ix kind k ((partsE s).getD k []) from fun k hk => by
    rw [← hF, List.getD_eq_getElem?_getD, framesE_get hk, List.getD_eq_getElem?_getD, List.getElem?_eq_getElem hk]; rfl)
  obtain ⟨n, hn⟩ : ∃ n, (partsE s).length = n := ⟨_, rfl⟩
  have hle := partsE_le s
  obtain ⟨P, hP⟩ : ∃ P, partsE s = P := ⟨_, rfl⟩
  have hnb : blkN s.length = n := by rw [← hpl, hn]
  have hn1 : 1 ≤ n := by rw [← hnb]; exact hG.pos
  have hn2 : n ≤ 596 := by rw [← hnb]; exact blkN_le _
  have hlast : ix + n ≤ 4096 := by have := hG.last; rw [hnb] at this; omega
  have hroom : fp + ix + n ≤ d.bs.length := by have := hG.room; rw [hnb] at this; omega
  have hb4 := h.le
  have hgp : p < w.heap.size ∧ g < w.heap.size := ⟨h.box.lt, h.row.lt⟩
  have hFn : F.length = n := by rw [hFl, hn]
  have hgg := hG.gen0
  rw [hn] at cP HFk0
  rw [hP] at cP hn hle HFk0
  rw [hR]
  have HFk := Kp.mk HFk0
  clear HFk0
  have HP := Kp.mk hP; have HN := Kp.mk hn; have HNB := Kp.mk hnb; have HLE := Kp.mk hle; have HFN := Kp.mk hFn; have HG := Kp.mk hG; have HR := Kp.mk hR0; have HH := Kp.mk h; have HD := Kp.mk hd
  clear hc0 hG hpl hF hFl hP hn hnb hle hFn hR0 hR h hd
  obtain ⟨hgp1, hgp2⟩ := hgp
  go_enter Tryd.func31, Tryd.ntmps31
  go_wp2_with fail
  refine cC.out.mono ?_
  rintro e w ⟨rfl, rfl⟩
  go_wp2_with fail
  refine cP.out.mono ?_
  rintro e w2 ⟨v2, rfl, O2, E2⟩
  obtain ⟨g2, c2, hv2⟩ : ∃ g2 c2, v2 = .slice (some ⟨g2, 0, none⟩) n c2 := by
    rcases O2.2 with ⟨_, h0⟩ | ⟨g2, cap, cur, e, _⟩
    · omega
    · exact ⟨g2, cap, e⟩
  subst hv2
  have D2 := HH.out.ext E2
  have T2 : Two p g w w2 := .of E2
  clear cC cP E2 HH
  go_upto_region 6 with fail
  go_loopw [35] (fun i wr => ∃ (j : Nat) (d' : Dk), i = .int .i64 j ∧ j ≤ n ∧ DkAt wr B p g m d' ∧ Two p g w wr ∧ wr.ownsRow w.heap.size 9 1 (.slice (some ⟨g2, 0, none⟩) n c2) n (P.map Str) ∧ d'.dn = false ∧ d'.wr ≤ 900000 + j ∧ d'.bs.length = d.bs.length ∧ d'.puts ((orderE (fp + ix) F).drop j) = R) (fun i _ => n - (intOf i).toNat)
  case atStart => exact ⟨0, d, rfl, Nat.zero_le _, D2, T2, O2, HD.out, by omega, rfl, HR.out⟩
  case round =>
    clear D2 T2 O2
    obtain ⟨j, d', rfl, hj, D, T, O, hdn, hwr, hbl, hput⟩ := hrel
    by_cases hlt : j < n
    · obtain ⟨k, hk⟩ : ∃ k, (j + 1) % n = k := ⟨_, rfl⟩
      have hkn : k < n := by rw [← hk]; exact Nat.mod_lt _ (by omega)
      have hki : ((j : Int) + 1) % (n : Int) = (k : Int) := by rw [← hk]; exact (Int.natCast_emod (j + 1) n).symm
      have hn0 : (n : Int) ≠ 0 := by omega
      obtain ⟨t, ht⟩ : ∃ t, P.getD k [] = t := ⟨_, rfl⟩
      have htl : t.length ≤ 110 := by
        rw [← ht, List.getD_eq_getElem?_getD, List.getElem?_eq_getElem (by rw [HN.out]; exact hkn)]
        exact HLE.out _ (List.getElem_mem _)
      obtain ⟨mk, hmk⟩ : ∃ mk, markN gen ((ix : Int) + k) (k == 0) = mk := ⟨_, rfl⟩
      obtain ⟨kk, hkk⟩ : ∃ kk : Int, (if k = 0 then kind else 0) = kk := ⟨_, rfl⟩
      have hfp := frame_put HG.out (k := k) (by rw [HNB.out]; exact hkn) htl
      rw [hmk, hkk] at hfp
      have hblk := Kp.mk (show F.getD k [] = frameE gen ix kind k t by rw [HFk.out k hkn, ht])
      have HPT := Kp.mk (show (P.map Str)[k]? = some (.string (ofL t)) by
        rw [List.getElem?_map, List.getElem?_eq_getElem (by rw [HN.out]; exact hkn)]
        rw [List.getD_eq_getElem?_getD, List.getElem?_eq_getElem (by rw [HN.out]; exact hkn)] at ht
        rw [← ht]; rfl)
      have cM := Kp.mk (show ∀ W : World, Calls Tryd.prog 34 #[.int .i64 gen, .int .i64 ((ix : Int) + k), .bool (k == 0)] W fun e w' => e = .returned (.int .i64 mk) ∧ Ext W w' from fun W => (emark_any gen ((ix : Int) + k) (k == 0) W).mono fun e w' ⟨h1, h2⟩ => ⟨by rw [h1, hmk], by rw [h2]; exact Ext.rfl' W⟩)
      have cW := Kp.mk (show ∀ W, DkAt W B p g m d' → Calls Tryd.prog 38 #[.pointer (some ⟨p, 0, none⟩), .int .i64 ((fp : Int) + ix + k), .string (ofL (frameE gen ix kind k t))] W fun e w' => e = .returned (.int .i64 (d'.put (fp + ix + k) (frameE gen ix kind k t)).2) ∧ DkAt w' B p g m (d'.put (fp + ix + k) (frameE gen ix kind k t)).1 ∧ Two p g W w' from fun W hW => by
        have q := dwrite_any hW hdn (i := fp + ix + k) (b := frameE gen ix kind k t) (by omega) (length_frameE htl) (by omega)
        rw [show (((fp + ix + k : Nat)) : Int) = (fp : Int) + ix + k by omega] at q
        exact q)
      have hst := Kp.mk (show ((d'.put (fp + ix + k) (frameE gen ix kind k t)).2 = 0 → (d'.put (fp + ix + k) (frameE gen ix kind k t)).1.puts ((orderE (fp + ix) F).drop (j + 1)) = R) ∧ ((d'.put (fp + ix + k) (frameE gen ix kind k t)).2 ≠ 0 → d'.put (fp + ix + k) (frameE gen ix kind k t) = R) by
        have q := hput
        rw [orderE_drop _ _ _ (by rw [HFN.out]; exact hlt), HFN.out, hk, hblk.out] at q
        exact ⟨fun h0 => by rw [← q, puts_step h0], fun h0 => by rw [← q, puts_stop h0]⟩)
      have hpo := put_on hdn (fp + ix + k) (frameE gen ix kind k t)
      obtain ⟨FB, hFB⟩ : ∃ FB, frameE gen ix kind k t = FB := ⟨_, rfl⟩
      rw [hFB] at cW hst hpo hfp
      obtain ⟨⟨d2, ec⟩, hd2⟩ : ∃ r, d'.put (fp + ix + k) FB = r := ⟨_, rfl⟩
      rw [hd2] at cW hst hpo
      have cF := Kp.mk (fun (W : World) => fput ⟨mk, kk, t⟩ W hfp.2)
      rw [hfp.1] at cF
      dsimp only at cF cW hst hpo
      have HKK := Kp.mk hkk
      clear hput hblk hFB hd2 hfp hkk ht hmk hk hdn
      go_upto_region 9 with fail
      rw [hki]
      refine wp_region_tailsE (fun i v W => match i with
        | 0 => v = .int .i64 gen
        | 1 => v = .int .i64 ix
        | 2 => v = .int .i64 k
        | 3 => v = .int .i64 ((ix : Int) + k)
        | 4 => v = .int .i64 k
        | 5 => v = .bool (k == 0)
        | 6 => v = .int .i64 mk
        | 7 => v = .slice (some ⟨g2, 0, none⟩) n c2
        | 8 => v = .int .i64 k
        | 9 => v = .pointer (some ⟨g2, k, none⟩)
        | 10 => v = .string (ofL t)
        | 11 => v = .agg #[.int .i64 mk, .int .i64 0, .string (ofL t)]
        | 12 => ∃ b, v = .pointer (some ⟨b, 0, none⟩) ∧ wr.heap.size ≤ b ∧ FrB W b ⟨0, 0, []⟩
        | _ => True) 13 (by kernel_rfl) (by kernel_rfl) (by kernel_rfl) (by decide) (by kernel_rfl) (by kernel_rfl) (by kernel_rfl) (by kernel_rfl) ?_ ?_ ?_
      · intro i v W1 W2 e1 e2 h
        match i, h with
        | 0, h => exact h
        | 1, h => exact h
        | 2, h => exact h
        | 3, h => exact h
        | 4, h => exact h
        | 5, h => exact h
        | 6, h => exact h
        | 7, h => exact h
        | 8, h => exact h
        | 9, h => exact h
        | 10, h => exact h
        | 11, h => exact h
        | 12, ⟨b, h1, h2, h3⟩ => exact ⟨b, h1, h2, h3.ext e2⟩
        | (i + 13), h => exact h
      · intro HF
        refine localsR_cons (fun u W hW hd => ?_) ?_
        · refine opLeaves_ev HF rfl fun ev zc zg zf zt => ?_
          have t2 : ev (.tmp 2) = .int .i64 gen := zt 2
          clear zt
          exact ev_val (v := .int .i64 gen) (by go_simp) rfl
        refine localsR_cons (fun u W hW hd => ?_) ?_
        · refine opLeaves_ev HF rfl fun ev zc zg zf zt => ?_
          have t3 : ev (.tmp 3) = .int .i64 ix := zt 3
          clear zt
          exact ev_val (v := .int .i64 ix) (by go_simp) rfl
        refine localsR_cons (fun u W hW hd => ?_) ?_
        · refine opLeaves_ev HF rfl fun ev zc zg zf zt => ?_
          have t16 : ev (.tmp 16) = .int .i64 k := zt 16
          clear zt
          exact ev_val (v := .int .i64 k) (by go_simp) rfl
        refine localsR_cons (fun u W hW hd => ?_) ?_
        · refine opLeaves_ev HF rfl fun ev zc zg zf zt => ?_
          have t44 : ev (.tmp 44) = u 1 := zt 44
          have t45 : ev (.tmp 45) = u 2 := zt 45
          clear zt
          have h1 : u 1 = _ := hd 1 (by kernel_rfl)
          have h2 : u 2 = _ := hd 2 (by kernel_rfl)
          have hw1 : IntKind.i64.wrap ((ix : Int) + k) = (ix : Int) + k := IntWalk.i64_in _ (by omega)
          exact ev_val (v := .int .i64 ((ix : Int) + k)) (by go_simp) rfl
        refine localsR_cons (fun u W hW hd => ?_) ?_
        · refine opLeaves_ev HF rfl fun ev zc zg zf zt => ?_
          have t16 : ev (.tmp 16) = .int .i64 k := zt 16
          clear zt
          exact ev_val (v := .int .i64 k) (by go_simp) rfl
        refine localsR_cons (fun u W hW hd => ?_) ?_
        · refine opLeaves_ev HF rfl fun ev zc zg zf zt => ?_
          have t47 : ev (.tmp 47) = u 4 := zt 47
          clear zt
          have h4 : u 4 = _ := hd 4 (by kernel_rfl)
          have hkb : ((k : Int) == 0) = (k == 0) := by rw [Bool.eq_iff_iff]; simp
          exact ev_val (v := .bool (k == 0)) (by go_simp) rfl
        refine localsR_cons (fun u W hW hd => ?_) ?_
        · refine opLeaves_ev HF rfl fun ev zc zg zf zt => ?_
          have t43 : ev (.tmp 43) = u 0 := zt 43
          have t46 : ev (.tmp 46) = u 3 := zt 46
          have t48 : ev (.tmp 48) = u 5 := zt 48
          clear zt
          have h0 : u 0 = _ := hd 0 (by kernel_rfl)
          have h3 : u 3 = _ := hd 3 (by kernel_rfl)
          have h5 : u 5 = _ := hd 5 (by kernel_rfl)
          exact ev_call (f := 34) (args := #[.int .i64 gen, .int .i64 ((ix : Int) + k), .bool (k == 0)]) (by go_simp) ((cM.out W).mono (by rintro e9 W9 ⟨rfl, h9⟩; exact ⟨_, rfl, h9, rfl⟩))
        refine localsR_cons (fun u W hW hd => ?_) ?_
        · refine opLeaves_ev HF rfl fun ev zc zg zf zt => ?_
          have t14 : ev (.tmp 14) = .slice (some ⟨g2, 0, none⟩) n c2 := zt 14
          clear zt
          exact ev_val (v := .slice (some ⟨g2, 0, none⟩) n c2) (by go_simp) rfl
        refine localsR_cons (fun u W hW hd => ?_) ?_
        · refine opLeaves_ev HF rfl fun ev zc zg zf zt => ?_
          have t16 : ev (.tmp 16) = .int .i64 k := zt 16
          clear zt
          exact ev_val (v := .int .i64 k) (by go_simp) rfl
        refine localsR_cons (fun u W hW hd => ?_) ?_
        · refine opLeaves_ev HF rfl fun ev zc zg zf zt => ?_
          have t50 : ev (.tmp 50) = u 7 := zt 50
          have t51 : ev (.tmp 51) = u 8 := zt 51
          clear zt
          have h7 : u 7 = _ := hd 7 (by kernel_rfl)
          have h8 : u 8 = _ := hd 8 (by kernel_rfl)
          exact ev_val (v := .pointer (some ⟨g2, k, none⟩)) (by go_simp) rfl
        refine localsR_cons (fun u W hW hd => ?_) ?_
        · refine opLeaves_ev HF rfl fun ev zc zg zf zt => ?_
          have t52 : ev (.tmp 52) = u 9 := zt 52
          clear zt
          have h9 : u 9 = _ := hd 9 (by kernel_rfl)
          have o1 := (own_ext O (fun j _ hj => hW.block j hj)).cellAt k (by omega)
          rw [HPT.out] at o1
          exact ev_val (v := .string (ofL t)) (by go_simp) rfl
        refine localsR_cons (fun u W hW hd => ?_) ?_
        · refine opLeaves_ev HF rfl fun ev zc zg zf zt => ?_
          have t49 : ev (.tmp 49) = u 6 := zt 49
          have t53 : ev (.tmp 53) = u 10 := zt 53
          clear zt
          have h6 : u 6 = _ := hd 6 (by kernel_rfl)
          have h10 : u 10 = _ := hd 10 (by kernel_rfl)
          exact ev_val (v := .agg #[.int .i64 mk, .int .i64 0, .string (ofL t)]) (by go_simp) rfl
        refine localsR_cons (fun u W hW hd => ?_) localsR_nil
        · refine opLeaves_ev HF rfl fun ev zc zg zf zt => ?_
          clear zt
          exact ev_new (v := .pointer (some ⟨W.heap.size, 0, none⟩)) (w' := W.alloc (.cells (frCells ⟨0, 0, []⟩) 120)) (by go_simp; rfl) ((Ext.rfl' W).al _) ⟨_, rfl, hW.size, heap_alloc_new W _⟩
      · intro u9 W9 hW9 hV
        have h11 : u9 11 = _ := hV 11 (by decide)
        obtain ⟨bx, h12, hbx, hfr⟩ := hV 12 (by decide)
        obtain ⟨c0, c1, c2', cf⟩ := hfr.cells
        have cf0 := cf 0; have cf1 := cf 1; have cf2 := cf 2
        obtain ⟨V, hVe⟩ : ∃ V : World, ((W9.setCell ⟨bx, 0, none⟩ (.int .i64 mk)).setCell ⟨bx, 1, none⟩ (.int .i64 0)).setCell ⟨bx, 2, none⟩ (.string (ofL t)) = V := ⟨_, rfl⟩
        have hF1 : FrB V bx ⟨mk, 0, t⟩ := by rw [← hVe]; exact fset3 hfr ⟨mk, 0, t⟩
        have hE1 : Ext wr V := by
          rw [← hVe]
          exact ((hW9.st (p := ⟨bx, 0, none⟩) hbx _).st (p := ⟨bx, 1, none⟩) hbx _).st (p := ⟨bx, 2, none⟩) hbx _
        clear hV hfr cf hW9
        dsimp only at c0 c1 c2'
        go_simp
        go_upto_region 10 with fail
        clear c0 c1 c2' cf0 cf1 cf2 hVe
        obtain ⟨c0, c1, c2', cf⟩ := hF1.cells
        have cf1 := cf 1
        dsimp only at c0 c1 c2'
        clear cf
        by_cases hk0 : k = 0
        · have hkb : ((k : Int) == 0) = true := by simp [hk0]
          obtain ⟨V2, hV2⟩ : ∃ V2 : World, V.setCell ⟨bx, 1, none⟩ (.int .i64 kind) = V2 := ⟨_, rfl⟩
          have hF2 : FrB V2 bx ⟨mk, kk, t⟩ := by
            rw [← hV2, ← HKK.out, if_pos hk0]
            exact heap_setCell_same V bx 1 _ _ _ hF1
          have hE2 : Ext wr V2 := by rw [← hV2]; exact hE1.st (p := ⟨bx, 1, none⟩) hbx _
          clear hF1 hE1 hk0
          go_upto_region 12 with fail
          clear c0 c1 c2' cf1 hV2 hkb
          obtain ⟨c0, c1, c2', cf⟩ := hF2.cells
          dsimp only at c0 c1 c2'
          go_wp2_with fail
          refine (cF.out _).mono ?_
          rintro e w3 ⟨rfl, E3⟩
          have D3 := (D.ext hE2).ext E3
          have T3 := (T.ext hE2).ext E3
          have O3 := own_ext (own_ext O (fun j _ hj => hE2.block j hj)) (fun j _ hj => E3.block j hj)
          clear c0 c1 c2' cf hF2 hE2 E3 D T O cF cM
          go_wp2_with fail
          refine (cW.out _ D3).mono ?_
          rintro e w4 ⟨rfl, D4, T4⟩
          have T5 := T3.tr T4
          have O5 := own_two O3 T4 hgp1 hgp2
          clear cW D3 T3 O3 T4
          by_cases hec : ec = 0
          · subst hec
            have hst1 := Kp.mk (hst.out.1 rfl)
            go_wp2
            go_roundw
            case rel => exact ⟨j + 1, d2, by go_num, by omega, D4, T5, O5, (by first | exact hpo.2.2.1 rfl | exact hpo.2.2.1 trivial), by rw [hpo.2.1]; omega, by rw [hpo.1]; exact hbl, hst1.out⟩
            case measure => simp [intOf]; omega
          · have hec2 : ((ec : Int) != 0) = true := by simp; omega
            have hst2 := Kp.mk (hst.out.2 hec)
            clear hec hpo
            go_wp2
            go_ret
            rw [← hst2.out]
            exact ⟨rfl, D4, T5⟩
        · have hkb : ((k : Int) == 0) = false := by simp; omega
          have hF2 : FrB V bx ⟨mk, kk, t⟩ := by rw [← HKK.out, if_neg hk0]; exact hF1
          have hE2 : Ext wr V := hE1
          clear hF1 hE1 hk0
          go_upto_region 12 with fail
          clear c0 c1 c2' cf1 hkb
          obtain ⟨c0, c1, c2', cf⟩ := hF2.cells
          dsimp only at c0 c1 c2'
          go_wp2_with fail
          refine (cF.out _).mono ?_
          rintro e w3 ⟨rfl, E3⟩
          have D3 := (D.ext hE2).ext E3
          have T3 := (T.ext hE2).ext E3
          have O3 := own_ext (own_ext O (fun j _ hj => hE2.block j hj)) (fun j _ hj => E3.block j hj)
          clear c0 c1 c2' cf hF2 hE2 E3 D T O cF cM
          go_wp2_with fail
          refine (cW.out _ D3).mono ?_
          rintro e w4 ⟨rfl, D4, T4⟩
          have T5 := T3.tr T4
          have O5 := own_two O3 T4 hgp1 hgp2
          clear cW D3 T3 O3 T4
          by_cases hec : ec = 0
          · subst hec
            have hst1 := Kp.mk (hst.out.1 rfl)
            go_wp2
            go_roundw
            case rel => exact ⟨j + 1, d2, by go_num, by omega, D4, T5, O5, (by first | exact hpo.2.2.1 rfl | exact hpo.2.2.1 trivial), by rw [hpo.2.1]; omega, by rw [hpo.1]; exact hbl, hst1.out⟩
            case measure => simp [intOf]; omega
          · have hec2 : ((ec : Int) != 0) = true := by simp; omega
            have hst2 := Kp.mk (hst.out.2 hec)
            clear hec hpo
            go_wp2
            go_ret
            rw [← hst2.out]
            exact ⟨rfl, D4, T5⟩
    · obtain rfl : j = n := by omega
      have hfin := Kp.mk (show R = (d', 0) by
        rw [← hput, List.drop_of_length_le (by rw [length_orderE, HFN.out]; exact Nat.le_refl _)]
        rfl)
      clear hput
      go_wp2
      go_ret
      rw [hfin.out]
      exact ⟨rfl, D, T⟩
end Go.Proofs.YtmnpbpfeoackiaaDoor
