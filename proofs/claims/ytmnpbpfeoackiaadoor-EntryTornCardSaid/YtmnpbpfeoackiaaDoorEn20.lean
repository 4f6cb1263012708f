/-
  What an interrupted writing of an entry leaves, in plain words.
-/
import Derived.Test.YtmnpbpfeoackiaaDoorMhG
namespace Go.Proofs.YtmnpbpfeoackiaaDoor
open Go.RowKit

theorem crAt_true {c : Option (Int × Nat)} {n : Int} {k : Nat} (h : crAt c n = (k, true)) : ∃ a, c = some (a, k) := by
  unfold crAt at h
  split at h
  · cases h
  · rename_i a k'
    split at h
    · have := congrArg Prod.fst h
      dsimp only at this
      exact ⟨a, by rw [this]⟩
    · cases h
/-- Blocks are written one behind the other: all of them, or up to the one at which the power goes. -/
theorem puts_torn : ∀ (l : List (Nat × List UInt8)) (bs : List (List UInt8)) (cr : Option (Int × Nat)) (wr : Nat),
    (Dk.puts ⟨bs, cr, wr, false⟩ l = (⟨l.foldl (fun b x => b.set x.1 x.2) bs, cr, wr + l.length, false⟩, 0)) ∨
    ∃ l1 i b l2 a k, l = l1 ++ (i, b) :: l2 ∧ cr = some (a, k) ∧ Dk.puts ⟨bs, cr, wr, false⟩ l = (⟨(l1.foldl (fun b x => b.set x.1 x.2) bs).set i (tornL b ((l1.foldl (fun b x => b.set x.1 x.2) bs).getD i []) k), cr, wr + l1.length + 1, true⟩, 20)
  | [], bs, cr, wr => .inl rfl
  | (i, b) :: r, bs, cr, wr => by
    obtain ⟨⟨k, cb⟩, hc⟩ : ∃ c, crAt cr wr = c := ⟨_, rfl⟩
    cases cb with
    | true =>
      have hp := put_crash (d := ⟨bs, cr, wr, false⟩) (i := i) (b := b) rfl hc
      obtain ⟨a, ha⟩ := crAt_true hc
      refine .inr ⟨[], i, b, r, a, k, rfl, ha, ?_⟩
      rw [puts_stop (by rw [hp]; exact (by decide : (20 : Nat) ≠ 0)), hp]
      rfl
    | false =>
      have hp := put_ok (d := ⟨bs, cr, wr, false⟩) (i := i) (b := b) rfl hc
      rw [puts_step (by rw [hp]), hp]
      dsimp only
      rcases puts_torn r (bs.set i b) cr (wr + 1) with h | ⟨l1, i', b', l2, a, k', h1, h2, h3⟩
      · refine .inl ?_
        rw [h, List.foldl_cons, List.length_cons, show wr + 1 + r.length = wr + (r.length + 1) by omega]
      · refine .inr ⟨(i, b) :: l1, i', b', l2, a, k', by rw [h1]; rfl, h2, ?_⟩
        rw [h3, List.foldl_cons, List.length_cons, show wr + 1 + l1.length + 1 = wr + (l1.length + 1) + 1 by omega]
/-- No block whose last bytes are others holds the mark. -/
theorem other_mark {b : List UInt8} {mk : Int} (hb : b.length = 128) (h0 : 0 < mk) (h : b.drop 120 ≠ leN 8 mk.toNat) : (frGet b).1.m ≠ mk := by
  by_cases hg : frGood b
  · rw [show frGet b = (frOf b, true) from if_pos hg]
    intro he
    have hm : ((numN (b.take 8) : Nat) : Int) = mk := he
    refine h ?_
    have e1 := leN_numN (b.take 8)
    rw [List.length_take, show min 8 b.length = 8 by omega] at e1
    rw [← hg.2.1, ← e1]
    congr 1
    omega
  · rw [show frGet b = (⟨0, 0, []⟩, false) from if_neg hg]
    show (0 : Int) ≠ mk
    omega
theorem torn_read {bs : List (List UInt8)} {cr : Option (Int × Nat)} {wr : Nat} {fp ix : Nat} {gen : Int} {s : List UInt8} (h : checkE bs.length fp gen ix 2 s.length = 0) (h128 : ∀ b ∈ bs, b.length = 128) (hk : ∀ a k, cr = some (a, k) → k ≤ 128)
    (hold : ∀ b, bs[fp + ix]? = some b → b.drop 120 ≠ leN 8 (markN gen ix true).toNat) :
    ∃ bs' wr' dn e, writeE ⟨bs, cr, wr, false⟩ fp gen ix 2 s = (⟨bs', cr, wr', dn⟩, e) ∧ bs'.length = bs.length ∧ (e = 0 ∧ readE bs' fp gen ix = some (2, s, blkN s.length) ∨ e = 20 ∧ (readE bs' fp gen ix = none ∨ readE bs' fp gen ix = some (2, s, blkN s.length))) := by
  have hG := check_good h
  have hl : (framesE gen ix 2 s).length = blkN s.length := by rw [length_framesE, length_partsE hG.len]
  have hroom := hG.room
  have hpos := hG.pos
  have hg := hG.gen0; have hi := hG.ix0; have hla := hG.last
  have hm0 : markN gen ix true ≠ 0 := fun hb => by have := markN_zero.1 hb; omega
  have hmb := markN_lt gen ix true
  obtain ⟨N, hN⟩ : ∃ N, blkN s.length = N := ⟨_, rfl⟩
  rw [hN] at hl hroom hpos
  obtain ⟨p, hp⟩ : ∃ p, fp + ix = p := ⟨_, rfl⟩
  have hpl : p < bs.length := by omega
  have hall : readE ((orderE p (framesE gen ix 2 s)).foldl (fun b x => b.set x.1 x.2) bs) fp gen ix = some (2, s, blkN s.length) := by
    refine readE_frames (by rw [foldl_set_len]; exact hG) fun k hkN => ?_
    rw [hN] at hkN
    have hkl : k < (framesE gen ix 2 s).length := by omega
    rw [hp, foldl_set_get (fun q => (framesE gen ix 2 s).getD (q - p) []) _ _ (p + k) (fun x hx => by
      obtain ⟨j, hj, rfl⟩ := orderE_mem hx
      dsimp only
      rw [Nat.add_sub_cancel_left]), if_pos ⟨⟨_, orderE_all hkl, rfl⟩, by omega⟩, Nat.add_sub_cancel_left, List.getD_eq_getElem?_getD, List.getElem?_eq_getElem hkl]
    rfl
  have hw : writeE ⟨bs, cr, wr, false⟩ fp gen ix 2 s = Dk.puts ⟨bs, cr, wr, false⟩ (orderE p (framesE gen ix 2 s)) := by
    unfold writeE
    rw [if_neg (fun hne => hne h), show ((fp : Int) + ix).toNat = p by omega]
  rw [hw]
  rcases puts_torn (orderE p (framesE gen ix 2 s)) bs cr wr with hd | ⟨l1, i, b, l2, a, k, h1, h2, h3⟩
  · exact ⟨_, _, _, _, hd, foldl_set_len _ _, .inl ⟨rfl, hall⟩⟩
  · refine ⟨_, _, _, _, h3, by rw [List.length_set, foldl_set_len], .inr ⟨rfl, ?_⟩⟩
    have hol : (orderE p (framesE gen ix 2 s)).length = N := by rw [length_orderE, hl]
    have hlen : l1.length + 1 + l2.length = N := by
      rw [← hol, h1, List.length_append, List.length_cons]
      omega
    have hget : ∀ j, j < N → (orderE p (framesE gen ix 2 s))[j]? = some (p + (j + 1) % N, (framesE gen ix 2 s).getD ((j + 1) % N) []) := fun j hj => by
      rw [orderE_get p _ j (by omega), hl]
    have hib : (i, b) = (p + (l1.length + 1) % N, (framesE gen ix 2 s).getD ((l1.length + 1) % N) []) := by
      have q := hget l1.length (by omega)
      rw [h1, List.getElem?_append_right (Nat.le_refl _), Nat.sub_self, List.getElem?_cons_zero] at q
      exact Option.some.inj q
    have hl1 : ∀ x ∈ l1, x.1 ≠ p := by
      intro x hx
      obtain ⟨j, hj, hxj⟩ := List.mem_iff_getElem.1 hx
      have q := hget j (by omega)
      rw [h1, List.getElem?_append_left hj, List.getElem?_eq_getElem hj, hxj] at q
      rw [Option.some.inj q, Nat.mod_eq_of_lt (by omega)]
      dsimp only
      omega
    have hl1G : ∀ x ∈ l1, x.2 = (framesE gen ix 2 s).getD (x.1 - p) [] := fun x hx => by
      obtain ⟨j, hj, rfl⟩ := orderE_mem (p := p) (l := framesE gen ix 2 s) (x := x) (by rw [h1]; exact List.mem_append_left _ hx)
      dsimp only
      rw [Nat.add_sub_cancel_left]
    have hbase : (l1.foldl (fun b x => b.set x.1 x.2) bs)[p]? = bs[p]? := by
      rw [foldl_set_get (fun q => (framesE gen ix 2 s).getD (q - p) []) _ _ p hl1G, if_neg]
      rintro ⟨⟨x, hx, hxp⟩, _⟩
      exact hl1 x hx hxp
    obtain ⟨b0, hb0⟩ : ∃ b0, bs[p]? = some b0 := ⟨_, List.getElem?_eq_getElem hpl⟩
    have hb0l : b0.length = 128 := h128 _ (List.mem_of_getElem? hb0)
    have hnot := hold b0 (by rw [hp]; exact hb0)
    rw [hb0] at hbase
    by_cases hl2 : l2 = []
    · subst hl2
      have hlast : l1.length + 1 = N := by simpa using hlen
      rw [hlast, Nat.mod_self] at hib
      obtain ⟨hip, hbf⟩ : i = p ∧ b = (framesE gen ix 2 s).getD 0 [] := by
        have e1 := congrArg Prod.fst hib
        have e2 := congrArg Prod.snd hib
        exact ⟨by simpa using e1, e2⟩
      rw [hip]
      have hf0 : b = frameE gen ix 2 0 (headE s) := by
        rw [hbf, List.getD_eq_getElem?_getD, framesE_get (show 0 < (partsE s).length by unfold partsE; simp)]
        rfl
      have hfp := frame_put hG (k := 0) (by omega) (t := headE s) (by rw [length_headE]; omega)
      have hgt := frGet_put hfp.2 (by rw [hfp.1])
      rw [hfp.1] at hgt
      dsimp only at hgt
      rw [← hf0, show ((ix : Int) + (0 : Nat)) = ix by omega, if_pos rfl] at hgt
      have hbd : b.drop 120 = leN 8 (markN gen ix true).toNat := by
        rw [hf0]
        unfold frameE
        rw [frBytes_drop (by rw [length_headE]; omega), show ((ix : Int) + (0 : Nat)) = ix by omega]
        rfl
      have hbD : (l1.foldl (fun b x => b.set x.1 x.2) bs).getD p [] = b0 := by rw [List.getD_eq_getElem?_getD, hbase]; rfl
      rw [hbD]
      have hplen : p < (l1.foldl (fun b x => b.set x.1 x.2) bs).length := by rw [foldl_set_len]; exact hpl
      by_cases ht : (frGet (tornL b b0 k)).2 = true ∧ (frGet (tornL b b0 k)).1.m = markN gen ix true
      · have e := torn_law hb0l (hk a k h2) hgt (by rw [hbd]; exact fun e => hnot e.symm) ht.1 ht.2
        rw [e]
        refine .inr ?_
        rw [← hall, h1, List.foldl_append, List.foldl_cons, List.foldl_nil, hip]
      · refine .inl ?_
        refine readE_nohead (F := (frGet (tornL b b0 k)).1) (ok := false) ?_ (.inl rfl)
        rw [hp, atE_in (by rw [List.length_set]; exact hplen), List.getElem_set_self]
        congr 1
        rw [Bool.and_eq_false_iff, decide_eq_false_iff_not]
        by_cases hx : (frGet (tornL b b0 k)).2 = true
        · exact .inr fun hy => ht ⟨hx, hy⟩
        · exact .inl (by simpa using hx)
    · have h2l : 0 < l2.length := List.length_pos_iff.2 hl2
      rw [Nat.mod_eq_of_lt (by omega)] at hib
      have hip : i = p + (l1.length + 1) := congrArg Prod.fst hib
      refine .inl (readE_other fun c hc => ?_)
      rw [hp, List.getElem?_set_ne (by omega), hbase] at hc
      obtain rfl := Option.some.inj hc
      exact other_mark hb0l (by omega) hnot
end Go.Proofs.YtmnpbpfeoackiaaDoor
