/-
  Package entry: a block of the disk, read as a frame. Condition: the disk is on. · What is read of an entry, step by step, in plain words. · An entry that is written, and what is read of it, in plain words. · Package entry: what is told of an entry that cannot be written; a writing as a whole. Condition: the disk is on. · A reading by comparing blocks is a reading by comparing texts, in plain words.
-/
import Derived.Test.YtmnpbpfeoackiaaDoorMhD
import Derived.Test.YtmnpbpfeoackiaaDoorMhH
import Derived.Test.YtmnpbpfeoackiaaDoorEn7
import Derived.Test.YtmnpbpfeoackiaaDoorMhF
import Derived.Test.YtmnpbpfeoackiaaDoorStoreG
import Derived.Lib.EndianBits
namespace Go.Proofs.YtmnpbpfeoackiaaDoor
open Go.RowKit

/-- What a block reads as. -/
def atE (bs : List (List UInt8)) (i mark : Int) : Frm × Bool :=
  if i < 0 ∨ (bs.length : Int) ≤ i then (⟨0, 0, []⟩, false) else ((frGet (bs.getD i.toNat [])).1, (frGet (bs.getD i.toNat [])).2 && decide ((frGet (bs.getD i.toNat [])).1.m = mark))

theorem fget_all (s : List UInt8) (w : World) : Calls Tryd.prog 109 #[.string (ofL s)] w fun e w' => e = .returned (.tuple #[frV (frGet s).1, .bool (frGet s).2]) ∧ Ext w w' := by
  by_cases hs : s.length = 128
  · exact fget_long s w hs
  · rw [show frGet s = (⟨0, 0, []⟩, false) from if_neg (fun h => hs h.1)]
    exact fget_short s w hs

theorem run_store_frm {o : Oper} {a : Act} {W : World} {g : Nat} {p x : Operand} {f y : Frm} (ho : o.op = Op.store 120 p x) (hp : a.eval p = .pointer (some ⟨g, 0, none⟩)) (hx : a.eval x = .agg #[.int .i64 f.m, .int .i64 f.k, .string (ofL f.t)]) (hA : FrB W g y) :
    (execOp a.eval o).run Tryd.prog W = .ok .skip (((W.setCell ⟨g, 0, none⟩ (.int .i64 f.m)).setCell ⟨g, 1, none⟩ (.int .i64 f.k)).setCell ⟨g, 2, none⟩ (.string (ofL f.t))) := by
  obtain ⟨q0, q1, q2, z⟩ := hA.cells
  have z0 := z 0; have z1 := z 1; have z2 := z 2
  simp only [execOp, ho]
  rw [hp, hx]
  simp [go_sem, q0, q1, q2, z0, z1, z2]

theorem frb_other {w : World} {b k : Nat} {f : Frm} (h : FrB w b f) (hne : b ≠ k) (i : Nat) (u : Value) : FrB (w.setCell ⟨k, i, none⟩ u) b f :=
  (heap_setCell_other w ⟨k, i, none⟩ b u hne).trans h

section
variable {w : World} {B p g m : Nat} {d : Dk}
set_option maxRecDepth 100000 in
set_option maxHeartbeats 2000000 in
theorem eat_any (h : DkAt w B p g m d) (hd : d.dn = false) (i mark : Int) : Calls Tryd.prog 83 #[.pointer (some ⟨p, 0, none⟩), .int .i64 i, .int .i64 mark] w fun e w' => e = .returned (.tuple #[frV (atE d.bs i mark).1, .bool (atE d.bs i mark).2]) ∧ Ext w w' := by
  unfold atE
  obtain ⟨w1, hw1, hE1, hz1, b1⟩ := fr_box w ⟨0, 0, []⟩
  have HW1 := Kp.mk hw1; clear hw1 hz1
  have h1 := h.ext hE1
  by_cases hi : i < 0 ∨ (d.bs.length : Int) ≤ i
  · rw [if_pos hi]
    have cR := Kp.mk (dread_bad h1 hd hi)
    clear h h1 hd hi
    go_enter Tryd.func83, Tryd.ntmps83
    go_upto_region 1 with fail
    rw [show (⟨#[]⟩ : ByteArray) = ofL [] from rfl, ← HW1.out]
    clear HW1
    go_wp2_with fail
    refine cR.out.mono ?_
    rintro e w2 ⟨rfl, E2⟩
    have hE2 := hE1.tr E2
    have b2 := b1.ext E2
    obtain ⟨c0, c1, c2, cf⟩ := b2.cells
    dsimp only at c0 c1 c2
    clear E2 hE1 b1 cR
    go_wp2
    have z4 := fset3 b2 ⟨0, 0, []⟩
    have zE := ((hE2.st (p := ⟨w.heap.size, 0, none⟩) (by simp) (.int .i64 0)).st (p := ⟨w.heap.size, 1, none⟩) (by simp) (.int .i64 0)).st (p := ⟨w.heap.size, 2, none⟩) (by simp) (.string ⟨#[]⟩)
    revert z4 zE
    dsimp only
    rw [show ofL [] = (⟨#[]⟩ : ByteArray) from rfl]
    generalize ((w2.setCell ⟨w.heap.size, 0, none⟩ (.int .i64 0)).setCell ⟨w.heap.size, 1, none⟩ (.int .i64 0)).setCell ⟨w.heap.size, 2, none⟩ (.string ⟨#[]⟩) = wz
    intro z4 zE
    obtain ⟨f0, f1, f2, _⟩ := z4.cells
    refine bodyPost_ret (v := .tuple #[frV ⟨0, 0, []⟩, .bool false]) (by simp [results, Tryd.results83, go_sem, f0, f1, f2]) rfl ?_
    exact ⟨rfl, zE⟩
  · rw [if_neg hi]
    obtain ⟨k, rfl⟩ : ∃ k : Nat, i = k := ⟨i.toNat, by omega⟩
    have hk : k < d.bs.length := by omega
    have cR := Kp.mk (dread_ok h1 hd hk)
    have hgd : d.bs.getD k [] = d.bs[k] := by rw [List.getD_eq_getElem?_getD, List.getElem?_eq_getElem hk]; rfl
    rw [Int.toNat_natCast, hgd]
    obtain ⟨b, hb⟩ : ∃ b, d.bs[k] = b := ⟨_, rfl⟩
    rw [hb] at cR ⊢
    have cG := Kp.mk (fun W => fget_all b W)
    obtain ⟨⟨⟨fm, fk, ft⟩, ok⟩, hf⟩ : ∃ r, frGet b = r := ⟨_, rfl⟩
    rw [hf] at cG ⊢
    dsimp only at cG ⊢
    clear h h1 hd hi hgd hb hf
    go_enter Tryd.func83, Tryd.ntmps83
    go_upto_region 1 with fail
    rw [show (⟨#[]⟩ : ByteArray) = ofL [] from rfl, ← HW1.out]
    clear HW1
    go_wp2_with fail
    refine cR.out.mono ?_
    rintro e w2 ⟨rfl, E2⟩
    have hE2 := hE1.tr E2
    have b2 := b1.ext E2
    clear E2 hE1 b1 cR
    go_wp2_with fail
    refine (cG.out w2).mono ?_
    rintro e w3 ⟨rfl, E3⟩
    have hE3 := hE2.tr E3
    have b3 := b2.ext E3
    clear E3 hE2 b2 cG
    go_upto_region 5 with fail
    obtain ⟨V, hV, EV, b4⟩ : ∃ V, w3.alloc (.cells #[.int .i64 fm, .int .i64 fk, .string (ofL ft)] 120) = V ∧ Ext w3 V ∧ FrB V w3.heap.size ⟨fm, fk, ft⟩ := ⟨_, rfl, (Ext.rfl' _).al _, heap_alloc_new w3 _⟩
    rw [hV]
    have b5 := b3.ext EV
    have hE4 := hE3.tr EV
    have hne : w.heap.size < w3.heap.size := b3.lt
    obtain ⟨c0, c1, c2, cf⟩ := b5.cells
    obtain ⟨d0, d1, d2, df⟩ := b4.cells
    dsimp only at c0 c1 c2 d0 d1 d2
    clear hV EV b3 hE3
    cases ok
    · clear c0 c1 c2 cf d0 d1 d2 df
      refine wp_region_stageE [8] (fun bs W => Ext w W ∧ FrB W w3.heap.size ⟨fm, fk, ft⟩ ∧ (bs[0]? = some false → FrB W w.heap.size ⟨0, 0, []⟩) ∧ (bs[0]? = some true → FrB W w.heap.size ⟨fm, fk, ft⟩)) (fun bs i v W => match i with
        | 0 => v = .agg #[.int .i64 fm, .int .i64 fk, .string (ofL ft)]
        | 1 => v = .bool false
        | 2 => v = .bool false
        | 3 => v = undef
        | 4 => v = undef
        | 5 => v = undef
        | 6 => v = undef
        | 7 => v = .bool (false && decide (fm = mark))
        | 8 => bs[0]? = some true
        | 9 => v = .bool (false && decide (fm = mark))
        | _ => True) (cs_inj (by decide)) (by decide) (by kernel_rfl) (by kernel_rfl) (by kernel_rfl) (by kernel_rfl) (⟨hE4.dr, b4, fun _ => b5, fun h => by cases h⟩) (fun bs W1 W2 h e => ⟨h.1.tr e, h.2.1.ext e, fun hb => (h.2.2.1 hb).ext e, fun hb => (h.2.2.2 hb).ext e⟩) ?_ ?_ ?_
      · intro bs i v W1 W2 e1 e2 h
        match i, h with
        | 0, h => exact h
        | 1, h => exact h
        | 2, h => exact h
        | 3, h => exact h
        | 4, h => exact h
        | 5, h => exact h
        | 6, h => exact h
        | 7, h => exact h
        | 8, h => exact h
        | 9, h => exact h
        | (i + 10), h => exact h
      · intro HF
        refine localsQ_ord (by decide) (fun bs u W hbs hW hno hd => ?_) ?_
        · refine opLeaves_ev HF rfl fun ev zc zg zf zt => ?_
          have t10 : ev (.tmp 10) = .pointer (some ⟨w3.heap.size, 0, none⟩) := zt 10
          clear zt
          obtain ⟨d0, d1, d2, df⟩ := hW.2.1.cells
          dsimp only at d0 d1 d2
          exact ev_val (v := .agg #[.int .i64 fm, .int .i64 fk, .string (ofL ft)]) (by go_simp) rfl
        refine localsQ_ord (by decide) (fun bs u W hbs hW hno hd => ?_) ?_
        · refine opLeaves_ev HF rfl fun ev zc zg zf zt => ?_
          have t11 : ev (.tmp 11) = .bool false := zt 11
          clear zt
          exact ev_val (v := .bool false) (by go_simp) rfl
        refine localsQ_ord (by decide) (fun bs u W hbs hW hno hd => ?_) ?_
        · refine opLeaves_ev HF rfl fun ev zc zg zf zt => ?_
          have t27 : ev (.tmp 27) = u 1 := zt 27
          clear zt
          have h1 : u 1 = _ := hd 1 (by kernel_rfl)
          exact ev_val (v := .bool false) (by go_simp) rfl
        refine localsQ_ord (by decide) (fun bs u W hbs hW hno hd => ?_) ?_
        · have h2 : u 2 = _ := hd 2 (by kernel_rfl)
          exact .inr ⟨by simp [Region.wanted, yielded, go_sem, h2], rfl⟩
        refine localsQ_ord (by decide) (fun bs u W hbs hW hno hd => ?_) ?_
        · have h2 : u 2 = _ := hd 2 (by kernel_rfl)
          exact .inr ⟨by simp [Region.wanted, yielded, go_sem, h2], rfl⟩
        refine localsQ_ord (by decide) (fun bs u W hbs hW hno hd => ?_) ?_
        · have h2 : u 2 = _ := hd 2 (by kernel_rfl)
          exact .inr ⟨by simp [Region.wanted, yielded, go_sem, h2], rfl⟩
        refine localsQ_ord (by decide) (fun bs u W hbs hW hno hd => ?_) ?_
        · have h2 : u 2 = _ := hd 2 (by kernel_rfl)
          exact .inr ⟨by simp [Region.wanted, yielded, go_sem, h2], rfl⟩
        refine localsQ_ord (by decide) (fun bs u W hbs hW hno hd => ?_) ?_
        · refine opLeaves_ev HF rfl fun ev zc zg zf zt => ?_
          have t28 : ev (.tmp 28) = u 2 := zt 28
          have t32 : ev (.tmp 32) = u 6 := zt 32
          clear zt
          have h2 : u 2 = _ := hd 2 (by kernel_rfl)
          have h6 : u 6 = _ := hd 6 (by kernel_rfl)
          exact ev_val (v := .bool (false && decide (fm = mark))) (by go_simp) rfl
        refine localsQ_turnT 0 rfl (fun q hq => cs_inj (cs := [8]) (by decide) 0 q _ rfl hq) (fun bs u W hbs hb0 hW hd hcs => ?_) ?_
        · have h0 : u 0 = _ := hd 0 (by kernel_rfl)
          have hset : (bs.set 0 true)[0]? = some true := List.getElem?_set_self (by rw [hbs]; decide)
          have hF0 := hW.2.2.1 hb0
          refine turnOk_skip rfl (run_store_frm (f := ⟨fm, fk, ft⟩) rfl (by go_simp) (by go_simp) hF0) ?_ hset ?_
          · exact ⟨((hW.1.st (p := ⟨w.heap.size, 0, none⟩) (Nat.le_refl _) _).st (p := ⟨w.heap.size, 1, none⟩) (Nat.le_refl _) _).st (p := ⟨w.heap.size, 2, none⟩) (Nat.le_refl _) _, frb_other (frb_other (frb_other hW.2.1 (Nat.ne_of_gt hne) _ _) (Nat.ne_of_gt hne) _ _) (Nat.ne_of_gt hne) _ _, fun hb => (by rw [hset] at hb; cases hb), fun _ => fset3 hF0 ⟨fm, fk, ft⟩⟩
          · intro k h
            match k, h with
            | 0, h => exact h
            | 1, h => exact h
            | 2, h => exact h
            | 3, h => exact h
            | 4, h => exact h
            | 5, h => exact h
            | 6, h => exact h
            | 7, h => exact h
            | 8, _ => exact hset
            | 9, h => exact h
            | (k + 10), h => exact h
        refine localsQ_ord (by decide) (fun bs u W hbs hW hno hd => ?_) localsQ_nil
        · refine opLeaves_ev HF rfl fun ev zc zg zf zt => ?_
          have t33 : ev (.tmp 33) = u 7 := zt 33
          clear zt
          have h7 : u 7 = _ := hd 7 (by kernel_rfl)
          exact ev_val (v := .bool (false && decide (fm = mark))) (by go_simp) rfl
      · intro u5 W5 hW5 hV
        have h9 : u5 9 = _ := hV 9 (by decide)
        have b6 := hW5.2.2.2 rfl
        obtain ⟨f0, f1, f2, _⟩ := b6.cells
        clear hV
        go_simp
        go_wp2
        refine bodyPost_ret (v := .tuple #[frV ⟨fm, fk, ft⟩, .bool (false && decide (fm = mark))]) (by simp [results, Tryd.results83, go_sem, f0, f1, f2]) rfl ?_
        exact ⟨rfl, hW5.1⟩
    · clear c0 c1 c2 cf d0 d1 d2 df
      refine wp_region_stageE [8] (fun bs W => Ext w W ∧ FrB W w3.heap.size ⟨fm, fk, ft⟩ ∧ (bs[0]? = some false → FrB W w.heap.size ⟨0, 0, []⟩) ∧ (bs[0]? = some true → FrB W w.heap.size ⟨fm, fk, ft⟩)) (fun bs i v W => match i with
        | 0 => v = .agg #[.int .i64 fm, .int .i64 fk, .string (ofL ft)]
        | 1 => v = .bool true
        | 2 => v = .bool true
        | 3 => v = .pointer (some ⟨w3.heap.size, 0, none⟩)
        | 4 => v = .int .i64 fm
        | 5 => v = .int .i64 mark
        | 6 => v = .bool (decide (fm = mark))
        | 7 => v = .bool (true && decide (fm = mark))
        | 8 => bs[0]? = some true
        | 9 => v = .bool (true && decide (fm = mark))
        | _ => True) (cs_inj (by decide)) (by decide) (by kernel_rfl) (by kernel_rfl) (by kernel_rfl) (by kernel_rfl) (⟨hE4.dr, b4, fun _ => b5, fun h => by cases h⟩) (fun bs W1 W2 h e => ⟨h.1.tr e, h.2.1.ext e, fun hb => (h.2.2.1 hb).ext e, fun hb => (h.2.2.2 hb).ext e⟩) ?_ ?_ ?_
      · intro bs i v W1 W2 e1 e2 h
        match i, h with
        | 0, h => exact h
        | 1, h => exact h
        | 2, h => exact h
        | 3, h => exact h
        | 4, h => exact h
        | 5, h => exact h
        | 6, h => exact h
        | 7, h => exact h
        | 8, h => exact h
        | 9, h => exact h
        | (i + 10), h => exact h
      · intro HF
        refine localsQ_ord (by decide) (fun bs u W hbs hW hno hd => ?_) ?_
        · refine opLeaves_ev HF rfl fun ev zc zg zf zt => ?_
          have t10 : ev (.tmp 10) = .pointer (some ⟨w3.heap.size, 0, none⟩) := zt 10
          clear zt
          obtain ⟨d0, d1, d2, df⟩ := hW.2.1.cells
          dsimp only at d0 d1 d2
          exact ev_val (v := .agg #[.int .i64 fm, .int .i64 fk, .string (ofL ft)]) (by go_simp) rfl
        refine localsQ_ord (by decide) (fun bs u W hbs hW hno hd => ?_) ?_
        · refine opLeaves_ev HF rfl fun ev zc zg zf zt => ?_
          have t11 : ev (.tmp 11) = .bool true := zt 11
          clear zt
          exact ev_val (v := .bool true) (by go_simp) rfl
        refine localsQ_ord (by decide) (fun bs u W hbs hW hno hd => ?_) ?_
        · refine opLeaves_ev HF rfl fun ev zc zg zf zt => ?_
          have t27 : ev (.tmp 27) = u 1 := zt 27
          clear zt
          have h1 : u 1 = _ := hd 1 (by kernel_rfl)
          exact ev_val (v := .bool true) (by go_simp) rfl
        refine localsQ_ord (by decide) (fun bs u W hbs hW hno hd => ?_) ?_
        · have h2 : u 2 = _ := hd 2 (by kernel_rfl)
          exact leaves_val (by simp [Region.wanted, yielded, go_sem, h2]) (v := .pointer (some ⟨w3.heap.size, 0, none⟩)) (by go_simp) rfl
        refine localsQ_ord (by decide) (fun bs u W hbs hW hno hd => ?_) ?_
        · have h2 : u 2 = _ := hd 2 (by kernel_rfl)
          have h3 : u 3 = _ := hd 3 (by kernel_rfl)
          obtain ⟨d0, d1, d2, df⟩ := hW.2.1.cells
          dsimp only at d0 d1 d2
          exact leaves_val (by simp [Region.wanted, yielded, go_sem, h2]) (v := .int .i64 fm) (by go_simp) rfl
        refine localsQ_ord (by decide) (fun bs u W hbs hW hno hd => ?_) ?_
        · have h2 : u 2 = _ := hd 2 (by kernel_rfl)
          exact leaves_val (by simp [Region.wanted, yielded, go_sem, h2]) (v := .int .i64 mark) (by go_simp) rfl
        refine localsQ_ord (by decide) (fun bs u W hbs hW hno hd => ?_) ?_
        · have h2 : u 2 = _ := hd 2 (by kernel_rfl)
          have h4 : u 4 = _ := hd 4 (by kernel_rfl)
          have h5 : u 5 = _ := hd 5 (by kernel_rfl)
          have hde : (fm == mark) = decide (fm = mark) := by rw [Bool.eq_iff_iff]; simp
          exact leaves_val (by simp [Region.wanted, yielded, go_sem, h2]) (v := .bool (decide (fm = mark))) (by go_simp) rfl
        refine localsQ_ord (by decide) (fun bs u W hbs hW hno hd => ?_) ?_
        · refine opLeaves_ev HF rfl fun ev zc zg zf zt => ?_
          have t28 : ev (.tmp 28) = u 2 := zt 28
          have t32 : ev (.tmp 32) = u 6 := zt 32
          clear zt
          have h2 : u 2 = _ := hd 2 (by kernel_rfl)
          have h6 : u 6 = _ := hd 6 (by kernel_rfl)
          exact ev_val (v := .bool (true && decide (fm = mark))) (by go_simp) rfl
        refine localsQ_turnT 0 rfl (fun q hq => cs_inj (cs := [8]) (by decide) 0 q _ rfl hq) (fun bs u W hbs hb0 hW hd hcs => ?_) ?_
        · have h0 : u 0 = _ := hd 0 (by kernel_rfl)
          have hset : (bs.set 0 true)[0]? = some true := List.getElem?_set_self (by rw [hbs]; decide)
          have hF0 := hW.2.2.1 hb0
          refine turnOk_skip rfl (run_store_frm (f := ⟨fm, fk, ft⟩) rfl (by go_simp) (by go_simp) hF0) ?_ hset ?_
          · exact ⟨((hW.1.st (p := ⟨w.heap.size, 0, none⟩) (Nat.le_refl _) _).st (p := ⟨w.heap.size, 1, none⟩) (Nat.le_refl _) _).st (p := ⟨w.heap.size, 2, none⟩) (Nat.le_refl _) _, frb_other (frb_other (frb_other hW.2.1 (Nat.ne_of_gt hne) _ _) (Nat.ne_of_gt hne) _ _) (Nat.ne_of_gt hne) _ _, fun hb => (by rw [hset] at hb; cases hb), fun _ => fset3 hF0 ⟨fm, fk, ft⟩⟩
          · intro k h
            match k, h with
            | 0, h => exact h
            | 1, h => exact h
            | 2, h => exact h
            | 3, h => exact h
            | 4, h => exact h
            | 5, h => exact h
            | 6, h => exact h
            | 7, h => exact h
            | 8, _ => exact hset
            | 9, h => exact h
            | (k + 10), h => exact h
        refine localsQ_ord (by decide) (fun bs u W hbs hW hno hd => ?_) localsQ_nil
        · refine opLeaves_ev HF rfl fun ev zc zg zf zt => ?_
          have t33 : ev (.tmp 33) = u 7 := zt 33
          clear zt
          have h7 : u 7 = _ := hd 7 (by kernel_rfl)
          exact ev_val (v := .bool (true && decide (fm = mark))) (by go_simp) rfl
      · intro u5 W5 hW5 hV
        have h9 : u5 9 = _ := hV 9 (by decide)
        have b6 := hW5.2.2.2 rfl
        obtain ⟨f0, f1, f2, _⟩ := b6.cells
        clear hV
        go_simp
        go_wp2
        refine bodyPost_ret (v := .tuple #[frV ⟨fm, fk, ft⟩, .bool (true && decide (fm = mark))]) (by simp [results, Tryd.results83, go_sem, f0, f1, f2]) rfl ?_
        exact ⟨rfl, hW5.1⟩
end
end Go.Proofs.YtmnpbpfeoackiaaDoor

namespace Go.Proofs.YtmnpbpfeoackiaaDoor
open Go.RowKit

theorem num4_get {T : List UInt8} (h : 4 ≤ T.length) : numN (T.take 4) = (T.getD 0 0).toNat + (T.getD 1 0).toNat * 256 + (T.getD 2 0).toNat * 65536 + (T.getD 3 0).toNat * 16777216 := by
  match T, h with
  | a :: b :: c :: d :: r, _ =>
    simp only [List.take_succ_cons, List.take_zero, numN, List.getD_cons_zero, List.getD_cons_succ]
    omega
theorem or32 (n b k : Nat) (hn : n < 256 ^ k) (hb : b < 256) (hk : k < 4) : bits .or .i64 (n : Int) ((b : Int) * ((256 ^ k : Nat) : Int)) = ((n + b * 256 ^ k : Nat) : Int) := by
  have hp : 256 ^ k * 256 ≤ 4294967296 := by
    have : 256 ^ k ≤ 256 ^ 3 := Nat.pow_le_pow_right (by omega) (by omega)
    omega
  have h1 : b * 256 ^ k ≤ 255 * 256 ^ k := Nat.mul_le_mul_right _ (by omega)
  have he : (256 : Nat) ^ k = 2 ^ (8 * k) := by rw [show (256 : Nat) = 2 ^ 8 by decide, ← Nat.pow_mul]
  rw [show ((b : Int) * ((256 ^ k : Nat) : Int)) = ((b * 256 ^ k : Nat) : Int) from (Int.natCast_mul _ _).symm,
    bits_join_low .i64 62 (by decide) (fun n h0 h1 => IntWalk.i64_in n ⟨by omega, by omega⟩) (8 * k) _ _ (by omega) (by rw [he] at hn; exact_mod_cast hn) (by omega) (by omega) (by rw [he, show ((2 : Int) ^ (8 * k)) = ((2 ^ (8 * k) : Nat) : Int) by simp, ← Int.natCast_emod, Nat.mul_mod_left]; rfl) (by omega)]
  omega
theorem frGet_len (s : List UInt8) : (frGet s).1.t.length ≤ 110 := by
  by_cases h : frGood s
  · rw [show frGet s = (frOf s, true) from if_pos h]
    unfold frOf
    dsimp only
    rw [List.length_take]
    omega
  · rw [show frGet s = (⟨0, 0, []⟩, false) from if_neg h]
    exact Nat.zero_le _
theorem atE_in {bs : List (List UInt8)} {i : Nat} (h : i < bs.length) (mark : Int) : atE bs i mark = ((frGet bs[i]).1, (frGet bs[i]).2 && decide ((frGet bs[i]).1.m = mark)) := by
  unfold atE
  rw [if_neg (by omega), Int.toNat_natCast, List.getD_eq_getElem?_getD, List.getElem?_eq_getElem h]
  rfl
theorem atE_out {bs : List (List UInt8)} {i : Int} (h : i < 0 ∨ (bs.length : Int) ≤ i) (mark : Int) : atE bs i mark = (⟨0, 0, []⟩, false) := if_pos h
theorem atE_len (bs : List (List UInt8)) (i mark : Int) : (atE bs i mark).1.t.length ≤ 110 := by
  unfold atE
  split
  · exact Nat.zero_le _
  · exact frGet_len _
theorem bodyE_good {bs : List (List UInt8)} {p k f : Nat} {gen index : Int} {F : Frm} (h : atE bs ((p + k : Nat) : Int) (markN gen (index + k) false) = (F, true)) (h0 : F.k = 0) :
    bodyE bs p gen index k (f + 1) = (bodyE bs p gen index (k + 1) f).map (F.t :: ·) := by
  by_cases hl : p + k < bs.length
  · rw [atE_in hl] at h
    have h1 := congrArg Prod.fst h
    have h2 := congrArg Prod.snd h
    dsimp only at h1 h2
    rw [Bool.and_eq_true, decide_eq_true_eq] at h2
    have hk : (frGet bs[p + k]).1.k = 0 := by rw [h1]; exact h0
    rw [bodyE, List.getElem?_eq_getElem hl]
    dsimp only
    rw [if_pos ⟨h2.1, h2.2, hk⟩, h1]
  · rw [atE_out (by omega)] at h
    cases h
theorem bodyE_bad {bs : List (List UInt8)} {p k f : Nat} {gen index : Int} {F : Frm} {ok : Bool} (h : atE bs ((p + k : Nat) : Int) (markN gen (index + k) false) = (F, ok)) (h0 : ok = false ∨ F.k ≠ 0) :
    bodyE bs p gen index k (f + 1) = none := by
  by_cases hl : p + k < bs.length
  · rw [atE_in hl] at h
    have h1 := congrArg Prod.fst h
    have h2 := congrArg Prod.snd h
    dsimp only at h1 h2
    rw [bodyE, List.getElem?_eq_getElem hl]
    dsimp only
    rw [if_neg]
    rintro ⟨a, b, c⟩
    rcases h0 with rfl | h0
    · rw [a, decide_eq_true b] at h2
      cases h2
    · exact h0 (by rw [← h1]; exact c)
  · rw [bodyE, List.getElem?_eq_none (by omega)]
theorem readE_out {bs : List (List UInt8)} {fr gen index : Int} (h : fr < 0 ∨ 4096 < fr ∨ markN gen index true = 0) (hb : bs.length ≤ 4096) : readE bs fr gen index = none := by
  unfold readE
  rw [if_pos]
  by_cases hm : markN gen index true = 0
  · exact .inr (.inl hm)
  · have hi : ¬ (gen < 1 ∨ 1099511627776 < gen ∨ index < 0 ∨ 4095 < index) := fun hb => hm (markN_bad hb)
    omega
theorem readE_nohead {bs : List (List UInt8)} {fr ix : Nat} {gen : Int} {F : Frm} {ok : Bool} (h : atE bs ((fr + ix : Nat) : Int) (markN gen ix true) = (F, ok)) (h0 : ok = false ∨ F.t.length < 8) : readE bs fr gen ix = none := by
  unfold readE
  by_cases hc : (fr : Int) < 0 ∨ markN gen ix true = 0 ∨ (bs.length : Int) ≤ (fr : Int) + ix
  · rw [if_pos hc]
  · rw [if_neg hc]
    have hl : fr + ix < bs.length := by omega
    rw [atE_in hl] at h
    have h1 := congrArg Prod.fst h
    have h2 := congrArg Prod.snd h
    dsimp only at h1 h2
    have hg : bs.getD ((fr : Int) + ix).toNat [] = bs[fr + ix] := by
      rw [show ((fr : Int) + ix).toNat = fr + ix by omega, List.getD_eq_getElem?_getD, List.getElem?_eq_getElem hl]; rfl
    rw [hg]
    dsimp only
    rw [if_neg]
    rintro ⟨a, b, c, _⟩
    rcases h0 with rfl | h0
    · rw [a, decide_eq_true b] at h2
      cases h2
    · rw [h1] at c
      omega
/-- What is read behind the head. -/
def tailE (F : Frm) (o : Option (List (List UInt8))) : Option (Int × List UInt8 × Nat) :=
  match o with
  | none => none
  | some ts => if (F.t.drop 8 ++ ts.flatten).length = numN (F.t.take 4) ∧ partsE (F.t.drop 8 ++ ts.flatten) = F.t :: ts then some (F.k, F.t.drop 8 ++ ts.flatten, blkN (numN (F.t.take 4))) else none
theorem readE_head {bs : List (List UInt8)} {fr ix : Nat} {gen : Int} {F : Frm} (hm : markN gen ix true ≠ 0) (h : atE bs ((fr + ix : Nat) : Int) (markN gen ix true) = (F, true)) (h8 : 8 ≤ F.t.length) :
    readE bs fr gen ix = if blkN (numN (F.t.take 4)) = 0 then none else tailE F (bodyE bs (fr + ix) gen ix 1 (blkN (numN (F.t.take 4)) - 1)) := by
  by_cases hl : fr + ix < bs.length
  · rw [atE_in hl] at h
    have h1 := congrArg Prod.fst h
    have h2 := congrArg Prod.snd h
    dsimp only at h1 h2
    rw [Bool.and_eq_true, decide_eq_true_eq] at h2
    have hg : bs.getD ((fr : Int) + ix).toNat [] = bs[fr + ix] := by
      rw [show ((fr : Int) + ix).toNat = fr + ix by omega, List.getD_eq_getElem?_getD, List.getElem?_eq_getElem hl]; rfl
    unfold readE
    rw [if_neg (by omega), hg]
    dsimp only
    rw [h1] at h2 ⊢
    rw [show ((fr : Int) + ix).toNat = fr + ix by omega]
    by_cases hb : blkN (numN (F.t.take 4)) = 0
    · rw [if_neg (fun q => q.2.2.2 hb), if_pos hb]
    · rw [if_pos ⟨h2.1, h2.2, h8, hb⟩, if_neg hb]
      rfl
  · rw [atE_out (by omega)] at h
    cases h
/-- What a reading returns. -/
def readV : Option (Int × List UInt8 × Nat) → Value
  | none => .tuple #[.agg #[.int .i64 0, .string ⟨#[]⟩, .int .i64 0], .bool false]
  | some (k, s, n) => .tuple #[.agg #[.int .i64 k, .string (ofL s), .int .i64 n], .bool true]
end Go.Proofs.YtmnpbpfeoackiaaDoor

namespace Go.Proofs.YtmnpbpfeoackiaaDoor
open Go.RowKit

theorem foldl_set_len (l : List (Nat × List UInt8)) (bs : List (List UInt8)) : (l.foldl (fun b x => b.set x.1 x.2) bs).length = bs.length := by
  induction l generalizing bs with
  | nil => rfl
  | cons x r ih => rw [List.foldl_cons, ih, List.length_set]
theorem foldl_set_get (G : Nat → List UInt8) : ∀ (l : List (Nat × List UInt8)) (bs : List (List UInt8)) (q : Nat), (∀ x ∈ l, x.2 = G x.1) → (l.foldl (fun b x => b.set x.1 x.2) bs)[q]? = if (∃ x ∈ l, x.1 = q) ∧ q < bs.length then some (G q) else bs[q]?
  | [], bs, q, h => by rw [if_neg (by rintro ⟨⟨x, hx, _⟩, _⟩; cases hx)]; rfl
  | x :: r, bs, q, h => by
    rw [List.foldl_cons, foldl_set_get G r (bs.set x.1 x.2) q (fun y hy => h y (List.mem_cons_of_mem _ hy)), List.length_set]
    by_cases hr : ∃ y ∈ r, y.1 = q
    · obtain ⟨y, hy, hq⟩ := hr
      by_cases hl : q < bs.length
      · rw [if_pos ⟨⟨y, hy, hq⟩, hl⟩, if_pos ⟨⟨y, List.mem_cons_of_mem _ hy, hq⟩, hl⟩]
      · rw [if_neg (fun h => hl h.2), if_neg (fun h => hl h.2), List.getElem?_eq_none (by rw [List.length_set]; omega), List.getElem?_eq_none (by omega)]
    · rw [if_neg (fun h => hr h.1)]
      by_cases hx : x.1 = q
      · by_cases hl : q < bs.length
        · rw [if_pos ⟨⟨x, List.mem_cons_self, hx⟩, hl⟩, ← hx, List.getElem?_set_self (by rw [hx]; exact hl), h x List.mem_cons_self]
        · rw [if_neg (fun h => hl h.2), List.getElem?_eq_none (by rw [List.length_set]; omega), List.getElem?_eq_none (by omega)]
      · rw [List.getElem?_set_ne hx, if_neg]
        rintro ⟨⟨y, hy, hq⟩, hl⟩
        rcases List.mem_cons.1 hy with rfl | hy
        · exact hx hq
        · exact hr ⟨y, hy, hq⟩
theorem puts_nocrash : ∀ (l : List (Nat × List UInt8)) (bs : List (List UInt8)) (wr : Nat), Dk.puts ⟨bs, none, wr, false⟩ l = (⟨l.foldl (fun b x => b.set x.1 x.2) bs, none, wr + l.length, false⟩, 0)
  | [], bs, wr => rfl
  | (i, b) :: r, bs, wr => by
    rw [puts_step rfl]
    show Dk.puts ⟨bs.set i b, none, wr + 1, false⟩ r = _
    rw [puts_nocrash r, List.foldl_cons, List.length_cons, show wr + 1 + r.length = wr + (r.length + 1) by omega]
theorem orderE_mem {p : Nat} {l : List (List UInt8)} {x : Nat × List UInt8} (h : x ∈ orderE p l) : ∃ j, j < l.length ∧ x = (p + j, l.getD j []) := by
  unfold orderE at h
  obtain ⟨i, hi, rfl⟩ := List.mem_map.1 h
  rw [List.mem_range] at hi
  exact ⟨(i + 1) % l.length, Nat.mod_lt _ (by omega), rfl⟩
theorem orderE_all {p : Nat} {l : List (List UInt8)} {j : Nat} (h : j < l.length) : (p + j, l.getD j []) ∈ orderE p l := by
  unfold orderE
  refine List.mem_map.2 ⟨(j + (l.length - 1)) % l.length, List.mem_range.2 (Nat.mod_lt _ (by omega)), ?_⟩
  have e : ((j + (l.length - 1)) % l.length + 1) % l.length = j := by
    rw [Nat.mod_add_mod, show j + (l.length - 1) + 1 = j + l.length by omega, Nat.add_mod_right, Nat.mod_eq_of_lt h]
  rw [e]
/-- What a writing leaves, where nothing crashes. -/
theorem writeE_done {bs : List (List UInt8)} {wr : Nat} {fp ix : Nat} {gen kind : Int} {s : List UInt8} (h : checkE bs.length fp gen ix kind s.length = 0) :
    ∃ bs', writeE ⟨bs, none, wr, false⟩ fp gen ix kind s = (⟨bs', none, wr + blkN s.length, false⟩, 0) ∧ bs'.length = bs.length ∧
      (∀ q, bs'[q]? = if fp + ix ≤ q ∧ q < fp + ix + blkN s.length then (framesE gen ix kind s)[q - (fp + ix)]? else bs[q]?) := by
  have hG := check_good h
  have hl : (framesE gen ix kind s).length = blkN s.length := by rw [length_framesE, length_partsE hG.len]
  have hroom := hG.room
  refine ⟨(orderE (fp + ix) (framesE gen ix kind s)).foldl (fun b x => b.set x.1 x.2) bs, ?_, foldl_set_len _ _, ?_⟩
  · unfold writeE
    rw [if_neg (fun hne => hne h), show ((fp : Int) + ix).toNat = fp + ix by omega, puts_nocrash, length_orderE, hl]
  · intro q
    rw [foldl_set_get (fun q => (framesE gen ix kind s).getD (q - (fp + ix)) []) _ _ q (fun x hx => by
      obtain ⟨j, hj, rfl⟩ := orderE_mem hx
      dsimp only
      rw [Nat.add_sub_cancel_left])]
    by_cases hq : fp + ix ≤ q ∧ q < fp + ix + blkN s.length
    · have hk : q - (fp + ix) < (framesE gen ix kind s).length := by omega
      rw [if_pos hq, if_pos ⟨⟨_, orderE_all hk, by dsimp only; omega⟩, by omega⟩, List.getD_eq_getElem?_getD, List.getElem?_eq_getElem hk]
      rfl
    · rw [if_neg hq, if_neg]
      rintro ⟨⟨x, hx, hxq⟩, _⟩
      obtain ⟨j, hj, rfl⟩ := orderE_mem hx
      dsimp only at hxq
      omega
/-- What is read where an entry's blocks lie. -/
theorem readE_frames {bs : List (List UInt8)} {fp ix : Nat} {gen kind : Int} {s : List UInt8} (hG : GoodE bs.length fp gen ix kind s.length)
    (hb : ∀ k, k < blkN s.length → bs[fp + ix + k]? = (framesE gen ix kind s)[k]?) : readE bs fp gen ix = some (kind, s, blkN s.length) := by
  have hpl := length_partsE hG.len
  have hpos := hG.pos
  have hroom := hG.room
  have hg := hG.gen0; have hi := hG.ix0; have hla := hG.last
  have hat : ∀ k, (hk : k < blkN s.length) → atE bs ((fp + ix + k : Nat) : Int) (markN gen ((ix : Int) + k) (k == 0)) = (⟨markN gen ((ix : Int) + k) (k == 0), if k = 0 then kind else 0, (partsE s)[k]'(by omega)⟩, true) := by
    intro k hk
    have hlt : fp + ix + k < bs.length := by omega
    have he : bs[fp + ix + k] = frameE gen ix kind k ((partsE s)[k]'(by omega)) := by
      have q := hb k hk
      rw [List.getElem?_eq_getElem hlt, framesE_get (by omega)] at q
      exact Option.some.inj q
    have hf := frame_put hG hk (partsE_le s _ (List.getElem_mem (by omega : k < (partsE s).length)))
    have hgt := frGet_put hf.2 (by rw [hf.1])
    rw [hf.1] at hgt
    dsimp only at hgt
    rw [atE_in hlt, he, hgt]
    dsimp only
    rw [decide_eq_true rfl]
    rfl
  have h0 := hat 0 (by omega)
  have hm0 : markN gen ix true ≠ 0 := fun hb => by have := markN_zero.1 hb; omega
  have hhead : (partsE s)[0]'(by omega) = headE s := rfl
  have e0 : ((ix : Int) + (0 : Nat)) = ix := by omega
  rw [Nat.add_zero, e0, if_pos rfl, hhead] at h0
  have hl8 := length_headE s
  have hnum : numN ((headE s).take 4) = s.length := by
    unfold headE
    rw [List.take_append_of_le_length (by rw [length_leN]; omega), List.take_of_length_le (by rw [length_leN]; omega), numN_leN 4 _ (by have := hG.len; omega)]
  have hd8 : (headE s).drop 8 = s.take 102 := by
    unfold headE
    rw [List.drop_append, List.drop_of_length_le (by rw [length_leN]; omega), List.nil_append, length_leN, List.drop_append, List.drop_of_length_le (by rw [List.length_take, length_sumL]; omega), List.nil_append, List.length_take, length_sumL]
    rfl
  have hbody : ∀ f k, k + f = blkN s.length → 1 ≤ k → bodyE bs (fp + ix) gen ix k f = some ((partsE s).drop k) := by
    intro f
    induction f with
    | zero =>
      intro k hk _
      rw [List.drop_of_length_le (by omega)]
      cases k <;> rfl
    | succ f ih =>
      intro k hk h1
      have q := hat k (by omega)
      rw [if_neg (by omega), show (k == 0) = false by simp; omega] at q
      rw [bodyE_good q rfl, ih (k + 1) (by omega) (by omega), List.drop_eq_getElem_cons (by omega : k < (partsE s).length)]
      rfl
  rw [readE_head hm0 h0 (by dsimp only; omega)]
  dsimp only
  rw [hnum, if_neg (by omega), hbody (blkN s.length - 1) 1 (by omega) (by omega)]
  unfold tailE
  dsimp only
  have hfl : (headE s).drop 8 ++ ((partsE s).drop 1).flatten = s := by
    rw [hd8]
    show s.take 102 ++ (cutL 110 (s.drop 102)).flatten = s
    rw [(cutL_good (by omega) _).1, List.take_append_drop]
  rw [hfl, hnum, if_pos ⟨rfl, rfl⟩]
/-- Nothing is read where the head is of another mark. -/
theorem readE_other {bs : List (List UInt8)} {fp ix : Nat} {gen : Int} (h : ∀ b, bs[fp + ix]? = some b → (frGet b).1.m ≠ markN gen ix true) : readE bs fp gen ix = none := by
  by_cases hl : fp + ix < bs.length
  · refine readE_nohead (F := (frGet bs[fp + ix]).1) (ok := false) ?_ (.inl rfl)
    rw [atE_in hl, decide_eq_false (h _ (List.getElem?_eq_getElem hl)), Bool.and_false]
  · exact readE_nohead (atE_out (by omega) _) (.inl rfl)
end Go.Proofs.YtmnpbpfeoackiaaDoor

namespace Go.Proofs.YtmnpbpfeoackiaaDoor
open Go.RowKit

set_option maxRecDepth 100000 in
theorem ewrite_bad {w : World} {B p g m : Nat} {d : Dk} (h : DkAt w B p g m d) (fr gen index kind : Int) (s : List UInt8) (hc0 : checkE d.bs.length fr gen index kind s.length ≠ 0) :
    Calls Tryd.prog 31 #[.pointer (some ⟨p, 0, none⟩), .int .i64 fr, .int .i64 gen, .int .i64 index, .int .i64 kind, .string (ofL s)] w fun e w' => e = .returned (.int .i64 (checkE d.bs.length fr gen index kind s.length)) ∧ w' = w := by
  have cC := Kp.mk (echeck_any h fr gen index kind s)
  obtain ⟨c, hc⟩ : ∃ c, checkE d.bs.length fr gen index kind s.length = c := ⟨_, rfl⟩
  rw [hc] at cC hc0 ⊢
  have q : ((c : Int) != 0) = true := by simp; exact hc0
  clear h hc
  go_enter Tryd.func31, Tryd.ntmps31
  go_wp2_with fail
  refine cC.out.mono ?_
  rintro e w ⟨rfl, rfl⟩
  go_wp2
  go_ret
  exact ⟨rfl, rfl⟩
set_option maxRecDepth 100000 in
theorem ewrite_nil (fr gen index kind : Int) (s : ByteArray) (w : World) : Calls Tryd.prog 31 #[.pointer none, .int .i64 fr, .int .i64 gen, .int .i64 index, .int .i64 kind, .string s] w fun e w' => e = .returned (.int .i64 21) ∧ w' = w := by
  have cC := Kp.mk (echeck_nil fr gen index kind s w)
  go_enter Tryd.func31, Tryd.ntmps31
  go_wp2_with fail
  refine cC.out.mono ?_
  rintro e w ⟨rfl, rfl⟩
  go_wp2
  go_ret
  exact ⟨rfl, rfl⟩
theorem ewrite_any {w : World} {B p g m : Nat} {d : Dk} (h : DkAt w B p g m d) (hd : d.dn = false) (hw : d.wr ≤ 900000) (fr gen index kind : Int) (s : List UInt8) (hT : Tab w) :
    Calls Tryd.prog 31 #[.pointer (some ⟨p, 0, none⟩), .int .i64 fr, .int .i64 gen, .int .i64 index, .int .i64 kind, .string (ofL s)] w fun e w' => e = .returned (.int .i64 (writeE d fr gen index kind s).2) ∧ DkAt w' B p g m (writeE d fr gen index kind s).1 ∧ Two p g w w' := by
  by_cases hc0 : checkE d.bs.length fr gen index kind s.length = 0
  · exact ewrite_ok h hd hw fr gen index kind s hT hc0
  · have e : writeE d fr gen index kind s = (d, checkE d.bs.length fr gen index kind s.length) := by
      unfold writeE
      rw [if_pos hc0]
    rw [e]
    refine (ewrite_bad h fr gen index kind s hc0).mono ?_
    rintro e w' ⟨rfl, rfl⟩
    exact ⟨rfl, h, Two.rfl' p g _⟩
end Go.Proofs.YtmnpbpfeoackiaaDoor

namespace Go.Proofs.YtmnpbpfeoackiaaDoor
open Go.RowKit

theorem atE_good {bs : List (List UInt8)} {i : Nat} {mk m k : Int} {t : List UInt8} (h : atE bs (i : Nat) mk = (⟨m, k, t⟩, true)) :
    bs[i]? = some (frBytes m.toNat k.toNat t) ∧ m = mk ∧ (0 ≤ k ∧ k ≤ 255) ∧ t.length ≤ 110 ∧ 1 ≤ m ∧ m < 9223372036854775808 := by
  by_cases hl : i < bs.length
  · rw [atE_in hl] at h
    obtain ⟨s, hs⟩ : ∃ s, bs[i] = s := ⟨_, rfl⟩
    rw [List.getElem?_eq_getElem hl, hs]
    rw [hs] at h
    have h1 := congrArg Prod.fst h
    have h2 := congrArg Prod.snd h
    dsimp only at h1 h2
    rw [Bool.and_eq_true, decide_eq_true_eq] at h2
    have hg : frGood s := by
      have q := h2.1
      unfold frGet at q
      split at q
      · assumption
      · cases q
    rw [show frGet s = (frOf s, true) from if_pos hg] at h1 h2
    dsimp only at h1 h2
    have hp := frPut_of hg
    rw [h1] at hp h2
    by_cases hb : m < 1 ∨ k < 0 ∨ 255 < k
    · rw [frPut_arg hb] at hp
      have := congrArg Prod.snd hp
      cases this
    · have hlen : t.length ≤ 110 := by
        have := frGet_len s
        rw [show frGet s = (frOf s, true) from if_pos hg, h1] at this
        exact this
      rw [frPut_ok hb (by dsimp only; omega)] at hp
      have hm : m < 9223372036854775808 := by
        have e : m = ((numN (s.take 8) : Nat) : Int) := by
          have := congrArg Frm.m h1
          exact this.symm
        have h8 : numN (s.take 8) < 9223372036854775808 := (num8_small (by rw [List.length_take]; have := hg.1; omega)).2 (by rw [getD_take _ 8 7 (by omega)]; exact hg.2.2.1)
        omega
      refine ⟨by rw [show frBytes m.toNat k.toNat t = s from congrArg Prod.fst hp], h2.2, by omega, hlen, by omega, hm⟩
  · rw [atE_out (by omega)] at h
    cases h
/-- The blocks are those of the text where its parts are what was read, and the other way round. -/
theorem frames_parts {bs : List (List UInt8)} {P ix N : Nat} {gen kd : Int} {T : List (List UInt8)} {tx : List UInt8} (hT : T.length = N) (hl : (partsE tx).length = N)
    (h : ∀ k (hk : k < N), atE bs ((P + k : Nat) : Int) (markN gen ((ix : Int) + k) (k == 0)) = (⟨markN gen ((ix : Int) + k) (k == 0), if k = 0 then kd else 0, T[k]'(by omega)⟩, true)) :
    partsE tx = T ↔ ∀ k, k < N → (framesE gen ix kd tx)[k]? = bs[P + k]? := by
  have hf : ∀ k (hk : k < N), (framesE gen ix kd tx)[k]? = some (frBytes (markN gen ((ix : Int) + k) (k == 0)).toNat (if k = 0 then kd else 0).toNat ((partsE tx)[k]'(by omega))) := by
    intro k hk
    rw [framesE_get (by omega)]
    unfold frameE
    by_cases h0 : k = 0
    · rw [if_pos h0, if_pos h0]
    · rw [if_neg h0, if_neg h0]; rfl
  constructor
  · intro e k hk
    rw [hf k hk, (atE_good (h k hk)).1]
    congr 2
    exact List.getElem_of_eq e _
  · intro e
    refine List.ext_getElem (by omega) fun k h1 h2 => ?_
    have hk : k < N := by omega
    have q := e k hk
    obtain ⟨a1, a2, a3, a4, a5, a6⟩ := atE_good (h k hk)
    rw [hf k hk, a1] at q
    have hm : (markN gen ((ix : Int) + k) (k == 0)).toNat < 9223372036854775808 := by omega
    have hk2 : (if k = 0 then kd else 0).toNat ≤ 255 := by omega
    have hp := partsE_le tx _ (List.getElem_mem h1)
    have e1 := frOf_bytes hm hk2 hp
    rw [Option.some.inj q, frOf_bytes hm hk2 a4] at e1
    exact (congrArg Frm.t e1).symm
end Go.Proofs.YtmnpbpfeoackiaaDoor
