/-
  Package frame: Get. No condition. · Package frame: Get of a block. Condition: the block has 128 bytes. · Package frame's reference: Get; and package frame: Tail. No condition.
-/
import Derived.Test.YtmnpbpfeoackiaaDoorMhL
import Derived.Test.YtmnpbpfeoackiaaDoorMhK
import Derived.Deep.RegionHeld3
import Derived.Laws.StructEq
import Derived.Test.YtmnpbpfeoackiaaDoorMhF
namespace Go.Proofs.YtmnpbpfeoackiaaDoor
open Go.RowKit

theorem ofL_getD (s : List UInt8) (i : Nat) (h : i < (ofL s).size) : (ofL s)[i]'h = s.getD i 0 := by
  have h' : i < s.length := by rw [← size_ofL s]; exact h
  rw [toL_get _ _ h, List.getD_eq_getElem?_getD, List.getElem?_eq_getElem h']
  simp [toL_ofL]

theorem ieq_f {a b : Int} (h : a ≠ b) : (a == b) = false := by simpa using h
def frEq (a b : Frm) : Bool := a.m == b.m && (a.k == b.k && a.t == b.t)
theorem frEq_self (a : Frm) : frEq a a = true := by simp [frEq]
theorem frEq_iff (a b : Frm) : frEq a b = true ↔ a = b := by
  obtain ⟨m, k, t⟩ := a
  obtain ⟨m', k', t'⟩ := b
  simp [frEq]
set_option maxRecDepth 1000000 in
theorem fr_fields : Tryd.prog.fieldsOf 120 = (match Tryd.prog.underlying 120 with | some (.struct fs) => fs | _ => #[]) := rfl
set_option maxRecDepth 100000 in
theorem fr_eqIn (a b : Frm) (W : World) : (Op.equalIn 10000 120 (frV a) (frV b)).run Tryd.prog W = .ok (frEq a b) W := by
  obtain ⟨m, k, t⟩ := a
  obtain ⟨m', k', t'⟩ := b
  have hu : Tryd.prog.underlying 120 = some (.struct (Tryd.prog.fieldsOf 120)) := by rw [fr_fields, Tryd.underlying120]
  rw [run_equalIn_agg W 9999 _ _ _ hu (by kernel_rfl), fr_fields, Tryd.underlying120]
  have hs : Tryd.prog.underlying 9 = some .string := Tryd.underlying9
  have hi : Tryd.prog.underlying 3 = some (.int .i64) := Tryd.underlying3
  have h1 := fun (W : World) => run_equalIn_string (P := Tryd.prog) W 9998 _ (ofL t) (ofL t') hs
  have h2 := fun (W : World) (a b : Int) => run_equalIn_int (P := Tryd.prog) W 9998 _ .i64 .i64 a b hi
  cases q1 : (m == m')
  · simp [Op.eqFields, go_sem, q1, frEq]
  · cases q2 : (k == k')
    · simp [Op.eqFields, go_sem, q1, q2, frEq]
    · cases q3 : (t == t')
      · simp [Op.eqFields, go_sem, q1, q2, q3, frEq]
      · simp [Op.eqFields, go_sem, q1, q2, q3, frEq]
theorem fr_eql (a b : Frm) (W : World) : (binOp .eql 120 (frV a) (frV b)).run Tryd.prog W = .ok (.bool (frEq a b)) W := by
  rw [run_eql_struct, fr_eqIn]; rfl
theorem fr_neq (a b : Frm) (W : World) : (binOp .neq 120 (frV a) (frV b)).run Tryd.prog W = .ok (.bool (!frEq a b)) W := by
  rw [run_neq_struct, fr_eqIn]; rfl

/-- What the program reads before it tests. -/
def frRaw (s : List UInt8) : Frm := ⟨wrap64 ((numN (s.take 8) : Nat) : Int), ((s.getD 8 0).toNat : Int), (s.drop 10).take (min (s.getD 9 0).toNat 110)⟩
theorem frRaw_good {s : List UInt8} (h : frGood s) : frRaw s = frOf s := by
  unfold frRaw frOf
  have h8 : numN (s.take 8) < 9223372036854775808 := (num8_small (by rw [List.length_take]; have := h.1; omega)).2 (by rw [getD_take _ 8 7 (by omega)]; exact h.2.2.1)
  rw [IntWalk.wrap64_in _ (by omega)]
theorem frRaw_bad {s : List UInt8} (hl : s.length = 128) (h : ¬ frGood s) : (frPut (frRaw s)).2 ≠ 0 ∨ (frPut (frRaw s)).1 ≠ s := by
  by_cases h8 : numN (s.take 8) < 9223372036854775808
  · have e : frRaw s = frOf s := by unfold frRaw frOf; rw [IntWalk.wrap64_in _ (by omega)]
    rw [e]
    by_cases h0 : (frPut (frOf s)).2 = 0
    · right
      intro h1
      exact h ((frGood_iff (by unfold frOf; dsimp only; omega)).1 ⟨h0, h1⟩)
    · exact .inl h0
  · left
    have hlt : numN (s.take 8) < 18446744073709551616 := by
      have := numN_lt (s.take 8)
      rw [List.length_take, hl] at this
      exact this
    rw [frPut_arg (.inl (by
      show wrap64 _ < 1
      unfold wrap64
      omega))]
    decide

theorem fset3 {w : World} {b : Nat} {f : Frm} (h : FrB w b f) (g : Frm) : FrB (((w.setCell ⟨b, 0, none⟩ (.int .i64 g.m)).setCell ⟨b, 1, none⟩ (.int .i64 g.k)).setCell ⟨b, 2, none⟩ (.string (ofL g.t))) b g :=
  heap_setCell_same _ _ 2 _ _ _ (heap_setCell_same _ _ 1 _ _ _ (heap_setCell_same w b 0 _ _ _ h))

set_option maxRecDepth 100000 in
set_option maxHeartbeats 2000000 in
theorem fget_short (s : List UInt8) (w : World) (hs : s.length ≠ 128) :
    Calls Tryd.prog 109 #[.string (ofL s)] w fun e w' => e = .returned (.tuple #[frV ⟨0, 0, []⟩, .bool false]) ∧ Ext w w' := by
  have hsz : (ofL s).size = s.length := size_ofL _
  have t : ((s.length : Int) != 128) = true := by rw [bne_iff_ne]; omega
  obtain ⟨w1, hw1, hE1, hz1, b1⟩ := fr_box w ⟨0, 0, []⟩
  have HW1 := Lib.hid hw1; clear hw1 hs
  obtain ⟨c0, c1, c2, cf⟩ := b1.cells
  dsimp only at c0 c1 c2
  go_enter Tryd.func109, Tryd.ntmps109
  go_upto_region 1 with fail
  rw [show (⟨#[]⟩ : ByteArray) = ofL [] from rfl, ← HW1.out]
  clear HW1
  go_wp2
  have z4 := fset3 b1 ⟨0, 0, []⟩
  have zE := ((hE1.st (p := ⟨w.heap.size, 0, none⟩) (by simp) (.int .i64 0)).st (p := ⟨w.heap.size, 1, none⟩) (by simp) (.int .i64 0)).st (p := ⟨w.heap.size, 2, none⟩) (by simp) (.string ⟨#[]⟩)
  revert z4 zE
  dsimp only
  rw [show ofL [] = (⟨#[]⟩ : ByteArray) from rfl]
  generalize ((w1.setCell ⟨w.heap.size, 0, none⟩ (.int .i64 0)).setCell ⟨w.heap.size, 1, none⟩ (.int .i64 0)).setCell ⟨w.heap.size, 2, none⟩ (.string ⟨#[]⟩) = wz
  intro z4 zE
  obtain ⟨f0, f1, f2, _⟩ := z4.cells
  refine bodyPost_ret (v := .tuple #[frV ⟨0, 0, []⟩, .bool false]) (by simp [results, Tryd.results109, go_sem, f0, f1, f2]) rfl ?_
  exact ⟨rfl, zE⟩

end Go.Proofs.YtmnpbpfeoackiaaDoor

namespace Go.Proofs.YtmnpbpfeoackiaaDoor
open Go.RowKit

set_option maxRecDepth 100000 in
set_option maxHeartbeats 2000000 in
theorem fget_long (s : List UInt8) (w : World) (hs : s.length = 128) :
    Calls Tryd.prog 109 #[.string (ofL s)] w fun e w' => e = .returned (.tuple #[frV (frGet s).1, .bool (frGet s).2]) ∧ Ext w w' := by
  have hsz : (ofL s).size = 128 := by rw [size_ofL]; exact hs
  obtain ⟨w1, hw1, hE1, hz1, b1⟩ := fr_box w ⟨0, 0, []⟩
  have HW1 := Lib.hid hw1; clear hw1 hz1
  obtain ⟨c9, hc9⟩ : ∃ c, s.getD 9 0 = c := ⟨_, rfl⟩
  obtain ⟨c8, hc8⟩ : ∃ c, s.getD 8 0 = c := ⟨_, rfl⟩
  have g9 : ∀ h, (ofL s)[9]'h = c9 := fun h => by rw [← hc9, ofL_getD]
  have g8 : ∀ h, (ofL s)[8]'h = c8 := fun h => by rw [← hc8, ofL_getD]
  obtain ⟨n9, hn9⟩ : ∃ n, min c9.toNat 110 = n := ⟨_, rfl⟩
  have hn : n9 ≤ 110 := by omega
  have hc9' := c9.toNat_lt
  have hc8' := c8.toNat_lt
  have x8 : (ofL s).extract 0 8 = ofL (s.take 8) := by rw [ofL_extract]; rfl
  have xt : (ofL s).extract 10 (10 + n9) = ofL ((s.drop 10).take n9) := by rw [ofL_extract, show 10 + n9 - 10 = n9 by omega]
  have l8 : (s.take 8).length = 8 := by rw [List.length_take, hs]; rfl
  have hF : frRaw s = ⟨wrap64 ((numN (s.take 8) : Nat) : Int), (c8.toNat : Int), (s.drop 10).take n9⟩ := by
    unfold frRaw; rw [hc9, hc8, hn9]
  obtain ⟨q, hq⟩ : ∃ q, 10 + n9 = q := ⟨_, rfl⟩
  rw [hq] at xt
  have d6 : (10 : Int) + (n9 : Int) = (q : Int) := by omega
  have d1 : (0 : Int) ≤ (q : Int) := by omega
  have d2 : (10 : Int) ≤ (q : Int) := by omega
  have d3 : (q : Int) ≤ 128 := by omega
  have d7 : 10 ≤ q := by omega
  have d8 : q ≤ 128 := by omega
  have e1 : -9223372036854775808 ≤ (c9.toNat : Int) ∧ (c9.toNat : Int) ≤ 9223372036854775807 := by omega
  have e2 : -9223372036854775808 ≤ (c8.toNat : Int) ∧ (c8.toNat : Int) ≤ 9223372036854775807 := by omega
  have e3 : -9223372036854775808 ≤ 10 + (n9 : Int) ∧ 10 + (n9 : Int) ≤ 9223372036854775807 := by omega
  have e4 : min (c9.toNat : Int) 110 = (n9 : Int) := by omega
  have w8 : wrap64 (c8.toNat : Int) = (c8.toNat : Int) := IntWalk.wrap64_in _ e2
  have hmin : min (wrap64 (c9.toNat : Int)) 110 = (n9 : Int) := by rw [IntWalk.wrap64_in _ e1]; exact e4
  have d4 : wrap64 (10 + (n9 : Int)) = (q : Int) := by rw [IntWalk.wrap64_in _ e3]; exact d6
  have d5 : IntKind.i64.wrap (10 + (n9 : Int)) = (q : Int) := by rw [IntWalk.i64_in _ e3]; exact d6
  have w8i : IntKind.i64.wrap (c8.toNat : Int) = (c8.toNat : Int) := IntWalk.i64_in _ e2
  have wqi : IntKind.i64.wrap (q : Int) = (q : Int) := by rw [← d6]; exact IntWalk.i64_in _ e3
  clear hq hn9 e1 e2 e3 e4 hc9' hc8'
  obtain ⟨T, hT⟩ : ∃ T, (s.drop 10).take n9 = T := ⟨_, rfl⟩
  obtain ⟨M, hM⟩ : ∃ M, wrap64 ((numN (s.take 8) : Nat) : Int) = M := ⟨_, rfl⟩
  rw [hT] at xt hF
  have HM := Lib.hid hM
  rw [hM] at hF
  clear hM hT
  go_enter Tryd.func109, Tryd.ntmps109
  go_upto_region 1 with fail
  rw [show (⟨#[]⟩ : ByteArray) = ofL [] from rfl, ← HW1.out]
  clear HW1
  go_upto_region 4 with fail
  obtain ⟨B, hB⟩ : ∃ B, B = w1.drew.alloc (.cells (frCells ⟨0, 0, []⟩) 120) := ⟨_, rfl⟩
  have EB : Ext w1 B := by rw [hB]; exact (Ext.rfl' w1).dr.al _
  have bB : FrB B w1.heap.size ⟨0, 0, []⟩ := by rw [hB]; exact heap_alloc_new w1.drew _
  obtain ⟨C, hC⟩ : ∃ C, C = ((B.setCell ⟨w1.heap.size, 0, none⟩ (.int .i64 M)).setCell ⟨w1.heap.size, 1, none⟩ (.int .i64 c8.toNat)).setCell ⟨w1.heap.size, 2, none⟩ (.string (ofL T)) := ⟨_, rfl⟩
  have EC : Ext w1 C := by rw [hC]; exact ((EB.st (by simp) _).st (by simp) _).st (by simp) _
  have bC : FrB C w1.heap.size ⟨M, c8.toNat, T⟩ := by rw [hC]; exact fset3 bB ⟨M, c8.toNat, T⟩
  obtain ⟨wOf, q0, q1, q2, qn⟩ : ∃ wOf : (Nat → Bool) → World, (∀ L, L 11 = false → wOf L = w1.drew) ∧ (∀ L, L 11 = true → L 12 = false → wOf L = B) ∧ (∀ L, L 11 = true → L 12 = true → wOf L = C) ∧ (∀ L i, i ≠ 11 → i ≠ 12 → wOf (setL L i) = wOf L) := by
    refine ⟨fun L => if L 11 = false then w1.drew else if L 12 = false then B else C, fun L h => if_pos h, fun L h h2 => ?_, fun L h h2 => ?_, fun L i h h2 => ?_⟩
    · dsimp only; rw [if_neg (by rw [h]; simp), if_pos h2]
    · dsimp only; rw [if_neg (by rw [h]; simp), if_neg (by rw [h2]; simp)]
    · dsimp only; rw [setL_ne (Ne.symm h), setL_ne (Ne.symm h2)]
  refine wp_region_states (fun k => match k with
    | 0 => (.string (ofL s))
    | 1 => (.string (ofL (s.take 8)))
    | 2 => (.int .i64 M)
    | 3 => (.string (ofL s))
    | 4 => (.int .u8 c8.toNat)
    | 5 => (.int .i64 c8.toNat)
    | 6 => (.string (ofL s))
    | 7 => (.int .i64 n9)
    | 8 => (.int .i64 q)
    | 9 => (.string (ofL T))
    | 10 => (frV ⟨M, c8.toNat, T⟩)
    | 11 => (.pointer (some ⟨w1.heap.size, 0, none⟩))
    | 12 => undef
    | _ => undef) wOf (by kernel_rfl) (by kernel_rfl) (by kernel_rfl) (q0 _ rfl) ?_ ?_
  · refine localsS_cons (fun u L h0 hcl hd => ⟨rfl, ?_⟩) ?_
    · left
      rw [qn L 0 (by decide) (by decide)]
      refine Eq.trans (b := .ok (.value (.string (ofL s))) (wOf L)) ?_ rfl
      generalize wOf L = W
      clear hcl hd q0 q1 q2 qn
      go_simp
    refine localsS_cons (fun u L h0 hcl hd => ⟨rfl, ?_⟩) ?_
    · left
      rw [qn L 1 (by decide) (by decide)]
      have h1 : u 0 = _ := (hd 0 (by kernel_rfl)).2
      refine Eq.trans (b := .ok (.value (.string (ofL (s.take 8)))) (wOf L)) ?_ rfl
      generalize wOf L = W
      clear hcl hd q0 q1 q2 qn
      go_simp
    refine localsS_cons (fun u L h0 hcl hd => ⟨rfl, ?_⟩) ?_
    · right; right
      rw [qn L 2 (by decide) (by decide)]
      have h2 : u 1 = _ := (hd 1 (by kernel_rfl)).2
      refine ⟨127, #[.string (ofL (s.take 8))], by go_simp, (number_any (s.take 8) _ l8).mono ?_⟩
      rintro e9 W9 ⟨rfl, rfl⟩
      exact ⟨by rw [HM.out]; rfl, rfl⟩
    refine localsS_cons (fun u L h0 hcl hd => ⟨rfl, ?_⟩) ?_
    · left
      rw [qn L 3 (by decide) (by decide)]
      refine Eq.trans (b := .ok (.value (.string (ofL s))) (wOf L)) ?_ rfl
      generalize wOf L = W
      clear hcl hd q0 q1 q2 qn
      go_simp
    refine localsS_cons (fun u L h0 hcl hd => ⟨rfl, ?_⟩) ?_
    · left
      rw [qn L 4 (by decide) (by decide)]
      have h4 : u 3 = _ := (hd 3 (by kernel_rfl)).2
      refine Eq.trans (b := .ok (.value (.int .u8 c8.toNat)) (wOf L)) ?_ rfl
      generalize wOf L = W
      clear hcl hd q0 q1 q2 qn
      go_simp
    refine localsS_cons (fun u L h0 hcl hd => ⟨rfl, ?_⟩) ?_
    · left
      rw [qn L 5 (by decide) (by decide)]
      have h5 : u 4 = _ := (hd 4 (by kernel_rfl)).2
      refine Eq.trans (b := .ok (.value (.int .i64 c8.toNat)) (wOf L)) ?_ rfl
      generalize wOf L = W
      clear hcl hd q0 q1 q2 qn
      go_simp
    refine localsS_cons (fun u L h0 hcl hd => ⟨rfl, ?_⟩) ?_
    · left
      rw [qn L 6 (by decide) (by decide)]
      refine Eq.trans (b := .ok (.value (.string (ofL s))) (wOf L)) ?_ rfl
      generalize wOf L = W
      clear hcl hd q0 q1 q2 qn
      go_simp
    refine localsS_cons (fun u L h0 hcl hd => ⟨rfl, ?_⟩) ?_
    · left
      rw [qn L 7 (by decide) (by decide)]
      refine Eq.trans (b := .ok (.value (.int .i64 n9)) (wOf L)) ?_ rfl
      generalize wOf L = W
      clear hcl hd q0 q1 q2 qn
      go_simp
    refine localsS_cons (fun u L h0 hcl hd => ⟨rfl, ?_⟩) ?_
    · left
      rw [qn L 8 (by decide) (by decide)]
      have h8 : u 7 = _ := (hd 7 (by kernel_rfl)).2
      refine Eq.trans (b := .ok (.value (.int .i64 q)) (wOf L)) ?_ rfl
      generalize wOf L = W
      clear hcl hd q0 q1 q2 qn
      go_simp
    refine localsS_cons (fun u L h0 hcl hd => ⟨rfl, ?_⟩) ?_
    · left
      rw [qn L 9 (by decide) (by decide)]
      have h7 : u 6 = _ := (hd 6 (by kernel_rfl)).2
      have h9 : u 8 = _ := (hd 8 (by kernel_rfl)).2
      refine Eq.trans (b := .ok (.value (.string (ofL T))) (wOf L)) ?_ rfl
      generalize wOf L = W
      clear hcl hd q0 q1 q2 qn
      go_simp
    refine localsS_cons (fun u L h0 hcl hd => ⟨rfl, ?_⟩) ?_
    · left
      rw [qn L 10 (by decide) (by decide)]
      have h3 : u 2 = _ := (hd 2 (by kernel_rfl)).2
      have h6 : u 5 = _ := (hd 5 (by kernel_rfl)).2
      have h10 : u 9 = _ := (hd 9 (by kernel_rfl)).2
      refine Eq.trans (b := .ok (.value (frV ⟨M, c8.toNat, T⟩)) (wOf L)) ?_ rfl
      generalize wOf L = W
      clear hcl hd q0 q1 q2 qn
      go_simp
    refine localsS_cons (fun u L h0 hcl hd => ⟨rfl, ?_⟩) ?_
    · left
      have n12 : L 12 = false := by
        cases h : L 12 with
        | false => rfl
        | true => rw [hcl 12 11 h (by kernel_rfl)] at h0; cases h0
      rw [q0 L h0, q1 (setL L 11) setL_eq (by rw [setL_ne (by decide)]; exact n12), hB]
      refine Eq.trans (b := .ok (.value (.pointer (some ⟨w1.heap.size, 0, none⟩))) (w1.drew.alloc (.cells (frCells ⟨0, 0, []⟩) 120))) ?_ rfl
      go_simp
      rfl
    refine localsS_cons (fun u L h0 hcl hd => ⟨rfl, ?_⟩) localsS_nil
    · right; left
      refine ⟨rfl, ?_⟩
      have h11 : u 11 = _ := (hd 11 (by kernel_rfl)).2
      have h10 : u 10 = _ := (hd 10 (by kernel_rfl)).2
      have y11 := (hd 11 (by kernel_rfl)).1
      rw [q1 L y11 h0, q2 (setL L 12) (by rw [setL_ne (by decide)]; exact y11) setL_eq, hC]
      obtain ⟨k0, k1, k2, kf⟩ := bB.cells
      clear hcl hd q0 q1 q2 qn hB hC
      go_simp
  · intro u L hV
    have h11 : u 11 = _ := (hV 11 (by decide)).2
    have hL : wOf L = C := q2 L (hV 11 (by decide)).1 (hV 12 (by decide)).1
    rw [hL]
    have lt1 := b1.lt
    have bR := b1.ext EC
    have ER := hE1.tr EC
    clear hV hL q0 q1 q2 qn hB hC EB bB EC hE1 b1
    have hb := frRaw_bad hs
    have hr := frRaw_good (s := s)
    have hp : frGood s → frPut (frOf s) = (s, 0) := frPut_of
    have hmk : frGood s → (frOf s).m ≠ 0 := fun h => by unfold frOf; dsimp only; have := h.2.2.2.2.2; omega
    rw [hF] at hb hr
    obtain ⟨F, hFF⟩ : ∃ F : Frm, (⟨M, (c8.toNat : Int), T⟩ : Frm) = F := ⟨_, rfl⟩
    have hFm : F.m < 9223372036854775808 := by
      rw [← hFF, ← HM.out]
      dsimp only
      unfold wrap64
      omega
    rw [hFF] at hb hr bC
    clear hF d1 d2 d3 d4 d5 d6 d7 d8 w8 w8i wqi hmin xt x8 g8 g9 l8 HM hFF
    obtain ⟨k0, k1, k2, kf⟩ := bC.cells
    by_cases hg : frGood s
    · have hG : frGet s = (frOf s, true) := if_pos hg
      have hr := hr hg
      have hp := hp hg
      have hmk := hmk hg
      rw [← hr] at hp hmk hG
      have HG := Lib.hid hG
      clear hb hr hg hG
      have HP := Lib.hid hp; clear hp
      go_upto_region 5 with fail
      go_wp2_with fail
      refine (fput F _ hFm).mono ?_
      rintro e w3 ⟨rfl, E3⟩
      rw [HP.out]
      have bC := bC.ext E3
      have bR := bR.ext E3
      have ER := ER.tr E3
      clear k0 k1 k2 kf
      obtain ⟨k0, k1, k2, kf⟩ := bC.cells
      obtain ⟨r0, r1, r2, rf⟩ := bR.cells
      dsimp only at r0 r1 r2
      have hn := fun W => fr_neq F ⟨0, 0, []⟩ W
      rw [show frEq F ⟨0, 0, []⟩ = false from by
        cases h : frEq F ⟨0, 0, []⟩ with
        | false => rfl
        | true => exact (hmk (congrArg Frm.m ((frEq_iff _ _).1 h))).elim] at hn
      have e1 : (ofL s == ofL s) = true := by rw [beq_toListBytes]; simp
      have e2 : (ofL s != ofL s) = false := by rw [bne, e1]; rfl
      go_upto_region 8 with fail
      go_region
      have z4 := fset3 bR F
      have zE := ((ER.st (p := ⟨w.heap.size, 0, none⟩) (by simp) (.int .i64 F.m)).st (p := ⟨w.heap.size, 1, none⟩) (by simp) (.int .i64 F.k)).st (p := ⟨w.heap.size, 2, none⟩) (by simp) (.string (ofL F.t))
      go_wp2
      revert z4 zE
      generalize ((w3.setCell ⟨w.heap.size, 0, none⟩ (.int .i64 F.m)).setCell ⟨w.heap.size, 1, none⟩ (.int .i64 F.k)).setCell ⟨w.heap.size, 2, none⟩ (.string (ofL F.t)) = wz
      intro z4 zE
      have z5 : FrB wz.drew w.heap.size F := z4
      obtain ⟨f0, f1, f2, _⟩ := z5.cells
      refine bodyPost_ret (v := .tuple #[frV F, .bool true]) (by simp [results, Tryd.results109, go_sem, f0, f1, f2]) rfl ?_
      rw [HG.out]
      exact ⟨rfl, zE.dr⟩
    · have HG := Lib.hid (show frGet s = (⟨0, 0, []⟩, false) from if_neg hg)
      have hb := hb hg
      clear hr hp hmk hg
      obtain ⟨p, er, hpe⟩ : ∃ p er, frPut F = (p, er) := ⟨_, _, rfl⟩
      rw [hpe] at hb
      have HP := Lib.hid hpe; clear hpe
      go_upto_region 5 with fail
      go_wp2_with fail
      refine (fput F _ hFm).mono ?_
      rintro e w3 ⟨rfl, E3⟩
      rw [HP.out]
      have bC := bC.ext E3
      have bR := bR.ext E3
      have ER := ER.tr E3
      clear k0 k1 k2 kf
      obtain ⟨r0, r1, r2, rf⟩ := bR.cells
      dsimp only at r0 r1 r2 hb
      have z4 := fset3 bR ⟨0, 0, []⟩
      have zE := ((ER.st (p := ⟨w.heap.size, 0, none⟩) (by simp) (.int .i64 0)).st (p := ⟨w.heap.size, 1, none⟩) (by simp) (.int .i64 0)).st (p := ⟨w.heap.size, 2, none⟩) (by simp) (.string ⟨#[]⟩)
      rw [show (.string (ofL (⟨0, 0, []⟩ : Frm).t) : Value) = .string ⟨#[]⟩ from rfl] at z4
      have case2 : (er == 0) = false ∨ ((er == 0) = true ∧ (ofL p == ofL s) = false ∧ (p == s) = false) := by
        rcases hb with h | h
        · exact .inl (ieq_f h)
        · by_cases he : er = 0
          · right
            refine ⟨by simp [he], ?_, ?_⟩
            · rw [beq_toListBytes, toList_eq_toL, toList_eq_toL, toL_ofL, toL_ofL]
              simpa using h
            · simpa using h
          · exact .inl (ieq_f he)
      clear hb
      rcases case2 with t1 | ⟨t1, t2, t3⟩
      · have t1' : (er != 0) = true := by rw [bne, t1]; rfl
        go_wp2
        revert z4 zE
        generalize ((w3.setCell ⟨w.heap.size, 0, none⟩ (.int .i64 0)).setCell ⟨w.heap.size, 1, none⟩ (.int .i64 0)).setCell ⟨w.heap.size, 2, none⟩ (.string ⟨#[]⟩) = wz
        intro z4 zE
        obtain ⟨f0, f1, f2, _⟩ := z4.cells
        refine bodyPost_ret (v := .tuple #[frV ⟨0, 0, []⟩, .bool false]) (by simp [results, Tryd.results109, go_sem, f0, f1, f2]) rfl ?_
        rw [HG.out]
        exact ⟨rfl, zE⟩
      · have t1' : (er != 0) = false := by rw [bne, t1]; rfl
        have t2' : (ofL p != ofL s) = true := by rw [bne, t2]; rfl
        go_wp2
        revert z4 zE
        generalize ((w3.setCell ⟨w.heap.size, 0, none⟩ (.int .i64 0)).setCell ⟨w.heap.size, 1, none⟩ (.int .i64 0)).setCell ⟨w.heap.size, 2, none⟩ (.string ⟨#[]⟩) = wz
        intro z4 zE
        obtain ⟨f0, f1, f2, _⟩ := z4.cells
        refine bodyPost_ret (v := .tuple #[frV ⟨0, 0, []⟩, .bool false]) (by simp [results, Tryd.results109, go_sem, f0, f1, f2]) rfl ?_
        rw [HG.out]
        exact ⟨rfl, zE⟩
end Go.Proofs.YtmnpbpfeoackiaaDoor

namespace Go.Proofs.YtmnpbpfeoackiaaDoor
open Go.RowKit

def frTail (s : List UInt8) : Int × Bool := if s.length ≠ 128 then (0, false) else if wrap64 ((numN (s.drop 120) : Nat) : Int) < 0 then (0, false) else (wrap64 ((numN (s.drop 120) : Nat) : Int), true)


theorem frGet_bad {s : List UInt8} (h : ¬ frGood s) : frGet s = (⟨0, 0, []⟩, false) := if_neg h
theorem frGet_good {s : List UInt8} (h : frGood s) : frGet s = (frOf s, true) := if_pos h

set_option maxRecDepth 100000 in
set_option maxHeartbeats 2000000 in
theorem rfget (s : List UInt8) (w : World) :
    Calls Tryd.prog 85 #[.string (ofL s)] w fun e w' => e = .returned (.tuple #[.int .i64 (frGet s).1.m, .int .i64 (frGet s).1.k, .string (ofL (frGet s).1.t), .bool (frGet s).2]) ∧ Ext w w' := by
  have hsz : (ofL s).size = s.length := size_ofL _
  by_cases hl : s.length = 128
  · rw [hl] at hsz
    have x8 : (ofL s).extract 0 8 = ofL (s.take 8) := by rw [ofL_extract]; rfl
    have x120 : (ofL s).extract 120 128 = ofL (s.drop 120) := by
      rw [ofL_extract, List.take_of_length_le (by rw [List.length_drop]; omega)]
    have l8 : (s.take 8).length = 8 := by rw [List.length_take, hl]; rfl
    obtain ⟨c7, hc7⟩ : ∃ c, s.getD 7 0 = c := ⟨_, rfl⟩
    obtain ⟨c8, hc8⟩ : ∃ c, s.getD 8 0 = c := ⟨_, rfl⟩
    obtain ⟨c9, hc9⟩ : ∃ c, s.getD 9 0 = c := ⟨_, rfl⟩
    have g7 : ∀ h, (ofL s)[7]'h = c7 := fun h => by rw [← hc7, ofL_getD]
    have g8 : ∀ h, (ofL s)[8]'h = c8 := fun h => by rw [← hc8, ofL_getD]
    have g9 : ∀ h, (ofL s)[9]'h = c9 := fun h => by rw [← hc9, ofL_getD]
    by_cases hAB : s.take 8 = s.drop 120
    · by_cases h7 : 127 < c7.toNat
      · rw [frGet_bad (fun h => by have := h.2.2.1; rw [hc7] at this; omega)]
        have e1 : (ofL (s.take 8) == ofL (s.drop 120)) = true := by rw [hAB, beq_toListBytes]; simp
        have e2 : (ofL (s.take 8) != ofL (s.drop 120)) = false := by rw [bne, e1]; rfl
        have e3 : (s.take 8 == s.drop 120) = true := by rw [hAB]; simp
        have d7 : decide ((127 : Int) < c7.toNat) = true := by simp; omega
        clear hAB h7 hc7 hc8 hc9 l8
        go_enter Tryd.func85, Tryd.ntmps85
        go_upto_region 1 with fail
        go_quiet (fail)
        go_wp2
        refine bodyPost_ret (v := .tuple #[.int .i64 0, .int .i64 0, .string (ofL []), .bool false]) (by simp [results, Tryd.results85, go_sem]; rfl) rfl ?_
        exact ⟨rfl, (Ext.rfl' _).drN _⟩
      · have e1 : (ofL (s.take 8) == ofL (s.drop 120)) = true := by rw [hAB, beq_toListBytes]; simp
        have e2 : (ofL (s.take 8) != ofL (s.drop 120)) = false := by rw [bne, e1]; rfl
        have e3 : (s.take 8 == s.drop 120) = true := by rw [hAB]; simp
        have d7 : decide ((127 : Int) < c7.toNat) = false := by simp; omega
        by_cases h9 : 110 < c9.toNat
        · rw [frGet_bad (fun h => by have := h.2.2.2.1; rw [hc9] at this; omega)]
          have d9 : decide ((110 : Int) < c9.toNat) = true := by simp; omega
          clear hAB h7 hc7 hc8 hc9 l8 h9
          go_enter Tryd.func85, Tryd.ntmps85
          go_upto_region 1 with fail
          go_quiet (fail)
          go_wp2
          refine bodyPost_ret (v := .tuple #[.int .i64 0, .int .i64 0, .string (ofL []), .bool false]) (by simp [results, Tryd.results85, go_sem]; rfl) rfl ?_
          exact ⟨rfl, (Ext.rfl' _).drN _⟩
        · have d9 : decide ((110 : Int) < c9.toNat) = false := by simp; omega
          have h7' : ((s.take 8).getD 7 0).toNat ≤ 127 := by rw [getD_take _ 8 7 (by omega), hc7]; omega
          obtain ⟨n9, hn9⟩ : ∃ n, c9.toNat = n := ⟨_, rfl⟩
          have hn : n9 ≤ 110 := by omega
          have w9 : wrap64 (c9.toNat : Int) = (n9 : Int) := by rw [IntWalk.wrap64_in _ (by omega), hn9]
          have w8 : wrap64 (c8.toNat : Int) = (c8.toNat : Int) := IntWalk.wrap64_in _ (by have := c8.toNat_lt; omega)
          obtain ⟨N, hN⟩ : ∃ N, numN (s.take 8) = N := ⟨_, rfl⟩
          have HAB := Lib.hid hAB
          have HC7 := Lib.hid hc7
          have H7 := Lib.hid h7
          have HC9 := Lib.hid hc9
          have HC8 := Lib.hid hc8
          have HL := Lib.hid hl
          have HN9 := Lib.hid hn9
          have HNN := Lib.hid hN
          clear hAB h7 hc7 hc8 hc9 h9 hl hn9 hN
          go_enter Tryd.func85, Tryd.ntmps85
          go_upto_region 1 with fail
          go_quiet (fail)
          go_wp2_with fail
          refine (rNumber_any (s.take 8) _ l8 h7').mono ?_
          rintro e w1 ⟨rfl, rfl⟩
          rw [HNN.out]
          clear l8 h7'
          go_wp2
          go_loop [8] (fun i => ∃ k : Nat, i = .int .i64 k ∧ 10 + n9 ≤ k ∧ k ≤ 120 ∧ ∀ j, j < k → 10 + n9 ≤ j → s.getD j 0 = 0) (fun i => 120 - (intOf i).toNat)
          case atStart => exact ⟨10 + n9, by go_num, by omega, by omega, fun j h1 h2 => absurd h1 (by omega)⟩
          case round =>
            obtain ⟨k, rfl, hk1, hk2, hz⟩ := hrel
            have HZ := Lib.hid hz; clear hz
            by_cases hk : k < 120
            · have dk : decide ((k : Int) < 120) = true := by simp; omega
              obtain ⟨c, hc⟩ : ∃ c, s.getD k 0 = c := ⟨_, rfl⟩
              have gk : ∀ h, (ofL s)[k]'h = c := fun h => by rw [← hc, ofL_getD]
              by_cases h0 : c = 0
              · have t0 : ((c.toNat : Int) != 0) = false := by rw [h0]; rfl
                have HC := Lib.hid hc; clear hc
                have H0 := Lib.hid h0; clear h0
                go_wp2
                refine ⟨⟨k + 1, by go_num, by omega, by omega, fun j h1 h2 => ?_⟩, by simp [intOf]; omega⟩
                rcases Nat.lt_succ_iff_lt_or_eq.1 h1 with h1 | rfl
                · exact HZ.out j h1 h2
                · rw [HC.out, H0.out]
              · have t0 : ((c.toNat : Int) != 0) = true := by
                  rw [bne_iff_ne]; intro h; apply h0; apply UInt8.toNat_inj.1
                  have h' : c.toNat = 0 := by omega
                  exact h'
                have hbad : frGet s = (⟨0, 0, []⟩, false) := frGet_bad (fun h => h0 (by
                  have := h.2.2.2.2.1 k hk (by rw [HC9.out, HN9.out]; omega)
                  rw [hc] at this
                  exact this))
                have HB := Lib.hid hbad
                clear hc h0 hbad
                go_wp2
                refine bodyPost_ret (v := .tuple #[.int .i64 0, .int .i64 0, .string (ofL []), .bool false]) (by simp [results, Tryd.results85, go_sem]; rfl) rfl ?_
                rw [HB.out]
                exact ⟨rfl, (Ext.rfl' _).drN _⟩
            · have dk : decide ((k : Int) < 120) = false := by simp; omega
              by_cases hN0 : N = 0
              · have hbad : frGet s = (⟨0, 0, []⟩, false) := frGet_bad (fun h => h.2.2.2.2.2 (HNN.out.trans hN0))
                have HB := Lib.hid hbad
                have tN : ((N : Int) == 0) = true := by rw [hN0]; rfl
                clear hN0 hbad
                go_wp2
                refine bodyPost_ret (v := .tuple #[.int .i64 0, .int .i64 0, .string (ofL []), .bool false]) (by simp [results, Tryd.results85, go_sem]; rfl) rfl ?_
                rw [HB.out]
                exact ⟨rfl, (Ext.rfl' _).drN _⟩
              · have hgood : frGood s := by
                  have a1 := HC7.out; have a2 := H7.out; have a3 := HC9.out; have a4 := HN9.out
                  refine ⟨HL.out, HAB.out, by rw [a1]; omega, by rw [a3, a4]; exact hn, fun i hi h10 => ?_, by rw [HNN.out]; exact hN0⟩
                  rw [a3, a4] at h10
                  exact HZ.out i (by omega) h10
                have hG : frGet s = (⟨(N : Int), (c8.toNat : Int), (s.drop 10).take n9⟩, true) := by
                  rw [frGet_good hgood]
                  unfold frOf
                  rw [HNN.out, HC8.out, HC9.out, HN9.out, Nat.min_eq_left hn]
                have HB := Lib.hid hG
                have tN : ((N : Int) == 0) = false := by simp; omega
                obtain ⟨q, hq⟩ : ∃ q, 10 + n9 = q := ⟨_, rfl⟩
                have xt : (ofL s).extract 10 q = ofL ((s.drop 10).take n9) := by rw [ofL_extract, show q - 10 = n9 by omega]
                have q4 : wrap64 (10 + (n9 : Int)) = (q : Int) := by rw [IntWalk.wrap64_in _ (by omega)]; omega
                have q5 : IntKind.i64.wrap (10 + (n9 : Int)) = (q : Int) := by rw [IntWalk.i64_in _ (by omega)]; omega
                have q6 : (10 : Int) + (n9 : Int) = (q : Int) := by omega
                have q1 : (0 : Int) ≤ (q : Int) := by omega
                have q2 : (10 : Int) ≤ (q : Int) := by omega
                have q3 : (q : Int) ≤ 128 := by omega
                have q7 : 10 ≤ q := by omega
                have q8 : q ≤ 128 := by omega
                clear hN0 hgood hG hq
                go_upto_region 12 with fail
                go_quiet (fail)
                go_wp2
                refine bodyPost_ret (v := .tuple #[.int .i64 N, .int .i64 c8.toNat, .string (ofL ((s.drop 10).take n9)), .bool true]) (by simp [results, Tryd.results85, go_sem]) rfl ?_
                rw [HB.out]
                exact ⟨rfl, (Ext.rfl' _).drN _⟩
    · rw [frGet_bad (fun h => hAB h.2.1)]
      have e3 : (s.take 8 == s.drop 120) = false := by simpa using hAB
      have e1 : (ofL (s.take 8) == ofL (s.drop 120)) = false := by rw [beq_toListBytes, toList_eq_toL, toList_eq_toL, toL_ofL, toL_ofL]; exact e3
      have e2 : (ofL (s.take 8) != ofL (s.drop 120)) = true := by rw [bne, e1]; rfl
      clear hAB hc7 hc8 hc9 l8
      go_enter Tryd.func85, Tryd.ntmps85
      go_upto_region 1 with fail
      go_quiet (fail)
      go_wp2
      refine bodyPost_ret (v := .tuple #[.int .i64 0, .int .i64 0, .string (ofL []), .bool false]) (by simp [results, Tryd.results85, go_sem]; rfl) rfl ?_
      exact ⟨rfl, (Ext.rfl' _).drN _⟩
  · rw [frGet_bad (fun h => hl h.1)]
    have t : ((s.length : Int) != 128) = true := by rw [bne_iff_ne]; omega
    clear hl
    go_enter Tryd.func85, Tryd.ntmps85
    go_upto_region 1 with fail
    go_quiet (fail)
    go_wp2
    refine bodyPost_ret (v := .tuple #[.int .i64 0, .int .i64 0, .string (ofL []), .bool false]) (by simp [results, Tryd.results85, go_sem]; rfl) rfl ?_
    exact ⟨rfl, (Ext.rfl' _).drN _⟩
end Go.Proofs.YtmnpbpfeoackiaaDoor
