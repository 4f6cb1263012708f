/-
  Package stream: the first bytes of a stream. Conditions: the package's table holds the constants; texts of at most 100000 bytes.
-/
import Derived.Test.YtjpdhdfophjnpaaDoorSt2
namespace Go.Proofs.YtjpdhdfophjnpaaDoor
open Go.RowKit Go.Shelf
attribute [local go_sem] Oper.semAt_some

theorem bld_writeF (B b : Nat) (l p : List UInt8) (w : World) (h : Lib.IsBuilderF 105 5 B b (Lib.byteCells l) w) (hlen : l.length + p.length ≤ 1000000) (hBw : B ≤ w.heap.size) :
    Calls Tryd.prog 88 #[.pointer (some ⟨b, 0, none⟩), .string (ofL p)] w fun e w' => e = .returned (.tuple #[.int .i64 p.length, .nilIface]) ∧ Lib.IsBuilderF 105 5 B b (Lib.byteCells (l ++ p)) w' ∧ Below B w w' ∧ Lib.OthersKept 5 (some b) w w' := by
  have h0 := Any.Builder_WriteString_k bld_laid bld_extra B b _ (ofL p) w h (by rw [Lib.byteCells_length, size_ofL]; omega) hBw
  refine h0.mono ?_
  rintro e w' ⟨rfl, hb, hB, hO⟩
  rw [strCells_ofL, byteCells_append] at hb
  exact ⟨by rw [size_ofL], .inr hb, hB, hO⟩
theorem isBuilderF_kept {T e : TypeId} {B b : Nat} {bs : List Value} {w w' : World} {row : Option Nat} (h : Lib.IsBuilderF T e B b bs w) (hg : w.grownBy w' row) (hr : ∀ r, row = some r → ∃ o : Obj, w.heap[r]? = some o ∧ o.isCells = false) : Lib.IsBuilderF T e B b bs w' := by
  have key : ∀ p, Lib.BuilderAtF T e B b p bs w → Lib.BuilderAtF T e B b p bs w' := by
    rintro p ⟨hB, v, hb, hown, hne⟩
    refine ⟨hB, v, grownBy_at hg hb (fun r er => ?_), hown.kept hg ?_, hne⟩
    · rintro rfl
      obtain ⟨o, ho, hc⟩ := hr r er
      rw [hb] at ho; cases ho; cases hc
    · rcases hown.2 with ⟨rfl, _⟩ | ⟨g, cap, cur, fz, rfl, _, hgb, _⟩
      · exact .inl rfl
      · refine .inr fun e' => ?_
        obtain ⟨o, ho, hc⟩ := hr g (by rw [← e']; rfl)
        rw [hgb] at ho; cases ho; cases hc
  exact h.elim (fun h => .inl (key _ h)) (fun h => .inr (key _ h))
theorem isBuilderF_cells {T e : TypeId} {B b : Nat} {bs : List Value} {w : World} (h : Lib.IsBuilderF T e B b bs w) : ∃ cs, w.heap[b]? = some (.cells cs T (0, 0)) := by
  rcases h with ⟨_, v, hb, _⟩ | ⟨_, v, hb, _⟩ <;> exact ⟨_, hb⟩
/-- What is no cells lies as it lay. -/
theorem others_keep {T e : TypeId} {b : Nat} {w w' : World} (hO : Lib.OthersKept e (some b) w w') (hb : ∃ cs, w.heap[b]? = some (.cells cs T (0, 0))) (hs : w.heap.size ≤ w'.heap.size) : KeepsOthers w w' :=
  ⟨hs, fun i _ hi ho => hO i _ hi (fun e' => by
    cases e'
    obtain ⟨cs, hc⟩ := hb
    rw [hc] at hi; cases hi; cases ho) (fun c fz e' => by subst e'; cases ho)⟩
theorem others_at {t : TypeId} {b k : Nat} {xs : List Value} {w w' : World} (hO : Lib.OthersKept 5 (some b) w w') (h : Arr w k t xs) (hk : k ≠ b) (ht : t ≠ 5) : w'.heap[k]? = w.heap[k]? := by
  unfold Arr at h
  rw [h]
  exact hO k _ h (fun e => hk (Option.some.inj e)) (fun c fz e => ht (by cases e; rfl))

theorem ext_others {V W : World} (h : Ext V W) : KeepsOthers V W := ⟨h.size, fun k _ hk _ => (h.block k (Array.getElem?_eq_some_iff.1 hk).1).trans hk⟩
theorem isBuilderF_ext {T e : TypeId} {B b : Nat} {bs : List Value} {w w' : World} (h : Lib.IsBuilderF T e B b bs w) (hE : Ext w w') : Lib.IsBuilderF T e B b bs w' := isBuilderF_kept h (ext_grown hE) (fun r e => by cases e)
theorem len_bldF (B b : Nat) (l : List UInt8) (c : Nat) (hc : l.length = c) (w : World) (h : Lib.IsBuilderF 105 5 B b (Lib.byteCells l) w) : Calls Tryd.prog 93 #[.pointer (some ⟨b, 0, none⟩)] w fun e w' => e = .returned (.int .i64 c) ∧ Ext w w' := by
  refine (Tryd.Builder_Len_f B b _ w h).mono ?_
  rintro e w' ⟨rfl, rfl⟩
  exact ⟨by rw [Lib.byteCells_length, hc], Ext.rfl' _⟩
/-- Between two rounds. -/
def TkI (w : World) (m : Nat) (k n : List UInt8) (pre : List B32) (W : World) : Prop :=
  32 * pre.length < m ∧ Ext w W ∧ Arr W w.heap.size 3 [.int .i64 m] ∧ CapB W (w.heap.size + 1 + 1) k n ∧ Lib.IsBuilderF 105 5 (w.heap.size + 1) (w.heap.size + 1) (Lib.byteCells (flatB pre)) W
/-- A round has left. -/
def TkX (w : World) (m : Nat) (c : Code) (pre : List B32) (W : World) : Prop :=
  c = .exit 0 ∧ m ≤ 32 * pre.length ∧ Ext w W ∧ Lib.IsBuilderF 105 5 (w.heap.size + 1) (w.heap.size + 1) (Lib.byteCells ((flatB pre).take m)) W

set_option maxRecDepth 100000 in
set_option maxHeartbeats 4000000 in
theorem take_any (k n : List UInt8) (z : Int) (w : World) (hT : Tab w) (hk : k.length ≤ 100000) (hn : n.length ≤ 100000) : Calls Tryd.prog 70 #[.string (ofL k), .string (ofL n), .int .i64 z] w fun e w' => e = .returned (.string (ofL (takeL k n (min z 65536).toNat))) ∧ Ext w w' := by
  by_cases h1 : z < 1
  · have hm : (min z 65536).toNat = 0 := by omega
    rw [hm]
    have hmz : min z 65536 = z := by omega
    go_enter Tryd.func70, Tryd.ntmps70
    go_wp2
    go_ret
    exact ⟨rfl, (Ext.rfl' w).al _⟩
  · obtain ⟨m, hm⟩ : ∃ m, (min z 65536).toNat = m := ⟨_, rfl⟩
    have hmz : min z 65536 = (m : Int) := by omega
    have hm1 : 1 ≤ m := by omega
    have hm2 : m ≤ 65536 := by omega
    rw [hm]
    clear hm
    refine (callsIn_wide (n := 3)).1 ?_
    refine callsIn_of_wp_marks Tryd.func70 rfl trivial ?_ rfl
    simp only [Tryd.ntmps70, List.size_toArray, List.length_cons, List.length_nil, Nat.reduceAdd, Nat.reduceSub, Array.replicate_succ, Array.replicate_zero, List.push_toArray, List.append_toArray, List.nil_append, List.cons_append]
    refine wpIn_wide.2 ?_
    have hdec : decide ((m : Int) < 1) = false := by simp; omega
    have A0 := (Arr.new w 3 [.int .i64 m]).alloc (.cells #[.pointer none, .slice none 0 0] 105)
    have hb0 := Lib.fresh_isBuilder 105 5 (w.alloc (.cells #[.int .i64 m] 3))
    have E0 := ((Ext.rfl' w).al (.cells #[.int .i64 m] 3)).al (.cells #[.pointer none, .slice none 0 0] 105)
    rw [World.size_alloc] at hb0
    go_wp2_with fail
    refine (blocks_any k n _).mono ?_
    rintro e w2 ⟨rfl, hcap, hsz2, E2⟩
    simp only [World.size_alloc] at hcap hsz2 ⊢
    have F2 := E0.tr E2
    have A2 : Arr w2 w.heap.size 3 [.int .i64 m] := A0.ext E2 A0.lt
    have b2 := Lib.IsBuilderF.of (isBuilder_ext hb0 E2)
    clear A0 hb0 E0 E2
    go_wp2
    have seq := blocks1_seq (3 - 1) (by omega) (w.heap.size + 1 + 1) w.heap.size m k n w2 (hT.ext F2) hT.1 (by omega) hcap hk hn (by omega)
    refine (wpIn_wide (n := 3)).1 ?_
    refine wpIn_range_D (F := Fence.wide) (n := 3) rfl (by omega) (gf := 109) (lb := #[.pointer (some ⟨w.heap.size + 1 + 1, 0, none⟩), .pointer (some ⟨w.heap.size + 1 + 1 + 1, 0, none⟩)]) rfl trivial (enters_of Tryd.func109 (by kernel_rfl) rfl)
      (encs := fun x : B32 => #[.string (ofL x.1)]) (C := fun _ => False) seq (fun r e => e.elim)
      (fun h1 h2 => ⟨h1.1.trans h2.1, h2.2.1.trans h1.2.1, h2.2.2.trans h1.2.2⟩)
      (fun W l o o' hl ho hc hw => ⟨belowK_b (w := w) (Nat.le_refl _) W l o o' (by omega) ho hc hw, World.putObj_heap_other (by omega), World.putObj_heap_other (by omega)⟩) (Below.refl _ _) (fun _ => rfl)
      (TkI w m k n) (fun pre W h => by have := h.1; omega) (TkX w m) ?hI ?hIx ⟨by simp; omega, F2, A2, hcap, b2⟩
      (fun x => { tmps := #[.string (ofL k), .string (ofL n), .int .i64 z, undef, undef, .pointer (some ⟨w.heap.size, 0, none⟩), .string ⟨#[]⟩, .pointer (some ⟨w.heap.size + 1, 0, none⟩), .string (ofL x.1), .int .i64 z, .int .i64 m, .int .i64 m, .bool false, .string (ofL k), .string (ofL n),
        .func (.func 109) #[] #[.pointer (some ⟨w.heap.size + 1 + 1, 0, none⟩), .pointer (some ⟨w.heap.size + 1 + 1 + 1, 0, none⟩)], .string (ofL x.1), undef, undef, undef, undef, undef, undef, undef, undef, undef, undef, undef, undef, undef], defers := [] }) ?assign ?body ?done ?stop
    case hI =>
      rintro pre X Y row ⟨h2, h3, h4, h5, h6⟩ hg hr
      have hr' : ∀ r, row = some r → w2.heap.size ≤ r ∧ ∃ o : Obj, X.heap[r]? = some o ∧ o.isCells = false := fun r e => (hr r e).resolve_left (fun h => h)
      exact ⟨h2, h3.grown hg h3.size (fun r e => by have := (hr' r e).1; omega), arr_kept h4 hg (fun r e => by have := (hr' r e).1; omega), ⟨arr_kept h5.1 hg (fun r e => by have := (hr' r e).1; omega), arr_kept h5.2 hg (fun r e => by have := (hr' r e).1; omega)⟩, isBuilderF_kept h6 hg (fun r e => (hr' r e).2)⟩
    case hIx =>
      rintro c pre X Y row ⟨h1, h2, h3, h6⟩ hg hr
      have hr' : ∀ r, row = some r → w2.heap.size ≤ r ∧ ∃ o : Obj, X.heap[r]? = some o ∧ o.isCells = false := fun r e => (hr r e).resolve_left (fun h => h)
      exact ⟨h1, h2, h3.grown hg h3.size (fun r e => by have := (hr' r e).1; omega), isBuilderF_kept h6 hg (fun r e => (hr' r e).2)⟩
    case assign =>
      intro l x W K hK
      gi_wp2
      exact hK
    case body =>
      rintro l' pre ⟨x, hx⟩ V ⟨h2, h3, h4, h5, h6⟩ hlen hsz
      dsimp only
      obtain ⟨L0, hL0⟩ : ∃ L0, 32 * pre.length = L0 := ⟨_, rfl⟩
      have hLm : L0 < m := by omega
      obtain ⟨r, hr⟩ : ∃ r, m = L0 + r := ⟨m - L0, by omega⟩
      obtain ⟨q, hq⟩ : ∃ q, min 32 r = q := ⟨_, rfl⟩
      obtain ⟨L1, hL1⟩ : ∃ L1, L0 + q = L1 := ⟨_, rfl⟩
      have hfl : (flatB pre).length = L0 := by rw [length_flatB, hL0]
      have hxs : (ofL x).size = 32 := by rw [size_ofL, hx]
      have hqi : min (32 : Int) ((m : Int) - L0) = q := by rw [show (m : Int) - L0 = (r : Int) by omega]; omega
      have hw1 : IntKind.i64.wrap ((m : Int) - L0) = (m : Int) - L0 := IntWalk.i64_in _ (by omega)
      have hex : (ofL x).extract 0 q = ofL (x.take q) := by rw [extract_to, toL_ofL]
      have hq32 : q ≤ 32 := by omega
      have hcont := Kp.mk (show flatB pre ++ x.take q = (flatB (pre ++ [⟨x, hx⟩])).take m by
        rw [flatB_snoc, List.take_append, hfl, List.take_of_length_le (show (flatB pre).length ≤ m by rw [hfl]; omega)]
        congr 1
        rcases Nat.le_total 32 r with h | h
        · rw [List.take_of_length_le (show x.length ≤ q by omega), List.take_of_length_le (show x.length ≤ m - L0 by omega)]
        · rw [show q = m - L0 by omega])
      have hlen1 := Kp.mk (show (flatB pre ++ x.take q).length = L1 by rw [List.length_append, List.length_take, hfl, hx]; omega)
      have HL0 := Kp.mk hL0; have HQ := Kp.mk hq; have HL1 := Kp.mk hL1; have HFL := Kp.mk hfl
      have hL01 : L1 ≤ 100000 := by omega
      have HR := Kp.mk hr
      clear hL0 hq hL1 hfl hr
      refine wpIn_block ?_
      refine wpIn_seq ?_
      refine wpIn_region_tails l' _ (by kernel_rfl) (fun i v W => match i with
        | 0 => v = .string (ofL x)
        | 1 => v = .string (ofL x)
        | 2 => v = .int .i64 32
        | 3 => v = .int .i64 m
        | 4 => v = .int .i64 L0
        | 5 => v = .int .i64 ((m : Int) - L0)
        | 6 => v = .int .i64 q
        | 7 => v = .string (ofL (x.take q))
        | _ => True) 8 (by kernel_rfl) (by kernel_rfl) (by kernel_rfl) (by decide) (by kernel_rfl) (by kernel_rfl) (by kernel_rfl) ?_ ?_ ?_
      · intro i v W1 W2 e1 e2 h
        match i, h with
        | 0, h => exact h
        | 1, h => exact h
        | 2, h => exact h
        | 3, h => exact h
        | 4, h => exact h
        | 5, h => exact h
        | 6, h => exact h
        | 7, h => exact h
        | (i + 8), h => exact h
      · refine localsR_cons (fun u W hW hd => leaves_val rfl (v := .string (ofL x)) (by go_simp) rfl) ?_
        refine localsR_cons (fun u W hW hd => leaves_val rfl (v := .string (ofL x)) (by go_simp) rfl) ?_
        refine localsR_cons (fun u W hW hd => ?_) ?_
        · have h1 : u 1 = _ := hd 1 (by kernel_rfl)
          exact leaves_val rfl (v := .int .i64 32) (by go_simp) rfl
        refine localsR_cons (fun u W hW hd => ?_) ?_
        · have hc := (h4.ext hW h4.lt).cell 0
          exact leaves_val rfl (v := .int .i64 m) (by go_simp) rfl
        refine localsR_cons (fun u W hW hd => ?_) ?_
        · exact leaves_call rfl (f := 93) (args := #[.pointer (some ⟨w.heap.size + 1, 0, none⟩)]) (by go_simp) ((len_bldF _ _ _ L0 HFL.out W (isBuilderF_ext h6 hW)).mono (by rintro e9 W9 ⟨rfl, h9⟩; exact ⟨_, rfl, h9, rfl⟩))
        refine localsR_cons (fun u W hW hd => ?_) ?_
        · have h3 : u 3 = _ := hd 3 (by kernel_rfl)
          have h4 : u 4 = _ := hd 4 (by kernel_rfl)
          exact leaves_val rfl (v := .int .i64 ((m : Int) - L0)) (by go_simp) rfl
        refine localsR_cons (fun u W hW hd => ?_) ?_
        · have h2 : u 2 = _ := hd 2 (by kernel_rfl)
          have h5 : u 5 = _ := hd 5 (by kernel_rfl)
          exact leaves_val rfl (v := .int .i64 q) (by go_simp) rfl
        refine localsR_cons (fun u W hW hd => ?_) localsR_nil
        · have h0 : u 0 = _ := hd 0 (by kernel_rfl)
          have h6 : u 6 = _ := hd 6 (by kernel_rfl)
          exact leaves_val rfl (v := .string (ofL (x.take q))) (by go_simp; omega) rfl
      · intro u W hW hV
        have h7 : u 7 = .string (ofL (x.take q)) := hV 7 (by decide)
        clear hV
        have B6 := isBuilderF_ext h6 hW
        have EW := h3.tr hW
        have A4 := h4.ext hW h4.lt
        have C5 := h5.ext hW
        have K0 := ext_others hW
        have hsW : w.heap.size + 1 ≤ W.heap.size := A4.lt
        have hWV := hW.size
        clear hw1 hqi hex
        go_simp
        gi_wp2_with fail
        refine ⟨trivial, (CallsIn.inRound l' (callsIn_wide.2 (bld_writeF _ _ _ (x.take q) W B6 (by rw [HFL.out, List.length_take]; omega) (by omega)))).mono ?_⟩
        rintro e w3 ⟨rfl, b3, hB3, hO3⟩
        have hcellsb := isBuilderF_cells B6
        have K3 := K0.trans (others_keep hO3 hcellsb hB3.size)
        have E3 : Ext w w3 := EW.trans ⟨hB3.os, hB3.tape, hB3.output, hB3.size, fun k hk => hB3.block k (by omega)⟩
        have A3 : Arr w3 w.heap.size 3 [.int .i64 m] := A4.ext hB3 (by omega)
        have k1 := others_at hO3 C5.1 (by omega) (by decide)
        have k2 := others_at hO3 C5.2 (by omega) (by decide)
        have C3 : CapB w3 (w.heap.size + 1 + 1) k n := ⟨k1.trans C5.1, k2.trans C5.2⟩
        have KB : KeepB w.heap.size (w.heap.size + 1 + 1) V w3 := ⟨(show Below w.heap.size V W from ⟨hW.os, hW.tape, hW.output, hW.size, fun k hk => hW.block k (by omega)⟩).trans ⟨hB3.os, hB3.tape, hB3.output, hB3.size, fun k hk => hB3.block k (by omega)⟩,
          k1.trans (hW.block _ h5.1.lt), k2.trans (hW.block _ h5.2.lt)⟩
        have hs3 := hB3.size
        clear B6 EW A4 C5 K0 hB3 hO3 k1 k2 hcellsb
        gi_wp2_with fail
        clear h3 h4 h5 h6
        have hs3' : w.heap.size + 1 ≤ w3.heap.size := by omega
        refine wpIn_region_tails l' _ (by kernel_rfl) (fun i v W => match i with
          | 0 => v = .int .i64 L1
          | 1 => v = .int .i64 m
          | _ => True) 2 (by kernel_rfl) (by kernel_rfl) (by kernel_rfl) (by decide) (by kernel_rfl) (by kernel_rfl) (by kernel_rfl) ?_ ?_ ?_
        · intro i v W1 W2 e1 e2 h
          match i, h with
          | 0, h => exact h
          | 1, h => exact h
          | (i + 2), h => exact h
        · refine localsR_cons (fun u W hW hd => ?_) ?_
          · exact leaves_call rfl (f := 93) (args := #[.pointer (some ⟨w.heap.size + 1, 0, none⟩)]) (by go_simp) ((len_bldF _ _ _ L1 hlen1.out W (isBuilderF_ext b3 hW)).mono (by rintro e9 W9 ⟨rfl, h9⟩; exact ⟨_, rfl, h9, rfl⟩))
          refine localsR_cons (fun u W hW hd => ?_) localsR_nil
          · have hc := (A3.ext hW A3.lt).cell 0
            exact leaves_val rfl (v := .int .i64 m) (by go_simp) rfl
        · intro u2 W2 hW2 hV2
          have g0 : u2 0 = .int .i64 L1 := hV2 0 (by decide)
          have g1 : u2 1 = .int .i64 m := hV2 1 (by decide)
          clear hV2
          have b4 := isBuilderF_ext b3 hW2
          have E4 := E3.tr hW2
          have A4 := A3.ext hW2 A3.lt
          have C4 := C3.ext hW2
          have K4 := (K3.trans (ext_others hW2)).from (w.heap.size + 1 + 1 + 2)
          have KB4 : KeepB w.heap.size (w.heap.size + 1 + 1) V W2 := ⟨KB.1.trans ⟨hW2.os, hW2.tape, hW2.output, hW2.size, fun k hk => hW2.block k (by omega)⟩, (hW2.block _ C3.1.lt).trans KB.2.1, (hW2.block _ C3.2.lt).trans KB.2.2⟩
          rw [hcont.out] at b4
          clear b3 E3 A3 C3 K3 KB
          by_cases hfull : m ≤ L1
          · have hd : decide ((m : Int) ≤ (L1 : Int)) = true := by simp; omega
            have hfin := Kp.mk (show m ≤ 32 * (pre ++ [⟨x, hx⟩] : List B32).length by
              rw [List.length_append, List.length_singleton]
              have h1 := HL0.out; have h2 := HQ.out; have h3 := HL1.out
              omega)
            clear hd
            go_simp
            gi_wp2
            all_goals first | (exfalso; omega) | exact ⟨K4, rfl, hfin.out, E4, b4⟩
          · have hd : decide ((m : Int) ≤ (L1 : Int)) = false := by simp; omega
            have hfin := Kp.mk (show 32 * (pre ++ [⟨x, hx⟩] : List B32).length < m ∧ (flatB (pre ++ [⟨x, hx⟩])).take m = flatB (pre ++ [⟨x, hx⟩]) by
              have h1 := HL0.out; have h2 := HQ.out; have h3 := HL1.out; have h4 := HR.out
              have h5 : 32 * (pre ++ [⟨x, hx⟩] : List B32).length < m := by rw [List.length_append, List.length_singleton]; omega
              exact ⟨h5, List.take_of_length_le (by rw [length_flatB]; omega)⟩)
            rw [hfin.out.2] at b4
            clear hd
            go_simp
            gi_wp2
            all_goals first | (exfalso; omega) | exact ⟨K4, KB4, hfin.out.1, E4, A4, C4, b4⟩
    case done =>
      rintro D xs V hD h
      exact h.elim
    case stop =>
      rintro D c pre V hD hpre ⟨rfl, h2, h3, h6⟩ hK
      have hfl := Kp.mk (show (flatB pre).take m = takeL k n m by rw [hpre, flat_blocks]; exact streamC_takeL k n _ m h2)
      refine wpIn_wide.2 ?_
      have hszV : w.heap.size + 1 < V.heap.size := by
        obtain ⟨cs, hcs⟩ := isBuilderF_cells h6
        exact (Array.getElem?_eq_some_iff.1 hcs).1
      go_wp2_with fail
      refine (Tryd.Builder_String_any_k _ _ _ V h6 (by omega)).mono ?_
      rintro e w3 ⟨rfl, _, hB, hO⟩
      have hK3 : w3.heap[D]? = some (.deferred (some [])) := hO D _ hK (fun e' => by cases e'; omega) (fun c fz e' => by cases e')
      have F3 : Ext w w3 := h3.trans ⟨hB.os, hB.tape, hB.output, hB.size, fun k hk => hB.block k (by omega)⟩
      rw [hfl.out]
      go_wp2
      refine ⟨by simp, .inl ⟨_, _, rfl, run_takeDeferred hK3, ?_⟩⟩
      exact ⟨.string (ofL (takeL k n m)), by simp [results, Tryd.f70, go_sem, ofL], rfl, F3.grown (grownBy_putObj' _ D _) F3.size (fun r e => by cases e; omega)⟩
end Go.Proofs.YtjpdhdfophjnpaaDoor
