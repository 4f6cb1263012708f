/-
  Package verify: the tags of a token, the last tag, the first discharge for a ticket. Condition: the package's table holds the constants.
-/
import Derived.Test.YtejhiekikblbiaaGreatDoorVe1
namespace Go.Proofs.YtejhiekikblbiaaGreatDoor
open Go.RowKit

theorem own_ne_arr {W : World} {base g : Nat} {e ty : TypeId} {size n : Nat} {v : Value} {xs ys : List Value} (h : W.ownsRow base e size v n xs) (hA : Arr W g ty ys) (hne : e ≠ ty) : v.ownBlock = none ∨ v.ownBlock ≠ some g := by
  rcases h.2 with ⟨rfl, _⟩ | ⟨g', cap, cur, rfl, _, hg, _⟩
  · exact .inl rfl
  · refine .inr fun e9 => ?_
    have e9 : g' = g := Option.some.inj e9
    subst e9
    unfold Arr at hA
    rw [hg] at hA
    cases hA
    exact hne rfl
theorem grown_far {w w' : World} {p q j : Nat} (h : w.grownBy w' (some p)) (hq : w.heap.size ≤ q) (u : Value) : w.grownBy (w'.setCell ⟨q, j, none⟩ u) (some p) :=
  ⟨h.os, h.tape, h.output, by have := h.size; simpa using this, fun k hk hn => (heap_setCell_other w' ⟨q, j, none⟩ k u (fun e => by have e : k = q := e; omega)).trans (h.block k hk hn)⟩
/-- All but the proof's box is as it was, what is new aside. -/
theorem PrSt.regrow {w V W : World} {g : Nat} {t : TokA} {mv : Value} {more : List TokA} {s s' : PrL} {L : List PvA} {vu vl vt : Value} (h : PrSt w V g t mv more s L vu vl vt) (hg : V.grownBy W (some g)) (hA : Arr W g 79 (prCells t mv vu vl vt s'.work))
    (h1 : s.used = s'.used) (h2 : s.list = s'.list) (h3 : s.texts = s'.texts) : PrSt w W g t mv more s' L vu vl vt := by
  obtain ⟨a, b, c, d, e⟩ := s
  obtain ⟨a', b', c', d', e'⟩ := s'
  dsimp only at h1 h2 h3
  subst h1 h2 h3
  exact ⟨h.ext.gr hg (fun k hk => by cases hk; exact h.far), h.far, hA, h.used.kept hg (own_ne_arr h.used h.box (by decide)), h.list.kept hg (own_ne_arr h.list h.box (by decide)), h.texts.kept hg (own_ne_arr h.texts h.box (by decide)), h.eq,
    fun x hx => ⟨(h.tags x hx).1.kept hg (own_ne_arr (h.tags x hx).1 h.box (by decide)), (h.tags x hx).2⟩, h.mem⟩
theorem tv_boxes (w : World) (a b c : Value) : ∃ W, ((w.alloc (.cells #[a, b, c] 33)).alloc (.cells #[.string ⟨#[]⟩, .slice none 0 0, .string ⟨#[]⟩, .slice none 0 0] 121)) = W ∧ Ext w W ∧ W.heap.size = w.heap.size + 2 ∧
    Arr W w.heap.size 33 [a, b, c] ∧ Arr W (w.heap.size + 1) 121 [.string ⟨#[]⟩, .slice none 0 0, .string ⟨#[]⟩, .slice none 0 0] := by
  refine ⟨_, rfl, ((Ext.rfl' w).al _).al _, by simp, (Arr.new w 33 [a, b, c]).alloc _, ?_⟩
  have q := Arr.new (w.alloc (.cells #[a, b, c] 33)) 121 [.string ⟨#[]⟩, .slice none 0 0, .string ⟨#[]⟩, .slice none 0 0]
  rw [World.size_alloc] at q
  exact q
theorem prCells_get (t : TokA) (mv vu vl vt : Value) (n : Nat) : (prCells t mv vu vl vt n)[0]? = some (.string (ofL t.id)) ∧ (prCells t mv vu vl vt n)[1]? = some (.slice t.A t.l.length t.c) ∧ (prCells t mv vu vl vt n)[2]? = some (.string (ofL t.tag)) ∧ (prCells t mv vu vl vt n)[3]? = some mv ∧ (prCells t mv vu vl vt n)[4]? = some vu ∧ (prCells t mv vu vl vt n)[5]? = some vl ∧ (prCells t mv vu vl vt n)[6]? = some vt ∧ (prCells t mv vu vl vt n)[7]? = some (.int .i64 n) := ⟨rfl, rfl, rfl, rfl, rfl, rfl, rfl, rfl⟩

def TagsPost (w V0 : World) (g : Nat) (t : TokA) (mv : Value) (more : List TokA) (s : PrL) (L : List PvA) (vu vl vt : Value) (k : List UInt8) (x : TokA) (e : Ending) (V1 : World) : Prop :=
  ∃ gt ct, e = .returned (.agg #[.string (ofL x.id), .slice x.A x.l.length x.c, .string (ofL x.tag), .slice (some ⟨gt, 0, none⟩) (x.l.length + 1) ct]) ∧ PrSt w V1 g t mv more ⟨s.used, s.list, s.texts, s.work + (x.l.length + 1), s.sum⟩ L vu vl vt ∧ TagsAt w V1 ⟨k, x, gt, ct⟩ ∧ vt.ownBlock ≠ some gt ∧ V0.grownBy V1 (some g)
set_option maxRecDepth 100000 in
set_option maxHeartbeats 4000000 in
theorem vtags_any {w V0 : World} {g : Nat} {t : TokA} {mv : Value} {more : List TokA} {s : PrL} {L : List PvA} {vu vl vt : Value} (hS : PrSt w V0 g t mv more s L vu vl vt) (hT : Tab w) (k : List UInt8) (x : TokA) (hk : k.length ≤ 100000) (hi : x.id.length ≤ 100000)
    (hl : RdLinks w w.heap.size (.slice x.A x.l.length x.c) x.l) (hx : Short1 x.l) (hn : x.l.length ≤ 10000) (hw : s.work ≤ 1000000) :
    Calls Tryz.prog 86 #[.pointer (some ⟨g, 0, none⟩), .string (ofL k), tokAV x] V0 (TagsPost w V0 g t mv more s L vu vl vt k x) := by
  obtain ⟨id, tag, A, c, l⟩ := x
  dsimp only at hi hl hx hn
  unfold TagsPost
  dsimp only
  have cT := Kp.mk (show ∀ W, Tab W → RdLinks W W.heap.size (.slice A l.length c) l → Calls Tryz.prog 74 #[.string (ofL k), .agg #[.string (ofL id), .slice A l.length c, .string (ofL tag)]] W (RetOwn W 9 1 (l.length + 1) ((tagsL k id l).map Str)) from fun W h1 h2 => tags_any k id tag _ l W h1 hk hi h2 hx (by omega))
  have HL := Kp.mk hl
  obtain ⟨W0, hW0, E0, hs0, B1, B2⟩ := tv_boxes V0 (.string (ofL id)) (.slice A l.length c) (.string (ofL tag))
  have HW := Kp.mk hW0
  have HS := Kp.mk hS
  have C0 := hS.box.ext E0 hS.box.lt
  have hg0 := hS.box.lt
  obtain ⟨n2, hn2⟩ : ∃ n2, s.work + (l.length + 1) = n2 := ⟨_, rfl⟩
  have H1 := Kp.mk (show IntKind.i64.wrap ((l.length : Int) + 1) = (l.length : Int) + 1 from IntWalk.i64_in _ (by omega))
  have H2 := Kp.mk (show IntKind.i64.wrap ((s.work : Int) + ((l.length : Int) + 1)) = (n2 : Int) by rw [IntWalk.i64_in _ (by omega)]; omega)
  rw [hn2]
  have HR := Kp.mk (show ∀ W, V0.grownBy W (some g) → Arr W g 79 (prCells t mv vu vl vt n2) → PrSt w W g t mv more ⟨s.used, s.list, s.texts, n2, s.sum⟩ L vu vl vt from fun W h1 h2 => hS.regrow (s' := ⟨s.used, s.list, s.texts, n2, s.sum⟩) h1 h2 rfl rfl rfl)
  have HB := Kp.mk (show ∀ r, vt.ownBlock = some r → r < V0.heap.size from fun r e => (hS.texts.lt r e).2)
  have hwk : ∃ wk : Nat, s.work = wk := ⟨_, rfl⟩
  obtain ⟨wk, hwk⟩ := hwk
  rw [hwk] at C0 H2
  clear hS hl hW0 hx hk hi hn hn2 hw hwk
  unfold tokAV tokV
  dsimp only
  go_enter Tryz.func86, Tryz.ntmps86
  go_upto_region 1 with fail
  rw [HW.out]
  clear HW
  refine wp_region_tails (fun i v W => match i with
    | 0 => v = .pointer (some ⟨g, 0, none⟩)
    | 1 => v = .pointer (some ⟨g, 0, none⟩)
    | 2 => v = .pointer (some ⟨g, 7, none⟩)
    | 3 => v = .int .i64 wk
    | 4 => v = .pointer (some ⟨V0.heap.size, 1, none⟩)
    | 5 => v = .slice A l.length c
    | 6 => v = .int .i64 l.length
    | 7 => v = .int .i64 ((l.length : Int) + 1)
    | 8 => v = .int .i64 n2
    | 9 => v = .pointer (some ⟨g, 0, none⟩)
    | 10 => v = .pointer (some ⟨g, 7, none⟩)
    | _ => True) 11 (by kernel_rfl) (by kernel_rfl) (by kernel_rfl) (by decide) (by kernel_rfl) (by kernel_rfl) (by kernel_rfl) ?_ ?_ ?_
  · intro i v W1 W2 e1 e2 h
    match i, h with
    | 0, h => exact h
    | 1, h => exact h
    | 2, h => exact h
    | 3, h => exact h
    | 4, h => exact h
    | 5, h => exact h
    | 6, h => exact h
    | 7, h => exact h
    | 8, h => exact h
    | 9, h => exact h
    | 10, h => exact h
    | (i + 11), h => exact h
  · refine localsR_cons (fun u W hW hd => leaves_val rfl (v := .pointer (some ⟨g, 0, none⟩)) (by go_simp) rfl) ?_
    refine localsR_cons (fun u W hW hd => ?_) ?_
    · have h0 : u 0 = _ := hd 0 (by kernel_rfl)
      exact leaves_val rfl (v := .pointer (some ⟨g, 0, none⟩)) (by go_simp) rfl
    refine localsR_cons (fun u W hW hd => ?_) ?_
    · have h1 : u 1 = _ := hd 1 (by kernel_rfl)
      exact leaves_val rfl (v := .pointer (some ⟨g, 7, none⟩)) (by go_simp) rfl
    refine localsR_cons (fun u W hW hd => ?_) ?_
    · have h2 : u 2 = _ := hd 2 (by kernel_rfl)
      have q7 := (C0.ext hW C0.lt).cell 7
      rw [(prCells_get _ _ _ _ _ _).2.2.2.2.2.2.2] at q7
      exact leaves_val rfl (v := .int .i64 wk) (by go_simp) rfl
    refine localsR_cons (fun u W hW hd => leaves_val rfl (v := .pointer (some ⟨V0.heap.size, 1, none⟩)) (by go_simp) rfl) ?_
    refine localsR_cons (fun u W hW hd => ?_) ?_
    · have h4 : u 4 = _ := hd 4 (by kernel_rfl)
      have q1 := (B1.ext hW B1.lt).cell 1
      simp only [List.getElem?_cons_zero, List.getElem?_cons_succ] at q1
      exact leaves_val rfl (v := .slice A l.length c) (by go_simp) rfl
    refine localsR_cons (fun u W hW hd => ?_) ?_
    · have h5 : u 5 = _ := hd 5 (by kernel_rfl)
      exact leaves_val rfl (v := .int .i64 l.length) (by go_simp) rfl
    refine localsR_cons (fun u W hW hd => ?_) ?_
    · have h6 : u 6 = _ := hd 6 (by kernel_rfl)
      have w1 := H1.out
      exact leaves_val rfl (v := .int .i64 ((l.length : Int) + 1)) (by go_simp) rfl
    refine localsR_cons (fun u W hW hd => ?_) ?_
    · have h3 : u 3 = _ := hd 3 (by kernel_rfl)
      have h7 : u 7 = _ := hd 7 (by kernel_rfl)
      have w2 := H2.out
      exact leaves_val rfl (v := .int .i64 n2) (by go_simp) rfl
    refine localsR_cons (fun u W hW hd => ?_) ?_
    · have h0 : u 0 = _ := hd 0 (by kernel_rfl)
      exact leaves_val rfl (v := .pointer (some ⟨g, 0, none⟩)) (by go_simp) rfl
    refine localsR_cons (fun u W hW hd => ?_) localsR_nil
    · have h9 : u 9 = _ := hd 9 (by kernel_rfl)
      exact leaves_val rfl (v := .pointer (some ⟨g, 7, none⟩)) (by go_simp) rfl
  · intro u W hW hV
    have h8 : u 8 = _ := hV 8 (by decide)
    have h10 : u 10 = _ := hV 10 (by decide)
    clear hV
    have D0 := C0.ext hW C0.lt
    have D1 := B1.ext hW B1.lt
    have D2 := B2.ext hW B2.lt
    have q7 := D0.cell 7
    rw [(prCells_get _ _ _ _ _ _).2.2.2.2.2.2.2] at q7
    have z7 := D0.frozen 7
    have EW := E0.tr hW
    have G1 : V0.grownBy (W.setCell ⟨g, 7, none⟩ (.int .i64 n2)) (some g) := grown_set ((World.grownBy.refl V0 _).trans (grown_ext (World.grownBy.refl V0 _) EW)) _
    have A1 : Arr (W.setCell ⟨g, 7, none⟩ (.int .i64 n2)) g 79 (prCells t mv vu vl vt n2) := D0.set 7 _
    have K1 : Arr (W.setCell ⟨g, 7, none⟩ (.int .i64 n2)) V0.heap.size 33 [.string (ofL id), .slice A l.length c, .string (ofL tag)] := D1.other _ (by omega)
    have K2 : Arr (W.setCell ⟨g, 7, none⟩ (.int .i64 n2)) (V0.heap.size + 1) 121 [.string ⟨#[]⟩, .slice none 0 0, .string ⟨#[]⟩, .slice none 0 0] := D2.other _ (by omega)
    clear C0 B1 B2 E0 hW hs0 D0 D1 D2 EW
    go_simp
    go_upto_region 2 with fail
    obtain ⟨W1, hW1⟩ : ∃ W1 : World, W1 = W.setCell ⟨g, 7, none⟩ (.int .i64 n2) := ⟨_, rfl⟩
    rw [← hW1] at G1 A1 K1 K2 ⊢
    clear hW1 q7 z7 h8 h10
    have hs1 : V0.heap.size + 1 < W1.heap.size := K2.lt
    have P1 := HR.out W1 G1 A1
    have L1 : RdLinks W1 W1.heap.size (.slice A l.length c) l := rd_at HL.out P1.ext
    refine wp_region_tails (fun i v W => match i with
      | 0 => v = .agg #[.string (ofL id), .slice A l.length c, .string (ofL tag)]
      | 1 => v = .string (ofL k)
      | 2 => v = .agg #[.string (ofL id), .slice A l.length c, .string (ofL tag)]
      | 3 => W.ownsRow W1.heap.size 9 1 v (l.length + 1) ((tagsL k id l).map Str)
      | 4 => ∃ gt ct, v = .agg #[.string (ofL id), .slice A l.length c, .string (ofL tag), .slice (some ⟨gt, 0, none⟩) (l.length + 1) ct] ∧ W.ownsRow W1.heap.size 9 1 (.slice (some ⟨gt, 0, none⟩) (l.length + 1) ct) (l.length + 1) ((tagsL k id l).map Str)
      | _ => True) 5 (by kernel_rfl) (by kernel_rfl) (by kernel_rfl) (by decide) (by kernel_rfl) (by kernel_rfl) (by kernel_rfl) ?_ ?_ ?_
    · intro i v W1 W2 e1 e2 h
      match i, h with
      | 0, h => exact h
      | 1, h => exact h
      | 2, h => exact h
      | 3, h => exact own_ext h (fun j _ hj => e2.block j hj)
      | 4, ⟨gt, ct, h1, h2⟩ => exact ⟨gt, ct, h1, own_ext h2 (fun j _ hj => e2.block j hj)⟩
      | (i + 5), h => exact h
    · refine localsR_cons (fun u W hW hd => ?_) ?_
      · have q0 := (K1.ext hW K1.lt).cell 0; have q1 := (K1.ext hW K1.lt).cell 1; have q2 := (K1.ext hW K1.lt).cell 2
        simp only [List.getElem?_cons_zero, List.getElem?_cons_succ] at q0 q1 q2
        exact leaves_val rfl (v := .agg #[.string (ofL id), .slice A l.length c, .string (ofL tag)]) (by go_simp) rfl
      refine localsR_cons (fun u W hW hd => leaves_val rfl (v := .string (ofL k)) (by go_simp) rfl) ?_
      refine localsR_cons (fun u W hW hd => ?_) ?_
      · have q0 := (K1.ext hW K1.lt).cell 0; have q1 := (K1.ext hW K1.lt).cell 1; have q2 := (K1.ext hW K1.lt).cell 2
        simp only [List.getElem?_cons_zero, List.getElem?_cons_succ] at q0 q1 q2
        exact leaves_val rfl (v := .agg #[.string (ofL id), .slice A l.length c, .string (ofL tag)]) (by go_simp) rfl
      refine localsR_cons (fun u W hW hd => ?_) ?_
      · have h1 : u 1 = _ := hd 1 (by kernel_rfl)
        have h2 : u 2 = _ := hd 2 (by kernel_rfl)
        exact leaves_call rfl (f := 74) (args := #[.string (ofL k), .agg #[.string (ofL id), .slice A l.length c, .string (ofL tag)]]) (by go_simp) ((cT.out W (hT.ext (P1.ext.tr hW)) (rd_at L1 hW)).mono (fun e9 W9 ⟨v9, h1, h2, h3⟩ => ⟨v9, h1, h3, own_more h2 hW.size⟩))
      refine localsR_cons (fun u W hW hd => ?_) localsR_nil
      · have h0 : u 0 = _ := hd 0 (by kernel_rfl)
        have h3 := hd 3 (by kernel_rfl)
        obtain ⟨gt, ct, e3⟩ := ownsRow_succ h3
        rw [e3] at h3
        exact leaves_val rfl (v := .agg #[.string (ofL id), .slice A l.length c, .string (ofL tag), .slice (some ⟨gt, 0, none⟩) (l.length + 1) ct]) (by go_simp) ⟨gt, ct, rfl, h3⟩
    · intro u2 W2 hW2 hV
      obtain ⟨gt, ct, h4, own4⟩ := hV 4 (by decide)
      clear hV
      have hA := K2.ext hW2 K2.lt
      have q0 := hA.cell 0; have q1 := hA.cell 1; have q2 := hA.cell 2; have q3 := hA.cell 3
      have z0 := hA.frozen 0; have z1 := hA.frozen 1; have z2 := hA.frozen 2; have z3 := hA.frozen 3
      simp only [List.getElem?_cons_zero, List.getElem?_cons_succ] at q0 q1 q2 q3
      have G2 := grown_ext G1 hW2
      have A2 := A1.ext hW2 A1.lt
      have hgt := own4.lt gt rfl
      clear K1 K2 hW2 L1 cT
      go_simp
      go_wp2
      obtain ⟨W', hW'⟩ : ∃ W' : World, W' = (((W2.setCell ⟨V0.heap.size + 1, 0, none⟩ (.string (ofL id))).setCell ⟨V0.heap.size + 1, 1, none⟩ (.slice A l.length c)).setCell ⟨V0.heap.size + 1, 2, none⟩ (.string (ofL tag))).setCell ⟨V0.heap.size + 1, 3, none⟩ (.slice (some ⟨gt, 0, none⟩) (l.length + 1) ct) := ⟨_, rfl⟩
      rw [← hW']
      have hne : g ≠ V0.heap.size + 1 := by omega
      have hA' : Arr W' (V0.heap.size + 1) 121 [.string (ofL id), .slice A l.length c, .string (ofL tag), .slice (some ⟨gt, 0, none⟩) (l.length + 1) ct] := by rw [hW']; exact (((hA.set 0 _).set 1 _).set 2 _).set 3 _
      have G3 : V0.grownBy W' (some g) := by rw [hW']; exact grown_far (grown_far (grown_far (grown_far G2 (by omega) _) (by omega) _) (by omega) _) (by omega) _
      have A3 : Arr W' g 79 (prCells t mv vu vl vt n2) := by rw [hW']; exact (((A2.other _ hne).other _ hne).other _ hne).other _ hne
      have O3 : W'.ownsRow W1.heap.size 9 1 (.slice (some ⟨gt, 0, none⟩) (l.length + 1) ct) (l.length + 1) ((tagsL k id l).map Str) := by rw [hW']; exact own_sets_other own4 hA (by decide) _ _ _ _
      exact bodyPost_ret (v := .agg #[.string (ofL id), .slice A l.length c, .string (ofL tag), .slice (some ⟨gt, 0, none⟩) (l.length + 1) ct]) (results_cell_row rfl _ _ (V0.heap.size + 1) _ _ _ _ rfl hA' Tryz.underlying121 rfl (by kernel_rfl)) rfl
        ⟨gt, ct, rfl, HR.out W' G3 A3, own_more O3 (by have := P1.ext.size; omega), fun e => by have := HB.out gt e; omega, G3⟩

theorem pv_box (w : World) (a b c d : Value) : ∃ V, w.alloc (.cells #[a, b, c, d] 121) = V ∧ Ext w V ∧ Arr V w.heap.size 121 [a, b, c, d] := ⟨_, rfl, (Ext.rfl' w).al _, Arr.new w _ [a, b, c, d]⟩
set_option maxRecDepth 100000 in
set_option maxHeartbeats 4000000 in
theorem vlast_any (w V : World) (x : PvA) (h : TagsAt w V x) (hn : x.t.l.length ≤ 100000) (i1 t1 : Value) (vl : Value) : Calls Tryz.prog 87 #[.agg #[i1, vl, t1, .slice (some ⟨x.g, 0, none⟩) (x.t.l.length + 1) x.c]] V fun e V' => e = .returned (.string (ofL (lastL x.k x.t.id x.t.l))) ∧ Ext V V' := by
  obtain ⟨X, hX⟩ : ∃ X, lastL x.k x.t.id x.t.l = X := ⟨_, rfl⟩
  have hg := tagsL_get x.k x.t.id x.t.l x.t.l.length (Nat.le_refl _)
  rw [List.take_length, hX] at hg
  rw [hX]
  obtain ⟨W0, hW0, E0, B1⟩ := pv_box V i1 vl t1 (.slice (some ⟨x.g, 0, none⟩) (x.t.l.length + 1) x.c)
  have hc : W0.cell? ⟨x.g, x.t.l.length, none⟩ = some (.string (ofL X)) := ((bcell E0).1 x.g _ (h.lt x.g rfl).2).trans (by rw [h.cellAt x.t.l.length (by omega), List.getElem?_map, hg]; rfl)
  have q3 := B1.cell 3
  simp only [List.getElem?_cons_zero, List.getElem?_cons_succ] at q3
  have w2 : (x.t.l.length : Int) + 1 - 1 = x.t.l.length := by omega
  have w1 : IntKind.i64.wrap (x.t.l.length : Int) = x.t.l.length := IntWalk.i64_in _ (by omega)
  have HW := Kp.mk hW0
  clear h hX hg B1 hW0
  go_enter Tryz.func87, Tryz.ntmps87
  go_upto_region 1 with fail
  rw [HW.out]
  go_wp2
  go_ret
  exact ⟨rfl, E0⟩
end Go.Proofs.YtejhiekikblbiaaGreatDoor
