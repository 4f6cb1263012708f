/-
  Package rate: the bucket of the tenant and class. No condition.
-/
import Derived.Test.YtmnpbpfeoackiaaBw4
import Derived.Test.YtmnpbpfeoackiaaStoreG
namespace Go.Proofs.Ytmnpbpfeoackiaa
open Go.RowKit

theorem run_store_cls {o : Oper} {a : Act} {W : World} {g : Nat} {p x : Operand} {x0 y0 z0 : Value} {cap fill : Int} (ho : o.op = Op.store 23 p x) (hp : a.eval p = .pointer (some ⟨g, 0, none⟩)) (hx : a.eval x = .agg #[.string ⟨#[103, 111, 108, 100]⟩, .int .i64 cap, .int .i64 fill]) (hA : Arr W g 23 [x0, y0, z0]) :
    (execOp a.eval o).run Try.prog W = .ok .skip (((W.setCell ⟨g, 0, none⟩ (.string ⟨#[103, 111, 108, 100]⟩)).setCell ⟨g, 1, none⟩ (.int .i64 cap)).setCell ⟨g, 2, none⟩ (.int .i64 fill)) := by
  have q0 := hA.cell 0; have q1 := hA.cell 1; have q2 := hA.cell 2
  have z0 := hA.frozen 0; have z1 := hA.frozen 1; have z2 := hA.frozen 2
  simp only [List.getElem?_cons_zero, List.getElem?_cons_succ] at q0 q1 q2
  simp only [execOp, ho]
  rw [hp, hx]
  simp [go_sem, q0, q1, q2, z0, z1, z2]
theorem run_store_bk {o : Oper} {a : Act} {W : World} {g : Nat} {p x : Operand} {c f h t c' f' h' t' : Nat} (ho : o.op = Op.store 63 p x) (hp : a.eval p = .pointer (some ⟨g, 0, none⟩)) (hx : a.eval x = .agg #[.int .i64 c, .int .i64 f, .int .i64 h, .int .i64 t]) (hA : BkB W g c' f' h' t') :
    (execOp a.eval o).run Try.prog W = .ok .skip ((((W.setCell ⟨g, 0, none⟩ (.int .i64 c)).setCell ⟨g, 1, none⟩ (.int .i64 f)).setCell ⟨g, 2, none⟩ (.int .i64 h)).setCell ⟨g, 3, none⟩ (.int .i64 t)) := by
  obtain ⟨q0, q1, q2, q3, z⟩ := hA.cells
  have z0 := z 0; have z1 := z 1; have z2 := z 2; have z3 := z 3
  simp only [execOp, ho]
  rw [hp, hx]
  simp [go_sem, q0, q1, q2, q3, z0, z1, z2, z3]
/-- The bucket that is found, or a new one. -/
def bkOf (cap fill : Nat) : Option (Nat × Nat × Nat × Nat) → Nat × Nat × Nat × Nat
  | none => (cap, fill, 0, 0)
  | some x => x
set_option maxRecDepth 100000 in
set_option maxHeartbeats 1000000 in
theorem of_any {w : World} {B p m1 m2 : Nat} {cap fill : Nat} {o : Option (Nat × Nat × Nat × Nat)} (H : RtAt w B p m1 m2 cap fill o) {x y h t : Nat} (ho : bkOf cap fill o = (x, y, h, t)) :
    Calls Try.prog 32 #[.pointer (some ⟨p, 0, none⟩), whoV] w fun e w' => e = .returned (.tuple #[bkV x y h t, .bool true]) ∧ Ext w w' := by
  obtain ⟨w0, hw0, E0, A0, R0⟩ : ∃ w0, (w.alloc (.cells #[.string ⟨#[97]⟩, .string ⟨#[103, 111, 108, 100]⟩] 61)).alloc (.cells #[.int .i64 0, .int .i64 0, .int .i64 0, .int .i64 0] 63) = w0 ∧ Ext w w0 ∧ Arr w0 w.heap.size 61 [.string ⟨#[97]⟩, .string ⟨#[103, 111, 108, 100]⟩] ∧ BkB w0 (w.heap.size + 1) 0 0 0 0 := by
    refine ⟨_, rfl, ((Ext.rfl' w).al _).al _, (Arr.new w _ [.string ⟨#[97]⟩, .string ⟨#[103, 111, 108, 100]⟩]).alloc _, ?_⟩
    have H := Arr.new (w.alloc (.cells #[.string ⟨#[97]⟩, .string ⟨#[103, 111, 108, 100]⟩] 61)) 63 (bkC 0 0 0 0)
    rw [World.size_alloc] at H
    exact H
  have HW0 := Kp.mk hw0
  have H0 := H.ext E0
  have HO := Kp.mk ho
  unfold bkV whoV
  have hlR := Arr.lt R0
  clear hw0 ho H
  go_enter Try.func32, Try.ntmps32
  go_upto_region 1 with fail
  rw [HW0.out]
  clear HW0
  go_upto_region 3 with fail
  refine wp_region_stageE [11] (fun bs W => Ext w0 W) (fun bs i v W => match i with
    | 0 => v = .pointer (some ⟨p, 0, none⟩)
    | 1 => v = .pointer (some ⟨p, 0, none⟩)
    | 2 => v = .pointer (some ⟨p, 0, none⟩)
    | 3 => v = .map (some m1)
    | 4 => v = .pointer (some ⟨w.heap.size, 1, none⟩)
    | 5 => v = .string ⟨#[103, 111, 108, 100]⟩
    | 6 => v = .tuple #[.agg #[.string ⟨#[103, 111, 108, 100]⟩, .int .i64 cap, .int .i64 fill], .bool true]
    | 7 => v = .tuple #[.agg #[.string ⟨#[103, 111, 108, 100]⟩, .int .i64 cap, .int .i64 fill], .bool true]
    | 8 => v = .agg #[.string ⟨#[103, 111, 108, 100]⟩, .int .i64 cap, .int .i64 fill]
    | 9 => v = .bool true
    | 10 => ∃ b, v = .pointer (some ⟨b, 0, none⟩) ∧ w0.heap.size ≤ b ∧ (bs[0]? = some false → Arr W b 23 [.string ⟨#[]⟩, .int .i64 0, .int .i64 0]) ∧ (bs[0]? = some true → Arr W b 23 [.string ⟨#[103, 111, 108, 100]⟩, .int .i64 cap, .int .i64 fill])
    | 11 => bs[0]? = some true
    | 12 => v = .bool true
    | _ => True) (cs_inj (by decide)) (by decide) (by kernel_rfl) (by kernel_rfl) (by kernel_rfl) (by kernel_rfl) ((Ext.rfl' w0).dr) (fun bs W1 W2 h e => h.tr e) ?_ ?_ ?_
  · intro bs i v W1 W2 e1 e2 h
    match i, h with
    | 0, h => exact h
    | 1, h => exact h
    | 2, h => exact h
    | 3, h => exact h
    | 4, h => exact h
    | 5, h => exact h
    | 6, h => exact h
    | 7, h => exact h
    | 8, h => exact h
    | 9, h => exact h
    | 10, ⟨b, h1, h2, h3, h4⟩ => exact ⟨b, h1, h2, fun hb => (h3 hb).ext e2 (h3 hb).lt, fun hb => (h4 hb).ext e2 (h4 hb).lt⟩
    | 11, h => exact h
    | 12, h => exact h
    | (i + 13), h => exact h
  · intro HF
    refine localsQ_ord (by decide) (fun bs u W hbs hW hno hd => ?_) ?_
    · refine opLeaves_ev HF rfl fun ev zc zg zf zt => ?_
      have t0 : ev (.tmp 0) = .pointer (some ⟨p, 0, none⟩) := zt 0
      clear zt
      exact ev_val (v := .pointer (some ⟨p, 0, none⟩)) (by go_simp) rfl
    refine localsQ_ord (by decide) (fun bs u W hbs hW hno hd => ?_) ?_
    · refine opLeaves_ev HF rfl fun ev zc zg zf zt => ?_
      have t14 : ev (.tmp 14) = u 0 := zt 14
      clear zt
      have h0 : u 0 = _ := hd 0 (by kernel_rfl)
      exact ev_val (v := .pointer (some ⟨p, 0, none⟩)) (by go_simp) rfl
    refine localsQ_ord (by decide) (fun bs u W hbs hW hno hd => ?_) ?_
    · refine opLeaves_ev HF rfl fun ev zc zg zf zt => ?_
      have t15 : ev (.tmp 15) = u 1 := zt 15
      clear zt
      have h1 : u 1 = _ := hd 1 (by kernel_rfl)
      exact ev_val (v := .pointer (some ⟨p, 0, none⟩)) (by go_simp) rfl
    refine localsQ_ord (by decide) (fun bs u W hbs hW hno hd => ?_) ?_
    · refine opLeaves_ev HF rfl fun ev zc zg zf zt => ?_
      have t16 : ev (.tmp 16) = u 2 := zt 16
      clear zt
      have h2 : u 2 = _ := hd 2 (by kernel_rfl)
      have c0 := (H0.ext hW).box.cell 0
      simp only [List.getElem?_cons_zero] at c0
      exact ev_val (v := .map (some m1)) (by go_simp) rfl
    refine localsQ_ord (by decide) (fun bs u W hbs hW hno hd => ?_) ?_
    · refine opLeaves_ev HF rfl fun ev zc zg zf zt => ?_
      have t3 : ev (.tmp 3) = .pointer (some ⟨w.heap.size, 0, none⟩) := zt 3
      clear zt
      exact ev_val (v := .pointer (some ⟨w.heap.size, 1, none⟩)) (by go_simp) rfl
    refine localsQ_ord (by decide) (fun bs u W hbs hW hno hd => ?_) ?_
    · refine opLeaves_ev HF rfl fun ev zc zg zf zt => ?_
      have t18 : ev (.tmp 18) = u 4 := zt 18
      clear zt
      have h4 : u 4 = _ := hd 4 (by kernel_rfl)
      have d1 := (A0.ext hW A0.lt).cell 1
      simp only [List.getElem?_cons_zero, List.getElem?_cons_succ] at d1
      exact ev_val (v := .string ⟨#[103, 111, 108, 100]⟩) (by go_simp) rfl
    refine localsQ_ord (by decide) (fun bs u W hbs hW hno hd => ?_) ?_
    · refine opLeaves_ev HF rfl fun ev zc zg zf zt => ?_
      have t17 : ev (.tmp 17) = u 3 := zt 17
      have t19 : ev (.tmp 19) = u 5 := zt 19
      clear zt
      have h3 : u 3 = _ := hd 3 (by kernel_rfl)
      have h5 : u 5 = _ := hd 5 (by kernel_rfl)
      have hl := run_clsGet m1 (clsV cap fill) W (H0.ext hW).cls
      unfold clsV at hl
      exact ev_val (v := .tuple #[.agg #[.string ⟨#[103, 111, 108, 100]⟩, .int .i64 cap, .int .i64 fill], .bool true]) (by go_simp) rfl
    refine localsQ_ord (by decide) (fun bs u W hbs hW hno hd => ?_) ?_
    · refine opLeaves_ev HF rfl fun ev zc zg zf zt => ?_
      have t20 : ev (.tmp 20) = u 6 := zt 20
      clear zt
      have h6 : u 6 = _ := hd 6 (by kernel_rfl)
      exact ev_val (v := .tuple #[.agg #[.string ⟨#[103, 111, 108, 100]⟩, .int .i64 cap, .int .i64 fill], .bool true]) (by go_simp) rfl
    refine localsQ_ord (by decide) (fun bs u W hbs hW hno hd => ?_) ?_
    · refine opLeaves_ev HF rfl fun ev zc zg zf zt => ?_
      have t13 : ev (.tmp 13) = u 7 := zt 13
      clear zt
      have h7 : u 7 = _ := hd 7 (by kernel_rfl)
      exact ev_val (v := .agg #[.string ⟨#[103, 111, 108, 100]⟩, .int .i64 cap, .int .i64 fill]) (by go_simp) rfl
    refine localsQ_ord (by decide) (fun bs u W hbs hW hno hd => ?_) ?_
    · refine opLeaves_ev HF rfl fun ev zc zg zf zt => ?_
      have t13 : ev (.tmp 13) = u 7 := zt 13
      clear zt
      have h7 : u 7 = _ := hd 7 (by kernel_rfl)
      exact ev_val (v := .bool true) (by go_simp) rfl
    refine localsQ_ord (by decide) (fun bs u W hbs hW hno hd => ?_) ?_
    · refine opLeaves_ev HF rfl fun ev zc zg zf zt => ?_
      clear zt
      exact ev_new (v := .pointer (some ⟨W.heap.size, 0, none⟩)) (w' := W.alloc (.cells #[.string ⟨#[]⟩, .int .i64 0, .int .i64 0] 23)) (by go_simp) ((Ext.rfl' W).al _) ⟨_, rfl, hW.size, fun _ => Arr.new W _ [.string ⟨#[]⟩, .int .i64 0, .int .i64 0], fun hb => nomatch ((Eq.trans (by kernel_rfl) (hno 0 11 _ hb rfl rfl)) : true = false)⟩
    refine localsQ_turnT 0 rfl (fun q hq => cs_inj (cs := [11]) (by decide) 0 q _ rfl hq) (fun bs u W hbs hb0 hW hd hcs => ?_) ?_
    · have h10 := hd 10 (by kernel_rfl)
      have h8 : u 8 = _ := hd 8 (by kernel_rfl)
      have hset : (bs.set 0 true)[0]? = some true := List.getElem?_set_self (by rw [hbs]; decide)
      obtain ⟨g9, e9, hg9, hc9, _⟩ := h10
      have hA9 := hc9 hb0
      obtain ⟨W', hW'⟩ : ∃ W' : World, W' = ((W.setCell ⟨g9, 0, none⟩ (.string ⟨#[103, 111, 108, 100]⟩)).setCell ⟨g9, 1, none⟩ (.int .i64 cap)).setCell ⟨g9, 2, none⟩ (.int .i64 fill) := ⟨_, rfl⟩
      refine turnOk_skip (w' := W') rfl (by rw [hW']; exact run_store_cls rfl (by go_simp) (by go_simp) hA9) ?_ hset ?_
      · rw [hW']; exact ((hW.st (p := ⟨g9, 0, none⟩) hg9 _).st (p := ⟨g9, 1, none⟩) hg9 _).st (p := ⟨g9, 2, none⟩) hg9 _
      · intro k h
        match k, h with
        | 0, h => exact h
        | 1, h => exact h
        | 2, h => exact h
        | 3, h => exact h
        | 4, h => exact h
        | 5, h => exact h
        | 6, h => exact h
        | 7, h => exact h
        | 8, h => exact h
        | 9, h => exact h
        | 10, ⟨b, h1, h2, _, _⟩ => rw [e9] at h1; cases h1; exact ⟨g9, e9, h2, fun hb => (by rw [hset] at hb; cases hb), fun _ => by rw [hW']; exact ((hA9.set 0 _).set 1 _).set 2 _⟩
        | 11, _ => exact hset
        | 12, h => exact h
        | (k + 13), h => exact h
    refine localsQ_ord (by decide) (fun bs u W hbs hW hno hd => ?_) localsQ_nil
    · refine opLeaves_ev HF rfl fun ev zc zg zf zt => ?_
      have t22 : ev (.tmp 22) = u 9 := zt 22
      clear zt
      have h9 : u 9 = _ := hd 9 (by kernel_rfl)
      exact ev_val (v := .bool true) (by go_simp) rfl
  · intro u3 w3 hW3 hV
    obtain ⟨g3, h10, hg3, _, hr3⟩ := hV 10 (by decide)
    have A3 := hr3 rfl
    have h12 : u3 12 = _ := hV 12 (by decide)
    have H3 := H0.ext hW3
    have B3 := A0.ext hW3 A0.lt
    have R3 := Arr.ext R0 hW3 (Arr.lt R0)
    have F3 := E0.tr hW3
    have hs03 := F3.size
    have hs3 := hW3.size
    clear hV hr3 A0 R0 E0 hW3 H0
    go_simp
    go_upto_region 6 with fail
    have hl6 := Kp.mk (fun W (hW : Ext w3 W) => run_bkGet m2 o W (H3.ext hW).bks)
    obtain ⟨⟨⟨gc, gf, gh, ga⟩, gok⟩, hgot⟩ : ∃ r, bkGot o = r := ⟨_, rfl⟩
    simp only [hgot] at hl6
    have HG := Kp.mk hgot
    clear hgot h10 h12
    refine wp_region_stageE [10] (fun bs W => Ext w3 W) (fun bs i v W => match i with
      | 0 => v = .pointer (some ⟨p, 0, none⟩)
      | 1 => v = .pointer (some ⟨p, 0, none⟩)
      | 2 => v = .pointer (some ⟨p, 1, none⟩)
      | 3 => v = .map (some m2)
      | 4 => v = .agg #[.string ⟨#[97]⟩, .string ⟨#[103, 111, 108, 100]⟩]
      | 5 => v = .tuple #[.agg #[.int .i64 gc, .int .i64 gf, .int .i64 gh, .int .i64 ga], .bool gok]
      | 6 => v = .tuple #[.agg #[.int .i64 gc, .int .i64 gf, .int .i64 gh, .int .i64 ga], .bool gok]
      | 7 => v = .agg #[.int .i64 gc, .int .i64 gf, .int .i64 gh, .int .i64 ga]
      | 8 => v = .bool gok
      | 9 => ∃ b, v = .pointer (some ⟨b, 0, none⟩) ∧ w3.heap.size ≤ b ∧ (bs[0]? = some false → BkB W b 0 0 0 0) ∧ (bs[0]? = some true → BkB W b gc gf gh ga)
      | 10 => bs[0]? = some true
      | 11 => v = .bool gok
      | _ => True) (cs_inj (by decide)) (by decide) (by kernel_rfl) (by kernel_rfl) (by kernel_rfl) (by kernel_rfl) ((Ext.rfl' w3).dr) (fun bs W1 W2 h e => h.tr e) ?_ ?_ ?_
    · intro bs i v W1 W2 e1 e2 h
      match i, h with
      | 0, h => exact h
      | 1, h => exact h
      | 2, h => exact h
      | 3, h => exact h
      | 4, h => exact h
      | 5, h => exact h
      | 6, h => exact h
      | 7, h => exact h
      | 8, h => exact h
      | 9, ⟨b, h1, h2, h3, h4⟩ => exact ⟨b, h1, h2, fun hb => Arr.ext (h3 hb) e2 (Arr.lt (h3 hb)), fun hb => Arr.ext (h4 hb) e2 (Arr.lt (h4 hb))⟩
      | 10, h => exact h
      | 11, h => exact h
      | (i + 12), h => exact h
    · intro HF
      refine localsQ_ord (by decide) (fun bs u W hbs hW hno hd => ?_) ?_
      · refine opLeaves_ev HF rfl fun ev zc zg zf zt => ?_
        have t0 : ev (.tmp 0) = .pointer (some ⟨p, 0, none⟩) := zt 0
        clear zt
        exact ev_val (v := .pointer (some ⟨p, 0, none⟩)) (by go_simp) rfl
      refine localsQ_ord (by decide) (fun bs u W hbs hW hno hd => ?_) ?_
      · refine opLeaves_ev HF rfl fun ev zc zg zf zt => ?_
        have t27 : ev (.tmp 27) = u 0 := zt 27
        clear zt
        have h0 : u 0 = _ := hd 0 (by kernel_rfl)
        exact ev_val (v := .pointer (some ⟨p, 0, none⟩)) (by go_simp) rfl
      refine localsQ_ord (by decide) (fun bs u W hbs hW hno hd => ?_) ?_
      · refine opLeaves_ev HF rfl fun ev zc zg zf zt => ?_
        have t28 : ev (.tmp 28) = u 1 := zt 28
        clear zt
        have h1 : u 1 = _ := hd 1 (by kernel_rfl)
        exact ev_val (v := .pointer (some ⟨p, 1, none⟩)) (by go_simp) rfl
      refine localsQ_ord (by decide) (fun bs u W hbs hW hno hd => ?_) ?_
      · refine opLeaves_ev HF rfl fun ev zc zg zf zt => ?_
        have t29 : ev (.tmp 29) = u 2 := zt 29
        clear zt
        have h2 : u 2 = _ := hd 2 (by kernel_rfl)
        have c1 := (H3.ext hW).box.cell 1
        simp only [List.getElem?_cons_zero, List.getElem?_cons_succ] at c1
        exact ev_val (v := .map (some m2)) (by go_simp) rfl
      refine localsQ_ord (by decide) (fun bs u W hbs hW hno hd => ?_) ?_
      · refine opLeaves_ev HF rfl fun ev zc zg zf zt => ?_
        have t3 : ev (.tmp 3) = .pointer (some ⟨w.heap.size, 0, none⟩) := zt 3
        clear zt
        have d0 := (B3.ext hW B3.lt).cell 0; have d1 := (B3.ext hW B3.lt).cell 1
        simp only [List.getElem?_cons_zero, List.getElem?_cons_succ] at d0 d1
        exact ev_val (v := .agg #[.string ⟨#[97]⟩, .string ⟨#[103, 111, 108, 100]⟩]) (by go_simp) rfl
      refine localsQ_ord (by decide) (fun bs u W hbs hW hno hd => ?_) ?_
      · refine opLeaves_ev HF rfl fun ev zc zg zf zt => ?_
        have t30 : ev (.tmp 30) = u 3 := zt 30
        have t31 : ev (.tmp 31) = u 4 := zt 31
        clear zt
        have h3 : u 3 = _ := hd 3 (by kernel_rfl)
        have h4 : u 4 = _ := hd 4 (by kernel_rfl)
        have hl := hl6.out W hW
        unfold whoV at hl
        exact ev_val (v := .tuple #[.agg #[.int .i64 gc, .int .i64 gf, .int .i64 gh, .int .i64 ga], .bool gok]) (by go_simp) rfl
      refine localsQ_ord (by decide) (fun bs u W hbs hW hno hd => ?_) ?_
      · refine opLeaves_ev HF rfl fun ev zc zg zf zt => ?_
        have t32 : ev (.tmp 32) = u 5 := zt 32
        clear zt
        have h5 : u 5 = _ := hd 5 (by kernel_rfl)
        exact ev_val (v := .tuple #[.agg #[.int .i64 gc, .int .i64 gf, .int .i64 gh, .int .i64 ga], .bool gok]) (by go_simp) rfl
      refine localsQ_ord (by decide) (fun bs u W hbs hW hno hd => ?_) ?_
      · refine opLeaves_ev HF rfl fun ev zc zg zf zt => ?_
        have t26 : ev (.tmp 26) = u 6 := zt 26
        clear zt
        have h6 : u 6 = _ := hd 6 (by kernel_rfl)
        exact ev_val (v := .agg #[.int .i64 gc, .int .i64 gf, .int .i64 gh, .int .i64 ga]) (by go_simp) rfl
      refine localsQ_ord (by decide) (fun bs u W hbs hW hno hd => ?_) ?_
      · refine opLeaves_ev HF rfl fun ev zc zg zf zt => ?_
        have t26 : ev (.tmp 26) = u 6 := zt 26
        clear zt
        have h6 : u 6 = _ := hd 6 (by kernel_rfl)
        exact ev_val (v := .bool gok) (by go_simp) rfl
      refine localsQ_ord (by decide) (fun bs u W hbs hW hno hd => ?_) ?_
      · refine opLeaves_ev HF rfl fun ev zc zg zf zt => ?_
        clear zt
        exact ev_new (v := .pointer (some ⟨W.heap.size, 0, none⟩)) (w' := W.alloc (.cells #[.int .i64 0, .int .i64 0, .int .i64 0, .int .i64 0] 63)) (by go_simp) ((Ext.rfl' W).al _) ⟨_, rfl, hW.size, fun _ => Arr.new W _ (bkC 0 0 0 0), fun hb => nomatch ((Eq.trans (by kernel_rfl) (hno 0 10 _ hb rfl rfl)) : true = false)⟩
      refine localsQ_turnT 0 rfl (fun q hq => cs_inj (cs := [10]) (by decide) 0 q _ rfl hq) (fun bs u W hbs hb0 hW hd hcs => ?_) ?_
      · have h9 := hd 9 (by kernel_rfl)
        have h7 : u 7 = _ := hd 7 (by kernel_rfl)
        have hset : (bs.set 0 true)[0]? = some true := List.getElem?_set_self (by rw [hbs]; decide)
        obtain ⟨g9, e9, hg9, hc9, _⟩ := h9
        have hA9 := hc9 hb0
        obtain ⟨W', hW'⟩ : ∃ W' : World, W' = (((W.setCell ⟨g9, 0, none⟩ (.int .i64 gc)).setCell ⟨g9, 1, none⟩ (.int .i64 gf)).setCell ⟨g9, 2, none⟩ (.int .i64 gh)).setCell ⟨g9, 3, none⟩ (.int .i64 ga) := ⟨_, rfl⟩
        refine turnOk_skip (w' := W') rfl (by rw [hW']; exact run_store_bk rfl (by go_simp) (by go_simp) hA9) ?_ hset ?_
        · rw [hW']; exact (((hW.st (p := ⟨g9, 0, none⟩) hg9 _).st (p := ⟨g9, 1, none⟩) hg9 _).st (p := ⟨g9, 2, none⟩) hg9 _).st (p := ⟨g9, 3, none⟩) hg9 _
        · intro k h
          match k, h with
          | 0, h => exact h
          | 1, h => exact h
          | 2, h => exact h
          | 3, h => exact h
          | 4, h => exact h
          | 5, h => exact h
          | 6, h => exact h
          | 7, h => exact h
          | 8, h => exact h
          | 9, ⟨b, h1, h2, _, _⟩ => rw [e9] at h1; cases h1; exact ⟨g9, e9, h2, fun hb => (by rw [hset] at hb; cases hb), fun _ => by rw [hW']; exact (((Arr.set hA9 0 _).set 1 _).set 2 _).set 3 _⟩
          | 10, _ => exact hset
          | 11, h => exact h
          | (k + 12), h => exact h
      refine localsQ_ord (by decide) (fun bs u W hbs hW hno hd => ?_) localsQ_nil
      · refine opLeaves_ev HF rfl fun ev zc zg zf zt => ?_
        have t34 : ev (.tmp 34) = u 8 := zt 34
        clear zt
        have h8 : u 8 = _ := hd 8 (by kernel_rfl)
        exact ev_val (v := .bool gok) (by go_simp) rfl
    · intro u6 w6 hW6 hV
      obtain ⟨g6, h9, hg6, _, hr6⟩ := hV 9 (by decide)
      have A6 := hr6 rfl
      have h11 : u6 11 = _ := hV 11 (by decide)
      have H6 := H3.ext hW6
      have C6 := A3.ext hW6 A3.lt
      have R6 := Arr.ext R3 hW6 (Arr.lt R3)
      have F6 := F3.tr hW6
      have hs6 := hW6.size
      clear hV hr6 B3 A3 R3 F3 hW6 H3 hl6
      go_simp
      cases o with
      | some q =>
        obtain ⟨q1, q2, q3, q4⟩ := q
        have hg := HG.out
        have hq := HO.out
        obtain ⟨⟨rfl, rfl, rfl, rfl⟩, rfl⟩ : (q1 = gc ∧ q2 = gf ∧ q3 = gh ∧ q4 = ga) ∧ true = gok := by simpa [bkGot] using hg
        obtain ⟨rfl, rfl, rfl, rfl⟩ : x = q1 ∧ y = q2 ∧ h = q3 ∧ t = q4 := by
          simp only [bkOf, Prod.mk.injEq] at hq
          exact ⟨hq.1.symm, hq.2.1.symm, hq.2.2.1.symm, hq.2.2.2.symm⟩
        have B8 := A6; have R8 := R6; have F8 := F6
        clear A6 R6 F6 C6 H6 hg hq HG HO h9 h11
        obtain ⟨c0, c1, c2, c3, _⟩ := BkB.cells B8
        obtain ⟨d0, d1, d2, d3, df⟩ := BkB.cells R8
        have f0 := df 0; have f1 := df 1; have f2 := df 2; have f3 := df 3
        clear df B8
        go_wp2
        have z := bk_store F8 (show w.heap.size ≤ w.heap.size + 1 by omega) R8 x y h t
        revert z
        generalize World.setCell _ ⟨w.heap.size + 1, 3, none⟩ (.int .i64 (t : Int)) = wz
        intro ⟨zE, zA⟩
        obtain ⟨z0, z1, z2, z3, _⟩ := zA.cells
        refine bodyPost_ret (v := .tuple #[.agg #[.int .i64 x, .int .i64 y, .int .i64 h, .int .i64 t], .bool true]) (by simp [results, Try.results32, go_sem, z0, z1, z2, z3]) rfl ?_
        exact ⟨rfl, zE⟩
      | none =>
        have hg := HG.out
        have hq := HO.out
        obtain ⟨⟨rfl, rfl, rfl, rfl⟩, rfl⟩ : (0 = gc ∧ 0 = gf ∧ 0 = gh ∧ 0 = ga) ∧ false = gok := by simpa [bkGot] using hg
        obtain ⟨rfl, rfl, rfl, rfl⟩ : cap = x ∧ fill = y ∧ 0 = h ∧ 0 = t := by simpa [bkOf] using hq
        clear hg hq HG HO h9 h11
        go_upto_region 8 with fail
        refine wp_region_tailsE (fun i v W => match i with
          | 0 => v = .agg #[.string ⟨#[103, 111, 108, 100]⟩, .int .i64 cap, .int .i64 fill]
          | 1 => v = .pointer (some ⟨p, 0, none⟩)
          | 2 => v = .pointer (some ⟨p, 0, none⟩)
          | 3 => v = .pointer (some ⟨p, 2, none⟩)
          | 4 => v = .int .i64 0
          | 5 => v = bkV cap fill 0 0
          | _ => True) 6 (by kernel_rfl) (by kernel_rfl) (by kernel_rfl) (by decide) (by kernel_rfl) (by kernel_rfl) (by kernel_rfl) (by kernel_rfl) ?_ ?_ ?_
        · intro i v W1 W2 e1 e2 h
          match i, h with
          | 0, h => exact h
          | 1, h => exact h
          | 2, h => exact h
          | 3, h => exact h
          | 4, h => exact h
          | 5, h => exact h
          | (i + 6), h => exact h
        · intro HF
          refine localsR_cons (fun u W hW hd => ?_) ?_
          · refine opLeaves_ev HF rfl fun ev zc zg zf zt => ?_
            have t6 : ev (.tmp 6) = .pointer (some ⟨g3, 0, none⟩) := zt 6
            clear zt
            have d0 := (C6.ext hW C6.lt).cell 0; have d1 := (C6.ext hW C6.lt).cell 1; have d2 := (C6.ext hW C6.lt).cell 2
            simp only [List.getElem?_cons_zero, List.getElem?_cons_succ] at d0 d1 d2
            exact ev_val (v := .agg #[.string ⟨#[103, 111, 108, 100]⟩, .int .i64 cap, .int .i64 fill]) (by go_simp) rfl
          refine localsR_cons (fun u W hW hd => ?_) ?_
          · refine opLeaves_ev HF rfl fun ev zc zg zf zt => ?_
            have t0 : ev (.tmp 0) = .pointer (some ⟨p, 0, none⟩) := zt 0
            clear zt
            exact ev_val (v := .pointer (some ⟨p, 0, none⟩)) (by go_simp) rfl
          refine localsR_cons (fun u W hW hd => ?_) ?_
          · refine opLeaves_ev HF rfl fun ev zc zg zf zt => ?_
            have t38 : ev (.tmp 38) = u 1 := zt 38
            clear zt
            have h1 : u 1 = _ := hd 1 (by kernel_rfl)
            exact ev_val (v := .pointer (some ⟨p, 0, none⟩)) (by go_simp) rfl
          refine localsR_cons (fun u W hW hd => ?_) ?_
          · refine opLeaves_ev HF rfl fun ev zc zg zf zt => ?_
            have t39 : ev (.tmp 39) = u 2 := zt 39
            clear zt
            have h2 : u 2 = _ := hd 2 (by kernel_rfl)
            exact ev_val (v := .pointer (some ⟨p, 2, none⟩)) (by go_simp) rfl
          refine localsR_cons (fun u W hW hd => ?_) ?_
          · refine opLeaves_ev HF rfl fun ev zc zg zf zt => ?_
            have t40 : ev (.tmp 40) = u 3 := zt 40
            clear zt
            have h3 : u 3 = _ := hd 3 (by kernel_rfl)
            have c2 := (H6.ext hW).box.cell 2
            simp only [List.getElem?_cons_zero, List.getElem?_cons_succ] at c2
            exact ev_val (v := .int .i64 0) (by go_simp) rfl
          refine localsR_cons (fun u W hW hd => ?_) localsR_nil
          · refine opLeaves_ev HF rfl fun ev zc zg zf zt => ?_
            have t37 : ev (.tmp 37) = u 0 := zt 37
            have t41 : ev (.tmp 41) = u 4 := zt 41
            clear zt
            have h0 : u 0 = _ := hd 0 (by kernel_rfl)
            have h4 : u 4 = _ := hd 4 (by kernel_rfl)
            exact ev_call (f := 46) (args := #[.agg #[.string ⟨#[103, 111, 108, 100]⟩, .int .i64 cap, .int .i64 fill], .int .i64 0]) (by go_simp) ((bknew_any _ cap fill 0 W).mono (by rintro e9 W9 ⟨rfl, h9⟩; exact ⟨_, rfl, h9, rfl⟩))
        · intro u8 w8 hW8 hV
          have h5 : u8 5 = _ := hV 5 (by decide)
          unfold bkV at h5
          have A8 := Arr.ext A6 hW8 (Arr.lt A6)
          have R7 := Arr.ext R6 hW8 (Arr.lt R6)
          have F7 := F6.tr hW8
          clear hV A6 R6 F6 C6 H6
          obtain ⟨c0, c1, c2, c3, cf⟩ := BkB.cells A8
          have k0 := cf 0; have k1 := cf 1; have k2 := cf 2; have k3 := cf 3
          go_simp
          go_upto_region 9 with fail
          have z := bk_store F7 (show w.heap.size ≤ g6 by omega) A8 cap fill 0 0
          obtain ⟨V, hV⟩ : ∃ V : World, (((w8.setCell ⟨g6, 0, none⟩ (.int .i64 cap)).setCell ⟨g6, 1, none⟩ (.int .i64 fill)).setCell ⟨g6, 2, none⟩ (.int .i64 0)).setCell ⟨g6, 3, none⟩ (.int .i64 0) = V := ⟨_, rfl⟩
          rw [show ((0 : Nat) : Int) = 0 from rfl, hV] at z
          rw [hV]
          obtain ⟨F8, B8⟩ := z
          have hne : w.heap.size + 1 ≠ g6 := by omega
          have R8 : BkB V (w.heap.size + 1) 0 0 0 0 := by rw [← hV]; exact bk_other (bk_other (bk_other (bk_other R7 hne _ _) hne _ _) hne _ _) hne _ _
          clear c0 c1 c2 c3 cf k0 k1 k2 k3 hV A8 R7 F7 h5
          obtain ⟨c0, c1, c2, c3, _⟩ := BkB.cells B8
          obtain ⟨d0, d1, d2, d3, df⟩ := BkB.cells R8
          have f0 := df 0; have f1 := df 1; have f2 := df 2; have f3 := df 3
          clear df B8
          go_wp2
          have z := bk_store F8 (show w.heap.size ≤ w.heap.size + 1 by omega) R8 cap fill 0 0
          revert z
          rw [show ((0 : Nat) : Int) = 0 from rfl]
          generalize World.setCell _ ⟨w.heap.size + 1, 3, none⟩ (.int .i64 0) = wz
          intro ⟨zE, zA⟩
          obtain ⟨z0, z1, z2, z3, _⟩ := zA.cells
          refine bodyPost_ret (v := .tuple #[.agg #[.int .i64 cap, .int .i64 fill, .int .i64 0, .int .i64 0], .bool true]) (by simp [results, Try.results32, go_sem, z0, z1, z2, z3]) rfl ?_
          exact ⟨rfl, zE⟩
end Go.Proofs.Ytmnpbpfeoackiaa
