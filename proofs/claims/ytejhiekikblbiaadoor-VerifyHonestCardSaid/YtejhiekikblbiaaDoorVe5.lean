/-
  Package verify: a proof is gone through. Condition: the package's table holds the constants.
-/
import Derived.Test.YtejhiekikblbiaaDoorVe4
import Derived.WalkMore
import Derived.Outline
namespace Go
open Go.Proofs.YtejhiekikblbiaaDoor Go.RowKit
section
variable {P : Program} {t e : TypeId} {z : Value} {bytes : Nat}
/-- make([]T, n), elements of one cell, in a region that draws. -/
theorem leaves_make (E : Elem P t e z 1 bytes) (hz1 : z.cells = #[z]) {ops : Array Oper} {o : Oper} {a : Act} {w : World} {Vi : Value → World → Prop} (hw : Region.wanted o (yielded ops a.tmps) = true) (l c : Operand) (hop : o.op = Op.makeSlice t l c) {kl kc : IntKind} (n : Nat) (hl : a.eval l = .int kl n) (hc : a.eval c = .int kc n)
    (hb : n * bytes ≤ 140737488355328) (h63 : n ≤ 9223372036854775807) (hv : ∀ w', w'.ownsRow w.heap.size e 1 (.slice (some ⟨w.heap.size, 0, none⟩) n n) n (List.replicate n z) → Ext w w' → Vi (.slice (some ⟨w.heap.size, 0, none⟩) n n) w') : OpLeaves P ops Vi o a w := by
  obtain ⟨i, hi, hz, hsz, hby⟩ := E.hi
  obtain ⟨w', hrun, r1, r2⟩ := run_make_full (P := P) w w.heap.size t e i z 1 E.ht hi hz hsz kl kc n (by rw [hby, Nat.mul_comm]; omega) (by unfold maxLen; omega) (Nat.le_refl _)
  rw [hz1, Nat.mul_one, toList_madeCells_one] at r1
  have hE : Ext w w' := (Ext.rfl' w).gr r2 (fun k hk => by cases hk)
  refine leaves_new hw (v := .slice (some ⟨w.heap.size, 0, none⟩) n n) (w' := w') ?_ hE (hv w' r1 hE)
  simp [execOp, hop, hl, hc, hrun, Result.andThen]
end
end Go
namespace Go.Proofs.YtejhiekikblbiaaDoor
open Go.RowKit

/-- A token that is not too long. -/
def OkT (d : TokA) : Prop := d.id.length ≤ 10000 ∧ d.tag.length ≤ 10000 ∧ (∀ x ∈ d.l, x.1.length ≤ 10000 ∧ x.2.length ≤ 10000) ∧ d.l.length ≤ 10000
theorem OkT.short {d : TokA} (h : OkT d) : Short1 d.l := fun x hx => by have := h.2.2.1 x hx; omega
def RunPost (w : World) (t : TokA) (mv : Value) (more : List TokA) (r : PrL × Nat) (e : Ending) (V1 : World) : Prop :=
  ∃ g L vu vl vt, e = .returned (.tuple #[.pointer (some ⟨g, 0, none⟩), .int .i64 r.2]) ∧ PrSt w V1 g t mv more r.1 L vu vl vt

set_option maxRecDepth 100000 in
set_option maxHeartbeats 16000000 in
theorem vrun_any (k id tag : List UInt8) (A : Option Addr) (c : Nat) (l : List LinkL) (Am : Option Addr) (cm : Nat) (more : List TokA) (w : World) (hT : Tab w) (hl : RdLinks w w.heap.size (.slice A l.length c) l) (hm : RdToks w w.heap.size (.slice Am more.length cm) more) (hk : k.length ≤ 10000) (ht : OkT ⟨id, tag, A, c, l⟩) (hml : ∀ d ∈ more, OkT d) (hn : more.length ≤ 10000) :
    Calls Tryd.prog 69 #[.string (ofL k), bunV id (.slice A l.length c) tag (.slice Am more.length cm)] w (RunPost w ⟨id, tag, A, c, l⟩ (.slice Am more.length cm) more (proveL k ⟨id, l, tag⟩ (more.map TokA.plain))) := by
  have cG := Kp.mk (show ∀ W, Ext w W → _ from fun W h => vgreat_any id tag A c l (.slice Am more.length cm) more W (hm.at h) hn (by have := ht.2.2.2; dsimp only at this; omega) (fun d hd => by have := (hml d hd).2.2.2; omega))
  obtain ⟨G, hG⟩ : ∃ G, greatB ⟨id, l, tag⟩ (more.map TokA.plain) = G := ⟨_, rfl⟩
  rw [hG] at cG
  obtain ⟨X, hX⟩ : ∃ X, proveL k ⟨id, l, tag⟩ (more.map TokA.plain) = X := ⟨_, rfl⟩
  have HG3 := Kp.mk (show G = true → X = (⟨List.replicate more.length false, [], [], 0, []⟩, 3) from fun h => by rw [← hX, prove_great (hG.trans h), List.length_map])
  have HT8 := Kp.mk (show G = false → lastL k id l ≠ tag → X = (⟨List.replicate more.length false, [], [], l.length + 1, textsL k id l⟩, 8) from fun h h2 => by rw [← hX, prove_tag8 (hG.trans h) h2, List.length_map])
  have HGO := Kp.mk (show G = false → lastL k id l = tag → ∀ s b, goL tag (more.map TokA.plain) (more.length + 2) (begL k ⟨id, l, tag⟩ (more.map TokA.plain)) 0 = (s, b) → X = (s, if (b && s.used.all _root_.id) = true then 0 else 11) from fun h h2 s b h3 => by
    rw [← hX]; exact prove_go (hG.trans h) h2 (by rw [List.length_map]; exact h3))
  have HSM := Kp.mk (show G = false → _ from fun h => great_small (hG.trans h))
  have HWK := Kp.mk (show X.1.work ≤ mostL ⟨id, l, tag⟩ (more.map TokA.plain) by rw [← hX]; exact work_most _ _ _)
  rw [hX]
  obtain ⟨W0, hW0, E0, B1⟩ := bun_box w (.string (ofL id)) (.slice A l.length c) (.string (ofL tag)) (.slice Am more.length cm)
  have HW := Kp.mk hW0
  have HL := Kp.mk hl; have HM := Kp.mk hm; have HML := Kp.mk hml; have HTT := Kp.mk ht
  clear hG hX hW0 hl hm hml ht
  unfold bunV at *
  go_enter Tryd.func69, Tryd.ntmps69
  go_wp2_with fail
  go_step3
  go_upto_region 1 with fail
  rw [HW.out]
  clear HW
  refine wp_region_stage [] (fun bs W => Ext W0 W) (fun bs i v W => match i with
    | 0 => v = .agg #[.string (ofL id), .slice A l.length c, .string (ofL tag), .slice Am more.length cm]
    | 1 => v = .pointer (some ⟨w.heap.size, 3, none⟩)
    | 2 => v = .slice Am more.length cm
    | 3 => v = .int .i64 more.length
    | 4 => ∃ gu, v = .slice (some ⟨gu, 0, none⟩) more.length more.length ∧ W.ownsRow w.heap.size 4 1 (.slice (some ⟨gu, 0, none⟩) more.length more.length) more.length (List.replicate more.length (.bool false))
    | 5 => ∃ gu, v = .agg #[.string (ofL id), .slice A l.length c, .string (ofL tag), .slice Am more.length cm, .slice (some ⟨gu, 0, none⟩) more.length more.length, .slice none 0 0, .slice none 0 0, .int .i64 0] ∧ W.ownsRow w.heap.size 4 1 (.slice (some ⟨gu, 0, none⟩) more.length more.length) more.length (List.replicate more.length (.bool false))
    | 6 => ∃ g gu, v = .pointer (some ⟨g, 0, none⟩) ∧ w.heap.size ≤ g ∧ Arr W g 94 (prCells ⟨id, tag, A, c, l⟩ (.slice Am more.length cm) (.slice (some ⟨gu, 0, none⟩) more.length more.length) (.slice none 0 0) (.slice none 0 0) 0) ∧ W.ownsRow w.heap.size 4 1 (.slice (some ⟨gu, 0, none⟩) more.length more.length) more.length (List.replicate more.length (.bool false))
    | 7 => ∃ g gu, v = .pointer (some ⟨g, 0, none⟩) ∧ w.heap.size ≤ g ∧ Arr W g 94 (prCells ⟨id, tag, A, c, l⟩ (.slice Am more.length cm) (.slice (some ⟨gu, 0, none⟩) more.length more.length) (.slice none 0 0) (.slice none 0 0) 0) ∧ W.ownsRow w.heap.size 4 1 (.slice (some ⟨gu, 0, none⟩) more.length more.length) more.length (List.replicate more.length (.bool false))
    | _ => True) (cs_inj (by decide)) (by decide) (by kernel_rfl) (by kernel_rfl) (by kernel_rfl) ((Ext.rfl' W0).dr) (fun bs W1 W2 h e => h.tr e) ?_ ?_ ?_
  · intro bs i v W1 W2 e1 e2 h
    match i, h with
    | 0, h => exact h
    | 1, h => exact h
    | 2, h => exact h
    | 3, h => exact h
    | 4, ⟨gu, h1, h2⟩ => exact ⟨gu, h1, own_ext h2 (fun j _ hj => e2.block j hj)⟩
    | 5, ⟨gu, h1, h2⟩ => exact ⟨gu, h1, own_ext h2 (fun j _ hj => e2.block j hj)⟩
    | 6, ⟨g, gu, h1, h2, h3, h4⟩ => exact ⟨g, gu, h1, h2, h3.ext e2 h3.lt, own_ext h4 (fun j _ hj => e2.block j hj)⟩
    | 7, ⟨g, gu, h1, h2, h3, h4⟩ => exact ⟨g, gu, h1, h2, h3.ext e2 h3.lt, own_ext h4 (fun j _ hj => e2.block j hj)⟩
    | (i + 8), h => exact h
  · refine localsQ_ord (by decide) (fun bs u W hbs hW hno hd => ?_) ?_
    · have q0 := (B1.ext hW B1.lt).cell 0; have q1 := (B1.ext hW B1.lt).cell 1; have q2 := (B1.ext hW B1.lt).cell 2; have q3 := (B1.ext hW B1.lt).cell 3
      simp only [List.getElem?_cons_zero, List.getElem?_cons_succ] at q0 q1 q2 q3
      exact leaves_val rfl (v := .agg #[.string (ofL id), .slice A l.length c, .string (ofL tag), .slice Am more.length cm]) (by go_simp) rfl
    refine localsQ_ord (by decide) (fun bs u W hbs hW hno hd => leaves_val rfl (v := .pointer (some ⟨w.heap.size, 3, none⟩)) (by go_simp) rfl) ?_
    refine localsQ_ord (by decide) (fun bs u W hbs hW hno hd => ?_) ?_
    · have h1 : u 1 = _ := hd 1 (by kernel_rfl)
      have q3 := (B1.ext hW B1.lt).cell 3
      simp only [List.getElem?_cons_zero, List.getElem?_cons_succ] at q3
      exact leaves_val rfl (v := .slice Am more.length cm) (by go_simp) rfl
    refine localsQ_ord (by decide) (fun bs u W hbs hW hno hd => ?_) ?_
    · have h2 : u 2 = _ := hd 2 (by kernel_rfl)
      exact leaves_val rfl (v := .int .i64 more.length) (by go_simp) rfl
    refine localsQ_ord (by decide) (fun bs u W hbs hW hno hd => ?_) ?_
    · have h3 : u 3 = _ := hd 3 (by kernel_rfl)
      exact leaves_make Tryd.elemBool rfl rfl _ _ rfl (kl := .i64) (kc := .i64) more.length (by go_simp) (by go_simp) (by omega) (by omega) (fun w' h1 h2 => ⟨_, rfl, own_more h1 (by have := hW.size; have := E0.size; omega)⟩)
    refine localsQ_ord (by decide) (fun bs u W hbs hW hno hd => ?_) ?_
    · have h0 : u 0 = _ := hd 0 (by kernel_rfl)
      have h4 := hd 4 (by kernel_rfl)
      obtain ⟨gu, e4, h4⟩ := h4
      exact leaves_val rfl (v := .agg #[.string (ofL id), .slice A l.length c, .string (ofL tag), .slice Am more.length cm, .slice (some ⟨gu, 0, none⟩) more.length more.length, .slice none 0 0, .slice none 0 0, .int .i64 0]) (by go_simp) ⟨gu, rfl, h4⟩
    refine localsQ_ord (by decide) (fun bs u W hbs hW hno hd => ?_) ?_
    · have h5 := hd 5 (by kernel_rfl)
      obtain ⟨gu, e5, h5⟩ := h5
      exact leaves_new rfl (v := .pointer (some ⟨W.heap.size, 0, none⟩)) (w' := W.alloc (.cells (prCells ⟨id, tag, A, c, l⟩ (.slice Am more.length cm) (.slice (some ⟨gu, 0, none⟩) more.length more.length) (.slice none 0 0) (.slice none 0 0) 0).toArray 94)) (by go_simp; rfl) ((Ext.rfl' W).al _) ⟨_, gu, rfl, by have := hW.size; have := E0.size; omega, Arr.new W _ _, own_ext h5 (fun j _ hj => ((Ext.rfl' W).al _).block j hj)⟩
    refine localsQ_ord (by decide) (fun bs u W hbs hW hno hd => ?_) localsQ_nil
    · have h6 := hd 6 (by kernel_rfl)
      exact leaves_val rfl (v := u 6) (by go_simp) h6
  · intro u W1 hW1 hV
    obtain ⟨g, gu, h7, hgw, A1, U1⟩ := hV 7 (by decide)
    clear hV
    have hgu := (U1.lt gu rfl).1
    have B2 := B1.ext hW1 B1.lt
    have S1 : PrSt w W1 g ⟨id, tag, A, c, l⟩ (.slice Am more.length cm) more ⟨List.replicate more.length false, [], [], 0, []⟩ [] (.slice (some ⟨gu, 0, none⟩) more.length more.length) (.slice none 0 0) (.slice none 0 0) :=
      ⟨E0.tr hW1, hgw, A1, own_eq U1 (by simp) rfl, World.ownsRow_nil _ _ _ _, World.ownsRow_nil _ _ _ _, rfl, fun x hx => (by cases hx), fun x hx => (by cases hx)⟩
    have hg1 : w.heap.size < g := by
      rcases Nat.lt_or_ge w.heap.size g with h | h
      · exact h
      · exfalso
        obtain rfl : g = w.heap.size := by omega
        unfold Arr at A1 B2
        rw [A1] at B2
        cases B2
    clear A1 U1 B1 E0 hW1
    have q0 := B2.cell 0; have q1 := B2.cell 1; have q2 := B2.cell 2; have q3 := B2.cell 3
    simp only [List.getElem?_cons_zero, List.getElem?_cons_succ] at q0 q1 q2 q3
    go_simp
    go_wp2_with fail
    refine (cG.out _ S1.ext).mono ?_
    rintro e w2 ⟨rfl, E2⟩
    have S2 := S1.up E2
    have B3 := B2.ext E2 B2.lt
    clear S1 B2 q0 q1 q2 q3 cG E2
    cases G with
    | true =>
      have hx := HG3.out rfl
      subst hx
      go_wp2
      exact bodyPost_ret (v := .tuple #[.pointer (some ⟨g, 0, none⟩), .int .i64 3]) (by simp [results, Tryd.results69, go_sem]) rfl ⟨g, [], _, _, _, rfl, S2⟩
    | false =>
      obtain ⟨hm8, hl64, hmd, hmost⟩ := HSM.out rfl
      rw [List.length_map] at hm8
      have HT8b := Kp.mk (HT8.out rfl)
      have HGOb := Kp.mk (HGO.out rfl)
      clear HT8 HGO
      have hX2 : X.1.work ≤ 2000 := Nat.le_trans HWK.out hmost
      have q0 := B3.cell 0; have q1 := B3.cell 1; have q2 := B3.cell 2
      simp only [List.getElem?_cons_zero, List.getElem?_cons_succ] at q0 q1 q2
      have cT := Kp.mk (vtags_any S2 hT k ⟨id, tag, A, c, l⟩ (by omega) (by have := HTT.out.1; dsimp only at this ⊢; omega) HL.out HTT.out.short (by have := HTT.out.2.2.2; dsimp only at this ⊢; omega) (by dsimp only; omega))
      unfold tokAV tokV at cT
      dsimp only at cT
      clear HG3 HSM HWK hmost
      go_wp2_with fail
      refine cT.out.mono ?_
      rintro e w3 ⟨gt, ct, rfl, S3, htag, hvt, G3⟩
      dsimp only at S3
      rw [Nat.zero_add] at S3
      have B4 : Arr w3 w.heap.size 32 [.string (ofL id), .slice A l.length c, .string (ofL tag), .slice Am more.length cm] := grownBy_at G3 B3 (fun r e => by cases e; omega)
      clear S2 B3 q0 q1 q2 cT G3
      obtain ⟨W4, hW4⟩ : ∃ W4 : World, W4 = w3.alloc (.cells #[.string (ofL id), .slice A l.length c, .string (ofL tag), .slice (some ⟨gt, 0, none⟩) (l.length + 1) ct] 130) := ⟨_, rfl⟩
      have E4 : Ext w3 W4 := by rw [hW4]; exact (Ext.rfl' w3).al _
      have C4 : Arr W4 w3.heap.size 130 [.string (ofL id), .slice A l.length c, .string (ofL tag), .slice (some ⟨gt, 0, none⟩) (l.length + 1) ct] := by rw [hW4]; exact Arr.new w3 _ _
      have HW4 := Kp.mk hW4
      have HX := Kp.mk (show w.heap.size < w3.heap.size from B4.lt)
      have S4 := S3.up E4
      have tag4 : TagsAt w W4 ⟨k, ⟨id, tag, A, c, l⟩, gt, ct⟩ := own_ext htag (fun j _ hj => E4.block j hj)
      have B5 := B4.ext E4 B4.lt
      clear S3 B4 E4 htag hW4
      go_upto_region 5 with fail
      rw [← HW4.out]
      clear HW4
      obtain ⟨Z, hZ⟩ : ∃ Z, lastL k id l = Z := ⟨_, rfl⟩
      have lZ : Z.length = 32 := by rw [← hZ]; exact length_lastL _ _ _
      have cL := Kp.mk (show ∀ W, Ext W4 W → Calls Tryd.prog 96 #[.agg #[.string (ofL id), .slice A l.length c, .string (ofL tag), .slice (some ⟨gt, 0, none⟩) (l.length + 1) ct]] W fun e w' => e = .returned (.string (ofL Z)) ∧ Ext W w' from fun W h => by
        have q := vlast_any w W ⟨k, ⟨id, tag, A, c, l⟩, gt, ct⟩ (own_ext tag4 (fun j _ hj => h.block j hj)) (by dsimp only; omega) (.string (ofL id)) (.string (ofL tag)) (.slice A l.length c)
        dsimp only at q
        rw [hZ] at q
        exact q)
      have cSm := Kp.mk (show ∀ W, Calls Tryd.prog 53 #[.string (ofL Z), .string (ofL tag)] W fun e w' => e = .returned (.bool (Z == tag)) ∧ Ext W w' from fun W => by
        have q := same_any Z tag W (by omega) (by have := HTT.out.2.1; dsimp only at this; omega)
        rw [decide_eq_true lZ, Bool.true_and] at q
        exact q)
      rw [hZ] at HT8b HGOb
      have F4 := S4.ext
      clear hZ
      refine wp_region_stage [] (fun bs W => Ext W4 W) (fun bs i v W => match i with
        | 0 => v = .agg #[.string (ofL id), .slice A l.length c, .string (ofL tag), .slice (some ⟨gt, 0, none⟩) (l.length + 1) ct]
        | 1 => v = .string (ofL Z)
        | 2 => v = .pointer (some ⟨w.heap.size, 0, none⟩)
        | 3 => v = .pointer (some ⟨w.heap.size, 2, none⟩)
        | 4 => v = .string (ofL tag)
        | 5 => v = .bool (Z == tag)
        | 6 => v = .bool (!(Z == tag))
        | _ => True) (cs_inj (by decide)) (by decide) (by kernel_rfl) (by kernel_rfl) (by kernel_rfl) ((Ext.rfl' W4).dr) (fun bs W1 W2 h e => h.tr e) ?_ ?_ ?_
      · intro bs i v W1 W2 e1 e2 h
        match i, h with
        | 0, h => exact h
        | 1, h => exact h
        | 2, h => exact h
        | 3, h => exact h
        | 4, h => exact h
        | 5, h => exact h
        | 6, h => exact h
        | (i + 7), h => exact h
      · refine localsQ_ord (by decide) (fun bs u W hbs hW hno hd => ?_) ?_
        · have q0 := (C4.ext hW C4.lt).cell 0; have q1 := (C4.ext hW C4.lt).cell 1; have q2 := (C4.ext hW C4.lt).cell 2; have q3 := (C4.ext hW C4.lt).cell 3
          simp only [List.getElem?_cons_zero, List.getElem?_cons_succ] at q0 q1 q2 q3
          exact leaves_val rfl (v := .agg #[.string (ofL id), .slice A l.length c, .string (ofL tag), .slice (some ⟨gt, 0, none⟩) (l.length + 1) ct]) (by go_simp) rfl
        refine localsQ_ord (by decide) (fun bs u W hbs hW hno hd => ?_) ?_
        · have h0 : u 0 = _ := hd 0 (by kernel_rfl)
          exact leaves_call rfl (f := 96) (args := #[.agg #[.string (ofL id), .slice A l.length c, .string (ofL tag), .slice (some ⟨gt, 0, none⟩) (l.length + 1) ct]]) (by go_simp) ((cL.out W hW).mono (by rintro e9 W9 ⟨rfl, h9⟩; exact ⟨_, rfl, h9, rfl⟩))
        refine localsQ_ord (by decide) (fun bs u W hbs hW hno hd => leaves_val rfl (v := .pointer (some ⟨w.heap.size, 0, none⟩)) (by go_simp) rfl) ?_
        refine localsQ_ord (by decide) (fun bs u W hbs hW hno hd => ?_) ?_
        · have h2 : u 2 = _ := hd 2 (by kernel_rfl)
          exact leaves_val rfl (v := .pointer (some ⟨w.heap.size, 2, none⟩)) (by go_simp) rfl
        refine localsQ_ord (by decide) (fun bs u W hbs hW hno hd => ?_) ?_
        · have h3 : u 3 = _ := hd 3 (by kernel_rfl)
          have q2 := (B5.ext hW B5.lt).cell 2
          simp only [List.getElem?_cons_zero, List.getElem?_cons_succ] at q2
          exact leaves_val rfl (v := .string (ofL tag)) (by go_simp) rfl
        refine localsQ_ord (by decide) (fun bs u W hbs hW hno hd => ?_) ?_
        · have h1 : u 1 = _ := hd 1 (by kernel_rfl)
          have h4 : u 4 = _ := hd 4 (by kernel_rfl)
          exact leaves_call rfl (f := 53) (args := #[.string (ofL Z), .string (ofL tag)]) (by go_simp) ((cSm.out W).mono (by rintro e9 W9 ⟨rfl, h9⟩; exact ⟨_, rfl, h9, rfl⟩))
        refine localsQ_ord (by decide) (fun bs u W hbs hW hno hd => ?_) localsQ_nil
        · have h5 : u 5 = _ := hd 5 (by kernel_rfl)
          exact leaves_val rfl (v := .bool (!(Z == tag))) (by go_simp) rfl
      · intro u5 W5 hW5 hV
        have h6 : u5 6 = .bool (!(Z == tag)) := hV 6 (by decide)
        clear hV cL cSm
        have S5 := S4.up hW5
        have C5 := C4.ext hW5 C4.lt
        have tag5 : TagsAt w W5 ⟨k, ⟨id, tag, A, c, l⟩, gt, ct⟩ := own_ext tag4 (fun j _ hj => hW5.block j hj)
        clear S4 C4 tag4 B5 F4 hW5
        by_cases hbd : Z = tag
        · have t1 : (Z == tag) = true := by simp [hbd]
          have HGOc := Kp.mk (HGOb.out hbd)
          rw [t1] at h6
          clear hbd t1 HT8b HGOb
          go_simp
          go_upto_region 7 with fail
          refine wp_region_stages [7] (fun bs W => Ext w W ∧ w.heap.size ≤ W.heap.size ∧ Arr W g 94 (prCells ⟨id, tag, A, c, l⟩ (.slice Am more.length cm) (.slice (some ⟨gu, 0, none⟩) more.length more.length) (.slice none 0 0) (.slice none 0 0) (l.length + 1)) ∧ Arr W w3.heap.size 130 [.string (ofL id), .slice A l.length c, .string (ofL tag), .slice (some ⟨gt, 0, none⟩) (l.length + 1) ct] ∧ (bs[0]? = some false → PrSt w W g ⟨id, tag, A, c, l⟩ (.slice Am more.length cm) more ⟨List.replicate more.length false, [], [], l.length + 1, []⟩ [] (.slice (some ⟨gu, 0, none⟩) more.length more.length) (.slice none 0 0) (.slice none 0 0) ∧ TagsAt w W ⟨k, ⟨id, tag, A, c, l⟩, gt, ct⟩)) (fun bs i v W => match i with
            | 0 => v = .pointer (some ⟨g, 0, none⟩)
            | 1 => v = .pointer (some ⟨g, 0, none⟩)
            | 2 => v = .pointer (some ⟨g, 0, none⟩)
            | 3 => v = .pointer (some ⟨g, 5, none⟩)
            | 4 => v = .slice none 0 0
            | 5 => v = .agg #[.string (ofL id), .slice A l.length c, .string (ofL tag), .slice (some ⟨gt, 0, none⟩) (l.length + 1) ct]
            | 6 => ∃ b5, v = .slice (some ⟨b5, 0, none⟩) 1 1 ∧ (bs[0]? = some false → Arr W b5 130 [.string (ofL id), .slice A l.length c, .string (ofL tag), .slice (some ⟨gt, 0, none⟩) (l.length + 1) ct])
            | 7 => bs[0]? = some true ∧ PrLs w W g ⟨id, tag, A, c, l⟩ (.slice Am more.length cm) more ⟨List.replicate more.length false, [], [], l.length + 1, []⟩ [] (.slice (some ⟨gu, 0, none⟩) more.length more.length) (.slice none 0 0) (.slice none 0 0) v ⟨k, ⟨id, tag, A, c, l⟩, gt, ct⟩
            | 8 => v = .pointer (some ⟨g, 0, none⟩)
            | 9 => v = .pointer (some ⟨g, 5, none⟩)
            | _ => True) 10 (cs_inj (by decide)) (by decide) (by kernel_rfl) (by kernel_rfl) (by kernel_rfl) (by decide) (by kernel_rfl) (by kernel_rfl) (by kernel_rfl) (⟨S5.ext.dr, S5.ext.size, S5.box, C5, fun _ => ⟨S5.drew, tag5⟩⟩) (fun bs W1 W2 ⟨a, p, q, r, k⟩ e => ⟨a.tr e, by have := e.size; omega, q.ext e q.lt, r.ext e r.lt, fun hb => ⟨(k hb).1.up e, own_ext (k hb).2 (fun j _ hj => e.block j hj)⟩⟩) ?_ ?_ ?_
          · intro bs i v W1 W2 e1 e2 h
            match i, h with
            | 0, h => exact h
            | 1, h => exact h
            | 2, h => exact h
            | 3, h => exact h
            | 4, h => exact h
            | 5, h => exact h
            | 6, ⟨b5, h1, h2⟩ => exact ⟨b5, h1, fun hb => (h2 hb).ext e2 (h2 hb).lt⟩
            | 7, h => exact ⟨h.1, h.2.up e2⟩
            | 8, h => exact h
            | 9, h => exact h
            | (i + 10), h => exact h
          · refine localsT_ord (by decide) (fun bs u W hbs hW hno hd => leaves_val rfl (v := .pointer (some ⟨g, 0, none⟩)) (by go_simp) rfl) ?_
            refine localsT_ord (by decide) (fun bs u W hbs hW hno hd => leaves_val rfl (v := .pointer (some ⟨g, 0, none⟩)) (by go_simp) rfl) ?_
            refine localsT_ord (by decide) (fun bs u W hbs hW hno hd => ?_) ?_
            · have h1 : u 1 = _ := hd 1 (by kernel_rfl)
              exact leaves_val rfl (v := .pointer (some ⟨g, 0, none⟩)) (by go_simp) rfl
            refine localsT_ord (by decide) (fun bs u W hbs hW hno hd => ?_) ?_
            · have h2 : u 2 = _ := hd 2 (by kernel_rfl)
              exact leaves_val rfl (v := .pointer (some ⟨g, 5, none⟩)) (by go_simp) rfl
            refine localsT_ord (by decide) (fun bs u W hbs hW hno hd => ?_) ?_
            · have h3 : u 3 = _ := hd 3 (by kernel_rfl)
              have q5 := hW.2.2.1.cell 5
              rw [(prCells_get _ _ _ _ _ _).2.2.2.2.2.1] at q5
              exact leaves_val rfl (v := .slice none 0 0) (by go_simp) rfl
            refine localsT_ord (by decide) (fun bs u W hbs hW hno hd => ?_) ?_
            · have q0 := hW.2.2.2.1.cell 0; have q1 := hW.2.2.2.1.cell 1; have q2 := hW.2.2.2.1.cell 2; have q3 := hW.2.2.2.1.cell 3
              simp only [List.getElem?_cons_zero, List.getElem?_cons_succ] at q0 q1 q2 q3
              exact leaves_val rfl (v := .agg #[.string (ofL id), .slice A l.length c, .string (ofL tag), .slice (some ⟨gt, 0, none⟩) (l.length + 1) ct]) (by go_simp) rfl
            refine localsT_ord (by decide) (fun bs u W hbs hW hno hd => ?_) ?_
            · have h5 : u 5 = _ := hd 5 (by kernel_rfl)
              exact leaves_new rfl (v := .slice (some ⟨W.heap.size, 0, none⟩) 1 1) (w' := W.alloc (.cells #[.string (ofL id), .slice A l.length c, .string (ofL tag), .slice (some ⟨gt, 0, none⟩) (l.length + 1) ct] 130)) (by go_simp) ((Ext.rfl' W).al _) ⟨_, rfl, fun _ => Arr.new W _ [.string (ofL id), .slice A l.length c, .string (ofL tag), .slice (some ⟨gt, 0, none⟩) (l.length + 1) ct]⟩
            refine localsT_turn 0 rfl (fun q hq => cs_inj (cs := [7]) (by decide) 0 q _ rfl hq) (fun bs u W hbs hb0 hW hd hcs => ?_) ?_
            · have h4 : u 4 = _ := hd 4 (by kernel_rfl)
              have h6 := hd 6 (by kernel_rfl)
              have hset : (bs.set 0 true)[0]? = some true := List.getElem?_set_self (by rw [hbs]; decide)
              obtain ⟨hP, hTg⟩ := hW.2.2.2.2 hb0
              obtain ⟨b5, e5, hc5⟩ := h6
              have hA5 := hc5 hb0
              refine ⟨rfl, fun K Q hK => wp_app (ad := ⟨b5, 0, none⟩) (c := 1) (news := pvCells ⟨k, ⟨id, tag, A, c, l⟩, gt, ct⟩) Tryd.elemPv _ _ rfl hP.list 1 (by go_simp) (by go_simp) rfl ?_ ?_ (by simp) (by simp) hW.2.1 (fun v' w' own2 hg2 => hK v' w' ?_ ⟨hset, hP.listed own2 hg2 hTg hvt (.inl rfl)⟩ ?_)⟩
              · intro j y hy
                rw [WideShapes.add_plain, hA5.cell, Nat.zero_add]
                exact hy
              · exact fun u hu => oneCell_pvs [⟨k, ⟨id, tag, A, c, l⟩, gt, ct⟩] u (by simpa [pvsCells] using hu)
              · exact ⟨hW.1.own hg2 hP.list (Nat.le_refl _), by have := hg2.size; have := hW.2.1; omega, arr_kept_type hW.2.2.1 hP.list (by decide) hg2, arr_kept hW.2.2.2.1 hg2 (fun r e => by cases e), fun hb => by rw [hset] at hb; cases hb⟩
              · intro k h
                match k, h with
                | 0, h => exact h
                | 1, h => exact h
                | 2, h => exact h
                | 3, h => exact h
                | 4, h => exact h
                | 5, h => exact h
                | 6, ⟨b5, h1, h2⟩ => exact ⟨b5, h1, (fun hb => (by rw [hset] at hb; cases hb))⟩
                | 7, h => rw [hb0] at h; cases h.1
                | 8, h => exact h
                | 9, h => exact h
                | (k + 10), h => exact h
            refine localsT_ord (by decide) (fun bs u W hbs hW hno hd => ?_) ?_
            · have h0 : u 0 = _ := hd 0 (by kernel_rfl)
              exact leaves_val rfl (v := .pointer (some ⟨g, 0, none⟩)) (by go_simp) rfl
            refine localsT_ord (by decide) (fun bs u W hbs hW hno hd => ?_) localsT_nil
            · have h8 : u 8 = _ := hd 8 (by kernel_rfl)
              exact leaves_val rfl (v := .pointer (some ⟨g, 5, none⟩)) (by go_simp) rfl
          · intro u10 W hW hV
            obtain ⟨_, PL⟩ := hV 7 (by decide)
            have h9 : u10 9 = _ := hV 9 (by decide)
            obtain ⟨g6, c6, e6⟩ := ownsRow_succ PL.list
            rw [e6] at PL
            have q5 := PL.box.cell 5
            rw [(prCells_get _ _ _ _ _ _).2.2.2.2.2.1] at q5
            have z5 := PL.box.frozen 5
            have S9 := PL.store
            dsimp only [List.nil_append, List.length_nil] at S9
            clear hV PL S5 C5 tag5 hW
            obtain ⟨W9, hW9⟩ : ∃ W9 : World, W9 = W.setCell ⟨g, 5, none⟩ (.slice (some ⟨g6, 0, none⟩) 1 c6) := ⟨_, rfl⟩
            have HW9 := Kp.mk hW9
            rw [← hW9] at S9
            go_simp
            go_wp2_with fail
            rw [← HW9.out]
            clear hW9 HW9 q5 z5 h6 h7 h9
            obtain ⟨M, hM⟩ : ∃ M, more.map TokA.plain = M := ⟨_, rfl⟩
            have hMl : M.length = more.length := by rw [← hM, List.length_map]
            rw [hM] at HGOc
            obtain ⟨⟨Rs, Rb⟩, hR⟩ : ∃ R, goL tag M (more.length + 2) (begL k ⟨id, l, tag⟩ M) 0 = R := ⟨_, rfl⟩
            have hXR := HGOc.out Rs Rb hR
            have hRw : Rs.work ≤ 2000 := by rw [hXR] at hX2; exact hX2
            have HXR := Kp.mk hXR
            have HR := Kp.mk hR
            have HMM := Kp.mk hM
            have S10 : PrSt w W9 g ⟨id, tag, A, c, l⟩ (.slice Am more.length cm) more (begL k ⟨id, l, tag⟩ M) [⟨k, ⟨id, tag, A, c, l⟩, gt, ct⟩] (.slice (some ⟨gu, 0, none⟩) more.length more.length) (.slice (some ⟨g6, 0, none⟩) 1 c6) (.slice none 0 0) :=
              S9.of (by show _ = List.replicate M.length false; rw [hMl]) rfl rfl rfl
            clear S9 hXR hX2 hR hM HGOc
            go_step3
            go_wp2_with fail
            go_loopw [9, 8] (fun i ft wr => ∃ (j f : Nat) (s : PrL) (L : List PvA) (vl vt : Value), i = .int .i64 j ∧ ft = .bool true ∧ s.texts.length ≤ 64 * j ∧ j ≤ L.length ∧ f + j = more.length + 2 ∧ PrSt w wr g ⟨id, tag, A, c, l⟩ (.slice Am more.length cm) more s L (.slice (some ⟨gu, 0, none⟩) more.length more.length) vl vt ∧ goL tag M f s j = (Rs, Rb) ∧ SizeOk M s) (fun i _ _ => more.length + 2 - (intOf i).toNat)
            case atStart => exact ⟨0, more.length + 2, _, _, _, _, rfl, rfl, Nat.le_refl _, by simp, rfl, S10, HR.out, begL_ok k _ M⟩
            case round =>
              clear S10
              obtain ⟨j, f, s, L, vl, vt, rfl, rfl, htx, hj, hf, hS, hgo0, hsz0⟩ := hrel
              have hgo := Kp.mk hgo0; have hsz := Kp.mk hsz0
              have hLe : L.length ≤ more.length + 1 := by
                have h1 := hsz0.le
                have h2 := congrArg List.length hS.eq
                rw [List.length_map] at h2
                omega
              clear hgo0 hsz0
              by_cases hlt : j < L.length
              · obtain ⟨f', rfl⟩ : ∃ f', f = f' + 1 := ⟨f - 1, by omega⟩
                obtain ⟨gl, cl, rfl⟩ : ∃ gl cl, vl = .slice (some ⟨gl, 0, none⟩) L.length cl := by
                  rcases hS.list.2 with ⟨_, h0⟩ | ⟨gl, cap, cur, rfl, _⟩
                  · omega
                  · exact ⟨gl, cap, rfl⟩
                have q5 := hS.box.cell 5
                rw [(prCells_get _ _ _ _ _ _).2.2.2.2.2.1] at q5
                have hLl : (pvsCells L).length = L.length * 4 := length_pvsCells L
                have r1 := hS.list.cellAt (j * 4 + 1) (by omega)
                rw [(pvsCells_get L j hlt).2.1] at r1
                obtain ⟨x, hx⟩ : ∃ x, L[j] = x := ⟨_, rfl⟩
                rw [hx] at r1
                have hxm : x ∈ L := by rw [← hx]; exact List.getElem_mem hlt
                have hxt := hS.mem x hxm
                have hsx : s.list[j]? = some (x.k, x.t.plain) := by rw [hS.eq, List.getElem?_map, List.getElem?_eq_getElem hlt, hx]; rfl
                have hxl : RdLinks w w.heap.size (.slice x.t.A x.t.l.length x.t.c) x.t.l := by
                  rcases hxt with h | h
                  · rw [h]; exact HL.out
                  · exact HM.out.2 _ h
                have hxo : OkT x.t := by
                  rcases hxt with h | h
                  · rw [h]; exact HTT.out
                  · exact HML.out _ h
                have hin := Kp.mk (show restGo tag M f' j (linksL tag M s (rootL x.k x.t.id) x.t.l) = (Rs, Rb) by have h := hgo.out; rw [goL_at hsx] at h; exact h)
                have HXL := Kp.mk hxl; have HXO := Kp.mk hxo; have HSX := Kp.mk hsx
                have hx4 := hxo.2.2.2
                have hx64 : x.t.l.length ≤ 64 := by
                  rcases hxt with h | h
                  · rw [h]; exact hl64
                  · have := hmd x.t.plain (List.mem_map_of_mem h)
                    exact this
                obtain ⟨xn, hxn⟩ : ∃ xn, x.t.l.length = xn := ⟨_, rfl⟩
                rw [hxn] at r1 hx4 hx64
                have HXN := Kp.mk hxn
                clear hgo hx hxm hxt hsx hxl hxo hxn
                go_wp2_with fail
                go_loopw [66, 8] (fun i ft wr => ∃ (q : Nat) (s : PrL) (L : List PvA) (vl vt : Value), i = .int .i64 q ∧ ft = .bool true ∧ s.texts.length ≤ 64 * j + q ∧ q ≤ xn ∧ PrSt w wr g ⟨id, tag, A, c, l⟩ (.slice Am more.length cm) more s L (.slice (some ⟨gu, 0, none⟩) more.length more.length) vl vt ∧ restGo tag M f' j (linksL tag M s (foldT (rootL x.k x.t.id) (x.t.l.take q)) (x.t.l.drop q)) = (Rs, Rb) ∧ SizeOk M s ∧ s.list[j]? = some (x.k, x.t.plain)) (fun i _ _ => xn - (intOf i).toNat)
                case atStart => exact ⟨0, s, L, _, vt, rfl, rfl, by omega, by omega, hS, hin.out, hsz.out, HSX.out⟩
                case round =>
                  clear hS hin hsz HSX q5 r1 hLl hLe hlt htx
                  obtain ⟨q, s, L, vl, vt, rfl, rfl, htx, hq, hS, hin0, hsz0, hsx0⟩ := hrel
                  have hin := Kp.mk hin0; have hsz := Kp.mk hsz0; have HSX := Kp.mk hsx0
                  have hLe : L.length ≤ more.length + 1 := by
                    have h1 := hsz0.le
                    have h2 := congrArg List.length hS.eq
                    rw [List.length_map] at h2
                    omega
                  have hlt : j < L.length := by
                    have h1 := (List.getElem?_eq_some_iff.1 hsx0).1
                    rw [hS.eq, List.length_map] at h1
                    exact h1
                  clear hin0 hsz0 hsx0
                  by_cases hqn : q < xn
                  · have hql : q < x.t.l.length := by rw [HXN.out]; exact hqn
                    obtain ⟨Ax, cx, e9, _, hcl⟩ := HXL.out.cells
                    obtain ⟨bx, ox, eA, hbx, hcl2⟩ := hcl (by omega)
                    clear hcl
                    cases e9
                    obtain ⟨⟨ya, yb⟩, hy⟩ : ∃ y, x.t.l[q] = y := ⟨_, rfl⟩
                    have r2 := hcl2 q hql
                    rw [hy] at r2
                    obtain ⟨r2, r3⟩ := r2
                    have hyo := HXO.out.2.2.1 (ya, yb) (by rw [← hy]; exact List.getElem_mem hql)
                    have r2 := ((bcell hS.ext).1 bx _ hbx).trans r2
                    have r3 := ((bcell hS.ext).1 bx _ hbx).trans r3
                    have hstep := Kp.mk (show restGo tag M f' j (if yb = [] then linksL tag M ⟨s.used, s.list, s.texts ++ [ya], s.work, s.sum⟩ (foldT (rootL x.k x.t.id) (x.t.l.take (q + 1))) (x.t.l.drop (q + 1)) else
                        if (thirdL tag M s (foldT (rootL x.k x.t.id) (x.t.l.take q)) (ya, yb)).2 = true then linksL tag M (thirdL tag M s (foldT (rootL x.k x.t.id) (x.t.l.take q)) (ya, yb)).1 (foldT (rootL x.k x.t.id) (x.t.l.take (q + 1))) (x.t.l.drop (q + 1)) else ((thirdL tag M s (foldT (rootL x.k x.t.id) (x.t.l.take q)) (ya, yb)).1, false)) = (Rs, Rb) from by
                      have h := hin.out
                      rw [links_step hql, hy] at h
                      exact h)
                    have hle : ∀ W, (binOp .eql 52 (.agg #[.string (ofL ya), .string (ofL yb)]) (.agg #[.string (ofL ya), .string ⟨#[]⟩])).run Tryd.prog W = .ok (.bool (linkEq (ya, yb) (ya, []))) W := fun W => link_eql (ya, yb) (ya, []) W
                    rw [eA]
                    clear hcl2 hy hql hin eA
                    by_cases hyb : yb = []
                    · subst hyb
                      rw [show linkEq (ya, []) (ya, []) = true from (linkEq_iff _ _).2 rfl] at hle
                      have hst2 := Kp.mk (show restGo tag M f' j (linksL tag M ⟨s.used, s.list, s.texts ++ [ya], s.work, s.sum⟩ (foldT (rootL x.k x.t.id) (x.t.l.take (q + 1))) (x.t.l.drop (q + 1))) = (Rs, Rb) by have h := hstep.out; rw [if_pos rfl] at h; exact h)
                      clear hstep
                      have HX2 := Kp.mk (show ∀ r, vt.ownBlock = some r → r < wr.heap.size from fun r e => (hS.texts.lt r e).2)
                      obtain ⟨W16, hW16⟩ : ∃ W16 : World, W16 = wr.alloc (.cells #[.string (ofL ya), .string (ofL [])] 52) := ⟨_, rfl⟩
                      have E16 : Ext wr W16 := by rw [hW16]; exact (Ext.rfl' wr).al _
                      have D16 : Arr W16 wr.heap.size 52 [.string (ofL ya), .string (ofL [])] := by rw [hW16]; exact Arr.new wr _ _
                      have S16 := hS.up E16
                      go_upto_region 16 with fail
                      rw [← hW16]
                      clear hW16 E16 hS hle r2 r3 hbx
                      have hj9 : j ≤ 9 := by omega
                      refine wp_region_stages [8] (fun bs W => Ext w W ∧ w.heap.size ≤ W.heap.size ∧ Arr W g 94 (prCells ⟨id, tag, A, c, l⟩ (.slice Am more.length cm) (.slice (some ⟨gu, 0, none⟩) more.length more.length) vl vt s.work) ∧ Arr W wr.heap.size 52 [.string (ofL ya), .string (ofL [])] ∧ (bs[0]? = some false → PrSt w W g ⟨id, tag, A, c, l⟩ (.slice Am more.length cm) more s L (.slice (some ⟨gu, 0, none⟩) more.length more.length) vl vt)) (fun bs i v W => match i with
                        | 0 => v = .pointer (some ⟨g, 0, none⟩)
                        | 1 => v = .pointer (some ⟨g, 0, none⟩)
                        | 2 => v = .pointer (some ⟨g, 0, none⟩)
                        | 3 => v = .pointer (some ⟨g, 6, none⟩)
                        | 4 => v = vt
                        | 5 => v = .pointer (some ⟨wr.heap.size, 0, none⟩)
                        | 6 => v = .string (ofL ya)
                        | 7 => ∃ b5, v = .slice (some ⟨b5, 0, none⟩) 1 1 ∧ (bs[0]? = some false → Arr W b5 9 [.string (ofL ya)])
                        | 8 => bs[0]? = some true ∧ PrTx w W g ⟨id, tag, A, c, l⟩ (.slice Am more.length cm) more s L (.slice (some ⟨gu, 0, none⟩) more.length more.length) vl vt v ya
                        | 9 => v = .pointer (some ⟨g, 0, none⟩)
                        | 10 => v = .pointer (some ⟨g, 6, none⟩)
                        | _ => True) 11 (cs_inj (by decide)) (by decide) (by kernel_rfl) (by kernel_rfl) (by kernel_rfl) (by decide) (by kernel_rfl) (by kernel_rfl) (by kernel_rfl) (⟨S16.ext.dr, S16.ext.size, S16.box, D16, fun _ => S16.drew⟩) (fun bs W1 W2 ⟨a, p, q, r, k⟩ e => ⟨a.tr e, by have := e.size; omega, q.ext e q.lt, r.ext e r.lt, fun hb => (k hb).up e⟩) ?_ ?_ ?_
                      · intro bs i v W1 W2 e1 e2 h
                        match i, h with
                        | 0, h => exact h
                        | 1, h => exact h
                        | 2, h => exact h
                        | 3, h => exact h
                        | 4, h => exact h
                        | 5, h => exact h
                        | 6, h => exact h
                        | 7, ⟨b5, h1, h2⟩ => exact ⟨b5, h1, fun hb => (h2 hb).ext e2 (h2 hb).lt⟩
                        | 8, h => exact ⟨h.1, h.2.up e2⟩
                        | 9, h => exact h
                        | 10, h => exact h
                        | (i + 11), h => exact h
                      · refine localsT_ord (by decide) (fun bs u W hbs hW hno hd => leaves_val rfl (v := .pointer (some ⟨g, 0, none⟩)) (by go_simp) rfl) ?_
                        refine localsT_ord (by decide) (fun bs u W hbs hW hno hd => leaves_val rfl (v := .pointer (some ⟨g, 0, none⟩)) (by go_simp) rfl) ?_
                        refine localsT_ord (by decide) (fun bs u W hbs hW hno hd => ?_) ?_
                        · have h1 : u 1 = _ := hd 1 (by kernel_rfl)
                          exact leaves_val rfl (v := .pointer (some ⟨g, 0, none⟩)) (by go_simp) rfl
                        refine localsT_ord (by decide) (fun bs u W hbs hW hno hd => ?_) ?_
                        · have h2 : u 2 = _ := hd 2 (by kernel_rfl)
                          exact leaves_val rfl (v := .pointer (some ⟨g, 6, none⟩)) (by go_simp) rfl
                        refine localsT_ord (by decide) (fun bs u W hbs hW hno hd => ?_) ?_
                        · have h3 : u 3 = _ := hd 3 (by kernel_rfl)
                          have q6 := hW.2.2.1.cell 6
                          rw [(prCells_get _ _ _ _ _ _).2.2.2.2.2.2.1] at q6
                          exact leaves_val rfl (v := vt) (by go_simp) rfl
                        refine localsT_ord (by decide) (fun bs u W hbs hW hno hd => leaves_val rfl (v := .pointer (some ⟨wr.heap.size, 0, none⟩)) (by go_simp) rfl) ?_
                        refine localsT_ord (by decide) (fun bs u W hbs hW hno hd => ?_) ?_
                        · have h5 : u 5 = _ := hd 5 (by kernel_rfl)
                          have q0 := hW.2.2.2.1.cell 0
                          simp only [List.getElem?_cons_zero] at q0
                          exact leaves_val rfl (v := .string (ofL ya)) (by go_simp) rfl
                        refine localsT_ord (by decide) (fun bs u W hbs hW hno hd => ?_) ?_
                        · have h6 : u 6 = _ := hd 6 (by kernel_rfl)
                          exact leaves_new rfl (v := .slice (some ⟨W.heap.size, 0, none⟩) 1 1) (w' := W.alloc (.cells #[.string (ofL ya)] 9)) (by go_simp) ((Ext.rfl' W).al _) ⟨_, rfl, fun _ => Arr.new W _ [.string (ofL ya)]⟩
                        refine localsT_turn 0 rfl (fun q hq => cs_inj (cs := [8]) (by decide) 0 q _ rfl hq) (fun bs u W hbs hb0 hW hd hcs => ?_) ?_
                        · have h4 : u 4 = _ := hd 4 (by kernel_rfl)
                          have h7 := hd 7 (by kernel_rfl)
                          have hset : (bs.set 0 true)[0]? = some true := List.getElem?_set_self (by rw [hbs]; decide)
                          have hP := hW.2.2.2.2 hb0
                          obtain ⟨b5, e5, hc5⟩ := h7
                          have hA5 := hc5 hb0
                          refine ⟨rfl, fun K Q hK => wp_app_blk (ad := ⟨b5, 0, none⟩) (c := 1) (news := [Str ya]) Tryd.elemStr _ _ rfl hP.texts 1 (by go_simp) (by go_simp) rfl ?_ (by simp [Str, Value.oneCell']) (by omega) (by omega) hW.2.1 (fun v' w' own2 hg2 hn2 => hK v' w' ?_ ⟨hset, hP.told own2 hg2 hn2⟩ ?_)⟩
                          · intro j y hy
                            rw [WideShapes.add_plain, hA5.cell, Nat.zero_add]
                            exact hy
                          · exact ⟨hW.1.own hg2 hP.texts (Nat.le_refl _), by have := hg2.size; have := hW.2.1; omega, arr_kept_type hW.2.2.1 hP.texts (by decide) hg2, arr_kept hW.2.2.2.1 hg2 (fun r e => by have := HX2.out r e; omega), fun hb => by rw [hset] at hb; cases hb⟩
                          · intro k h
                            match k, h with
                            | 0, h => exact h
                            | 1, h => exact h
                            | 2, h => exact h
                            | 3, h => exact h
                            | 4, h => exact h
                            | 5, h => exact h
                            | 6, h => exact h
                            | 7, ⟨b5, h1, h2⟩ => exact ⟨b5, h1, (fun hb => (by rw [hset] at hb; cases hb))⟩
                            | 8, h => rw [hb0] at h; cases h.1
                            | 9, h => exact h
                            | 10, h => exact h
                            | (k + 11), h => exact h
                        refine localsT_ord (by decide) (fun bs u W hbs hW hno hd => ?_) ?_
                        · have h0 : u 0 = _ := hd 0 (by kernel_rfl)
                          exact leaves_val rfl (v := .pointer (some ⟨g, 0, none⟩)) (by go_simp) rfl
                        refine localsT_ord (by decide) (fun bs u W hbs hW hno hd => ?_) localsT_nil
                        · have h9 : u 9 = _ := hd 9 (by kernel_rfl)
                          exact leaves_val rfl (v := .pointer (some ⟨g, 6, none⟩)) (by go_simp) rfl
                      · intro u16 W hW hV
                        obtain ⟨_, PT⟩ := hV 8 (by decide)
                        have h10 : u16 10 = _ := hV 10 (by decide)
                        obtain ⟨g7, c7, e7⟩ := ownsRow_succ PT.texts
                        rw [e7] at PT
                        have q6 := PT.box.cell 6
                        rw [(prCells_get _ _ _ _ _ _).2.2.2.2.2.2.1] at q6
                        have z6 := PT.box.frozen 6
                        have S18 := PT.store
                        clear hV PT S16 D16 hW
                        go_simp
                        go_wp2
                        go_roundw
                        case rel => exact ⟨q + 1, ⟨s.used, s.list, s.texts ++ [ya], s.work, s.sum⟩, L, vl, _, by go_num, rfl, by dsimp only; rw [List.length_append, List.length_singleton]; omega, by omega, S18, hst2.out, ⟨hsz.out.1, hsz.out.2⟩, HSX.out⟩
                        case measure => simp [intOf]; omega
                    · rw [show linkEq (ya, yb) (ya, []) = false from by
                        rw [Bool.eq_false_iff]
                        intro h
                        have := (linkEq_iff _ _).1 h
                        exact hyb (congrArg Prod.snd this)] at hle
                      have hst2 := Kp.mk (show restGo tag M f' j (if (thirdL tag M s (foldT (rootL x.k x.t.id) (x.t.l.take q)) (ya, yb)).2 = true then linksL tag M (thirdL tag M s (foldT (rootL x.k x.t.id) (x.t.l.take q)) (ya, yb)).1 (foldT (rootL x.k x.t.id) (x.t.l.take (q + 1))) (x.t.l.drop (q + 1)) else ((thirdL tag M s (foldT (rootL x.k x.t.id) (x.t.l.take q)) (ya, yb)).1, false)) = (Rs, Rb) by have h := hstep.out; rw [if_neg hyb] at h; exact h)
                      clear hstep
                      obtain ⟨gl, cl, rfl⟩ : ∃ gl cl, vl = .slice (some ⟨gl, 0, none⟩) L.length cl := by
                        rcases hS.list.2 with ⟨_, h0⟩ | ⟨gl, cap, cur, rfl, _⟩
                        · omega
                        · exact ⟨gl, cap, rfl⟩
                      obtain ⟨x', hx'⟩ : ∃ x', L[j] = x' := ⟨_, rfl⟩
                      have hxm' : x' ∈ L := by rw [← hx']; exact List.getElem_mem hlt
                      have hpe : x'.plain = (x.k, x.t.plain) := by
                        have h := HSX.out
                        rw [hS.eq, List.getElem?_map, List.getElem?_eq_getElem hlt, hx'] at h
                        exact Option.some.inj h
                      have hk' : x'.k = x.k := congrArg Prod.fst hpe
                      have hi' : x'.t.id = x.t.id := congrArg (fun p : List UInt8 × TokL => p.2.id) hpe
                      have hl' : x'.t.l = x.t.l := congrArg (fun p : List UInt8 × TokL => p.2.links) hpe
                      obtain ⟨TG, hTG⟩ : ∃ TG, foldT (rootL x.k x.t.id) (x.t.l.take q) = TG := ⟨_, rfl⟩
                      have lTG : TG.length = 32 := by rw [← hTG]; exact length_lastL x.k x.t.id _
                      have hwk : s.work ≤ 2000 := by
                        have h := congrArg (fun p : PrL × Bool => p.1.work) hst2.out
                        have h1 := restGo_rise (T := tag) (more := M) (f := f') (i := j) (x := (if (thirdL tag M s (foldT (rootL x.k x.t.id) (x.t.l.take q)) (ya, yb)).2 = true then linksL tag M (thirdL tag M s (foldT (rootL x.k x.t.id) (x.t.l.take q)) (ya, yb)).1 (foldT (rootL x.k x.t.id) (x.t.l.take (q + 1))) (x.t.l.drop (q + 1)) else ((thirdL tag M s (foldT (rootL x.k x.t.id) (x.t.l.take q)) (ya, yb)).1, false)))
                        have h2 : s.work ≤ (if (thirdL tag M s (foldT (rootL x.k x.t.id) (x.t.l.take q)) (ya, yb)).2 = true then linksL tag M (thirdL tag M s (foldT (rootL x.k x.t.id) (x.t.l.take q)) (ya, yb)).1 (foldT (rootL x.k x.t.id) (x.t.l.take (q + 1))) (x.t.l.drop (q + 1)) else ((thirdL tag M s (foldT (rootL x.k x.t.id) (x.t.l.take q)) (ya, yb)).1, false)).1.work := by
                          split
                          · exact Nat.le_trans third_rise (links_rise _ _ _)
                          · exact third_rise
                        dsimp only at h
                        omega
                      rw [hTG] at hst2
                      have hus : s.used.length = more.length := hsz.out.1.trans hMl
                      obtain ⟨W17, hW17⟩ : ∃ W17 : World, W17 = wr.alloc (.cells #[.string (ofL ya), .string (ofL yb)] 52) := ⟨_, rfl⟩
                      have E17 : Ext wr W17 := by rw [hW17]; exact (Ext.rfl' wr).al _
                      have D17 : Arr W17 wr.heap.size 52 [.string (ofL ya), .string (ofL yb)] := by rw [hW17]; exact Arr.new wr _ _
                      have S17 := hS.up E17
                      have hLl : (pvsCells L).length = L.length * 4 := length_pvsCells L
                      have C3 := Kp.mk (show ∀ W, Ext W17 W → W.cell? ⟨gl, j * 4 + 3, none⟩ = some (.slice (some ⟨x'.g, 0, none⟩) (xn + 1) x'.c) from fun W hW => by
                        have h := (S17.up hW).list.cellAt (j * 4 + 3) (by omega)
                        rw [(pvsCells_get L j hlt).2.2.2, hx', hl', HXN.out] at h
                        exact h)
                      have C4 := Kp.mk (show ∀ W, Ext W17 W → W.cell? ⟨x'.g, q, none⟩ = some (.string (ofL TG)) from fun W hW => by
                        have h := ((S17.up hW).tags x' hxm').1.cellAt q (by rw [hl', HXN.out]; omega)
                        rw [hk', hi', hl', List.getElem?_map, tagsL_get x.k x.t.id x.t.l q (by rw [HXN.out]; omega)] at h
                        rw [h]
                        show some (Str _) = _
                        rw [show lastL x.k x.t.id (x.t.l.take q) = TG from hTG]; rfl)
                      have cTh := Kp.mk (show ∀ W, Ext W17 W → _ from fun W hW => vthird_any (S17.up hW) hT HM.out hus hn (fun d hd => ⟨by have := (HML.out d hd).1; omega, by have := (HML.out d hd).2.1; omega, (HML.out d hd).short, (HML.out d hd).2.2.2⟩) (by have := HTT.out.2.1; dsimp only at this ⊢; omega) (by omega) (by omega) TG (ya, yb) (by omega) (by dsimp only at hyo ⊢; omega))
                      rw [HMM.out] at cTh
                      dsimp only at cTh
                      have hpre := Kp.mk (show ∀ y, (thirdL tag M s TG (ya, yb)).1.list[j]? = some y ↔ s.list[j]? = some y from fun y => by
                        obtain ⟨r, hr, _⟩ := third_list (T := tag) (more := M) (s := s) (tag := TG) (l := (ya, yb))
                        rw [hr, List.getElem?_append_left (by rw [hS.eq, List.length_map]; exact hlt)])
                      have hszT := Kp.mk (show (thirdL tag M s TG (ya, yb)).2 = true → SizeOk M (thirdL tag M s TG (ya, yb)).1 from fun h => hsz.out.third h)
                      have htxT := Kp.mk (show (thirdL tag M s TG (ya, yb)).1.texts = s.texts from third_texts)
                      obtain ⟨r, hr⟩ : ∃ r, thirdL tag M s TG (ya, yb) = r := ⟨_, rfl⟩
                      rw [hr] at cTh hst2 hpre hszT htxT
                      go_upto_region 17 with fail
                      rw [← hW17]
                      clear hW17 E17 hS hle r2 r3 hbx hx' hpe hk' hi' hl' hTG hr hxm' hus
                      refine wp_region_tails (fun i v W => match i with
                        | 0 => v = .pointer (some ⟨g, 0, none⟩)
                        | 1 => v = .pointer (some ⟨g, 0, none⟩)
                        | 2 => v = .pointer (some ⟨g, 0, none⟩)
                        | 3 => v = .pointer (some ⟨g, 5, none⟩)
                        | 4 => v = .slice (some ⟨gl, 0, none⟩) L.length cl
                        | 5 => v = .int .i64 j
                        | 6 => v = .pointer (some ⟨gl, j * 4, none⟩)
                        | 7 => v = .pointer (some ⟨gl, j * 4 + 3, none⟩)
                        | 8 => v = .slice (some ⟨x'.g, 0, none⟩) (xn + 1) x'.c
                        | 9 => v = .int .i64 q
                        | 10 => v = .pointer (some ⟨x'.g, q, none⟩)
                        | 11 => v = .string (ofL TG)
                        | 12 => v = .agg #[.string (ofL ya), .string (ofL yb)]
                        | _ => True) 13 (by kernel_rfl) (by kernel_rfl) (by kernel_rfl) (by decide) (by kernel_rfl) (by kernel_rfl) (by kernel_rfl) ?_ ?_ ?_
                      · intro i v W1 W2 e1 e2 h
                        match i, h with
                        | 0, h => exact h
                        | 1, h => exact h
                        | 2, h => exact h
                        | 3, h => exact h
                        | 4, h => exact h
                        | 5, h => exact h
                        | 6, h => exact h
                        | 7, h => exact h
                        | 8, h => exact h
                        | 9, h => exact h
                        | 10, h => exact h
                        | 11, h => exact h
                        | 12, h => exact h
                        | (i + 13), h => exact h
                      · refine localsR_cons (fun u W hW hd => leaves_val rfl (v := .pointer (some ⟨g, 0, none⟩)) (by go_simp) rfl) ?_
                        refine localsR_cons (fun u W hW hd => leaves_val rfl (v := .pointer (some ⟨g, 0, none⟩)) (by go_simp) rfl) ?_
                        refine localsR_cons (fun u W hW hd => ?_) ?_
                        · have h1 : u 1 = _ := hd 1 (by kernel_rfl)
                          exact leaves_val rfl (v := .pointer (some ⟨g, 0, none⟩)) (by go_simp) rfl
                        refine localsR_cons (fun u W hW hd => ?_) ?_
                        · have h2 : u 2 = _ := hd 2 (by kernel_rfl)
                          exact leaves_val rfl (v := .pointer (some ⟨g, 5, none⟩)) (by go_simp) rfl
                        refine localsR_cons (fun u W hW hd => ?_) ?_
                        · have h3 : u 3 = _ := hd 3 (by kernel_rfl)
                          have q5 := (S17.box.ext hW S17.box.lt).cell 5
                          rw [(prCells_get _ _ _ _ _ _).2.2.2.2.2.1] at q5
                          exact leaves_val rfl (v := .slice (some ⟨gl, 0, none⟩) L.length cl) (by go_simp) rfl
                        refine localsR_cons (fun u W hW hd => leaves_val rfl (v := .int .i64 j) (by go_simp) rfl) ?_
                        refine localsR_cons (fun u W hW hd => ?_) ?_
                        · have h4 : u 4 = _ := hd 4 (by kernel_rfl)
                          have h5 : u 5 = _ := hd 5 (by kernel_rfl)
                          exact leaves_val rfl (v := .pointer (some ⟨gl, j * 4, none⟩)) (by go_simp) rfl
                        refine localsR_cons (fun u W hW hd => ?_) ?_
                        · have h6 : u 6 = _ := hd 6 (by kernel_rfl)
                          exact leaves_val rfl (v := .pointer (some ⟨gl, j * 4 + 3, none⟩)) (by go_simp) rfl
                        refine localsR_cons (fun u W hW hd => ?_) ?_
                        · have h7 : u 7 = _ := hd 7 (by kernel_rfl)
                          have r3 := C3.out W hW
                          exact leaves_val rfl (v := .slice (some ⟨x'.g, 0, none⟩) (xn + 1) x'.c) (by go_simp) rfl
                        refine localsR_cons (fun u W hW hd => leaves_val rfl (v := .int .i64 q) (by go_simp) rfl) ?_
                        refine localsR_cons (fun u W hW hd => ?_) ?_
                        · have h8 : u 8 = _ := hd 8 (by kernel_rfl)
                          have h9 : u 9 = _ := hd 9 (by kernel_rfl)
                          exact leaves_val rfl (v := .pointer (some ⟨x'.g, q, none⟩)) (by go_simp; omega) rfl
                        refine localsR_cons (fun u W hW hd => ?_) ?_
                        · have h10 : u 10 = _ := hd 10 (by kernel_rfl)
                          have r4 := C4.out W hW
                          exact leaves_val rfl (v := .string (ofL TG)) (by go_simp) rfl
                        refine localsR_cons (fun u W hW hd => ?_) localsR_nil
                        · have q0 := (D17.ext hW D17.lt).cell 0; have q1 := (D17.ext hW D17.lt).cell 1
                          simp only [List.getElem?_cons_zero, List.getElem?_cons_succ] at q0 q1
                          exact leaves_val rfl (v := .agg #[.string (ofL ya), .string (ofL yb)]) (by go_simp) rfl
                      · intro u17 W18 hW18 hV
                        have h0 : u17 0 = _ := hV 0 (by decide)
                        have h11 : u17 11 = _ := hV 11 (by decide)
                        have h12 : u17 12 = _ := hV 12 (by decide)
                        have cTh := Kp.mk (cTh.out W18 hW18)
                        clear hV S17 D17 hW18 C3 C4
                        go_simp
                        go_wp2_with fail
                        refine cTh.out.mono ?_
                        obtain ⟨s', b'⟩ := r
                        dsimp only at hst2 hpre hszT htxT
                        rintro e W19 ⟨L', vl', rfl, S19⟩
                        dsimp only at S19
                        clear cTh h0 h11 h12
                        cases b' with
                        | true =>
                          have hst3 := Kp.mk (show restGo tag M f' j (linksL tag M s' (foldT (rootL x.k x.t.id) (x.t.l.take (q + 1))) (x.t.l.drop (q + 1))) = (Rs, Rb) by have h := hst2.out; rw [if_pos rfl] at h; exact h)
                          have hsz3 := Kp.mk (hszT.out rfl)
                          clear hst2 hszT
                          go_wp2
                          go_roundw
                          case rel => exact ⟨q + 1, s', L', vl', vt, by go_num, rfl, by rw [htxT.out]; omega, by omega, S19, hst3.out, hsz3.out, (hpre.out _).2 HSX.out⟩
                          case measure => simp [intOf]; omega
                        | false =>
                          have hfin := hst2.out
                          rw [if_neg (by simp)] at hfin
                          have hfin : (s', false) = (Rs, Rb) := hfin
                          obtain rfl : Rb = false := (congrArg Prod.snd hfin).symm
                          have hs' : s' = Rs := congrArg Prod.fst hfin
                          rw [hs'] at S19
                          clear hfin hst2 hs' hszT hpre htxT
                          have hSE := S19
                          obtain ⟨rb, hrb⟩ : ∃ rb, rb = false := ⟨_, rfl⟩
                          have q4 := hSE.box.cell 4
                          rw [(prCells_get _ _ _ _ _ _).2.2.2.2.1] at q4
                          go_wp2_with fail
                          go_loopw [108, 8] (fun i ft wr => ∃ kk : Nat, i = .int .i64 kk ∧ ft = .bool (rb && (Rs.used.take kk).all _root_.id) ∧ kk ≤ more.length ∧ PrSt w wr g ⟨id, tag, A, c, l⟩ (.slice Am more.length cm) more Rs _ (.slice (some ⟨gu, 0, none⟩) more.length more.length) _ _) (fun i _ _ => more.length - (intOf i).toNat)
                          case atStart => exact ⟨0, rfl, by simp [hrb], by omega, hSE⟩
                          case round =>
                            clear hSE
                            obtain ⟨kk, rfl, rfl, hkk, hSk⟩ := hrel
                            have hul : Rs.used.length = more.length := by have h := hSk.used.1; rw [List.length_map] at h; omega
                            by_cases hlk : kk < more.length
                            · have u4 := hSk.used.cellAt kk (by omega)
                              rw [bool_cell (by omega)] at u4
                              have hal := Kp.mk (all_take (l := Rs.used) (k := kk) (by omega))
                              obtain ⟨ub, hub⟩ : ∃ ub, Rs.used[kk]'(by omega) = ub := ⟨_, rfl⟩
                              obtain ⟨b1, hb1⟩ : ∃ b1, (rb && (Rs.used.take kk).all _root_.id) = b1 := ⟨_, rfl⟩
                              have hnx := Kp.mk (show (rb && (Rs.used.take (kk + 1)).all _root_.id) = (b1 && ub) by rw [hal.out, ← Bool.and_assoc, hb1, hub])
                              rw [hub] at u4
                              rw [hb1]
                              clear hub hb1 hal
                              cases b1 with
                              | true =>
                                go_wp2
                                go_roundw
                                case rel => exact ⟨kk + 1, by go_num, by rw [hnx.out]; rfl, by omega, hSk⟩
                                case measure => simp [intOf]; omega
                              | false =>
                                go_wp2
                                go_roundw
                                case rel => exact ⟨kk + 1, by go_num, by rw [hnx.out]; rfl, by omega, hSk⟩
                                case measure => simp [intOf]; omega
                            · obtain ⟨b1, hb1⟩ : ∃ b1, (rb && Rs.used.all _root_.id) = b1 := ⟨_, rfl⟩
                              rw [List.take_of_length_le (by omega), hb1]
                              have hX : X = (Rs, if b1 = true then 0 else 11) := by rw [HXR.out, ← hb1, hrb]
                              clear hb1 hrb HXR
                              subst hX
                              cases b1 with
                              | true =>
                                go_wp2
                                exact bodyPost_ret (v := .tuple #[.pointer (some ⟨g, 0, none⟩), .int .i64 0]) (by simp [results, Tryd.results69, go_sem]) rfl ⟨g, _, _, _, _, rfl, hSk⟩
                              | false =>
                                go_wp2
                                exact bodyPost_ret (v := .tuple #[.pointer (some ⟨g, 0, none⟩), .int .i64 11]) (by simp [results, Tryd.results69, go_sem]) rfl ⟨g, _, _, _, _, rfl, hSk⟩
                  · have hq2 : q = xn := by omega
                    have hgo := Kp.mk (show goL tag M f' s (j + 1) = (Rs, Rb) by
                      have h := hin.out
                      rw [List.drop_eq_nil_of_le (by rw [HXN.out]; omega)] at h
                      exact h)
                    clear hin
                    go_wp2
                    go_roundw
                    case rel => exact ⟨j + 1, f', s, L, vl, vt, by go_num, rfl, by omega, by omega, by omega, hS, hgo.out, hsz.out⟩
                    case measure => simp [intOf]; omega
              · have hfin := hgo.out
                rw [goL_end (by have h2 := congrArg List.length hS.eq; rw [List.length_map] at h2; omega)] at hfin
                obtain rfl : Rb = true := (congrArg Prod.snd hfin).symm
                have hs' : s = Rs := congrArg Prod.fst hfin
                have q5 := hS.box.cell 5
                rw [(prCells_get _ _ _ _ _ _).2.2.2.2.2.1] at q5
                obtain ⟨Al, cl, rfl⟩ := own_slice hS.list
                have hSE := hS
                rw [hs'] at hSE
                obtain ⟨rb, hrb⟩ : ∃ rb, rb = true := ⟨_, rfl⟩
                clear hfin hgo hS hs' htx hj hf hLe hsz
                have q4 := hSE.box.cell 4
                rw [(prCells_get _ _ _ _ _ _).2.2.2.2.1] at q4
                go_wp2_with fail
                go_loopw [108, 8] (fun i ft wr => ∃ kk : Nat, i = .int .i64 kk ∧ ft = .bool (rb && (Rs.used.take kk).all _root_.id) ∧ kk ≤ more.length ∧ PrSt w wr g ⟨id, tag, A, c, l⟩ (.slice Am more.length cm) more Rs _ (.slice (some ⟨gu, 0, none⟩) more.length more.length) _ _) (fun i _ _ => more.length - (intOf i).toNat)
                case atStart => exact ⟨0, rfl, by simp [hrb], by omega, hSE⟩
                case round =>
                  clear hSE
                  obtain ⟨kk, rfl, rfl, hkk, hSk⟩ := hrel
                  have hul : Rs.used.length = more.length := by have h := hSk.used.1; rw [List.length_map] at h; omega
                  by_cases hlk : kk < more.length
                  · have u4 := hSk.used.cellAt kk (by omega)
                    rw [bool_cell (by omega)] at u4
                    have hal := Kp.mk (all_take (l := Rs.used) (k := kk) (by omega))
                    obtain ⟨ub, hub⟩ : ∃ ub, Rs.used[kk]'(by omega) = ub := ⟨_, rfl⟩
                    obtain ⟨b1, hb1⟩ : ∃ b1, (rb && (Rs.used.take kk).all _root_.id) = b1 := ⟨_, rfl⟩
                    have hnx := Kp.mk (show (rb && (Rs.used.take (kk + 1)).all _root_.id) = (b1 && ub) by rw [hal.out, ← Bool.and_assoc, hb1, hub])
                    rw [hub] at u4
                    rw [hb1]
                    clear hub hb1 hal
                    cases b1 with
                    | true =>
                      go_wp2
                      go_roundw
                      case rel => exact ⟨kk + 1, by go_num, by rw [hnx.out]; rfl, by omega, hSk⟩
                      case measure => simp [intOf]; omega
                    | false =>
                      go_wp2
                      go_roundw
                      case rel => exact ⟨kk + 1, by go_num, by rw [hnx.out]; rfl, by omega, hSk⟩
                      case measure => simp [intOf]; omega
                  · obtain ⟨b1, hb1⟩ : ∃ b1, (rb && Rs.used.all _root_.id) = b1 := ⟨_, rfl⟩
                    rw [List.take_of_length_le (by omega), hb1]
                    have hX : X = (Rs, if b1 = true then 0 else 11) := by rw [HXR.out, ← hb1, hrb]
                    clear hb1 hrb HXR
                    subst hX
                    cases b1 with
                    | true =>
                      go_wp2
                      exact bodyPost_ret (v := .tuple #[.pointer (some ⟨g, 0, none⟩), .int .i64 0]) (by simp [results, Tryd.results69, go_sem]) rfl ⟨g, _, _, _, _, rfl, hSk⟩
                    | false =>
                      go_wp2
                      exact bodyPost_ret (v := .tuple #[.pointer (some ⟨g, 0, none⟩), .int .i64 11]) (by simp [results, Tryd.results69, go_sem]) rfl ⟨g, _, _, _, _, rfl, hSk⟩
        · have t1 : (Z == tag) = false := by simp [hbd]
          have hx := HT8b.out hbd
          subst hx
          rw [t1] at h6
          clear hbd t1 C5 tag5
          go_simp
          go_wp2
          exact bodyPost_ret (v := .tuple #[.pointer (some ⟨g, 0, none⟩), .int .i64 8]) (by simp [results, Tryd.results69, go_sem]) rfl ⟨g, [], _, _, _, rfl, S5.of rfl rfl rfl rfl⟩
end Go.Proofs.YtejhiekikblbiaaDoor
