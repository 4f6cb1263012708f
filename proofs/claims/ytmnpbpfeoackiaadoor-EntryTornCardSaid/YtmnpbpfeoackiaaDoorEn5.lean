/-
  Package entry: the texts of an entry's frames. Conditions: the package's table holds the constants; a text of at most 100000 bytes.
-/
import Derived.Test.YtmnpbpfeoackiaaDoorEn4
import Derived.Test.YtmnpbpfeoackiaaDoorInvIn
import Derived.Test.YtmnpbpfeoackiaaDoorMhC
import Derived.Lib.AppendStr
namespace Go.Proofs.YtmnpbpfeoackiaaDoor
open Go.RowKit Go.Shelf
attribute [local go_sem] Oper.semAt_some

/-- []byte(s), where the row lies told. -/
theorem run_bytes_S {P : Program} (w : World) (src dst e : TypeId) (s : ByteArray) (hs : P.underlying src = some .string) (hd : P.underlying dst = some (.slice e)) (he : P.underlying e = some (.int .u8)) (h63 : s.size ≤ 9223372036854775807) :
    ∃ cap w', (convert src dst (.string s)).run P w = .ok (.slice (some ⟨w.heap.size, 0, none⟩) s.size cap) w' ∧ s.size ≤ cap ∧ Ext w w' ∧ w.heap.size < w'.heap.size ∧ ∀ j u, ((toL s).map U8)[j]? = some u → w'.cell? ⟨w.heap.size, j, none⟩ = some u := by
  obtain ⟨v, w', h1, h2, h3⟩ := run_bytes_T w src dst e s hs hd he h63
  have h4 := Lib.run_convert_string_bytes w src dst e s hs hd he
  rw [h4] at h1
  obtain ⟨hv, hw⟩ := Result.ok.inj h1
  subst hv
  subst hw
  refine ⟨_, _, h4, grownCap_ge w s.size 0 e, h3, (h2.lt _ rfl).2, fun j u hu => ?_⟩
  have q := h2.cells (g := w.heap.size) rfl j u hu
  rw [WideShapes.add_plain, Nat.zero_add] at q
  exact q
theorem ext_keep {V W : World} (h : Ext V W) : KeepsOthers V W := ⟨h.size, fun k _ hk _ => (h.block k (Array.getElem?_eq_some_iff.1 hk).1).trans hk⟩
/-- Between two rounds. -/
structure PaI (w w5 : World) (g o b5 : Nat) (v5 : Value) (H : List UInt8) {S : List UInt8} (pre : List (Chk S)) (W : World) : Prop where
  ext : Ext w W
  row : W.heap[g]? = w5.heap[g]?
  size : w5.heap.size ≤ W.heap.size
  cap : CapC W b5 v5
  out : ∃ v, Arr W (o + 1) 53 [v] ∧ W.ownsRow o 9 1 v (1 + pre.length) ((H :: pre.map (·.t)).map Str)
set_option maxRecDepth 100000 in
set_option maxHeartbeats 4000000 in
theorem eparts_any (s : List UInt8) (w : World) (hT : Tab w) (hs : s.length ≤ 100000) : Calls Tryd.prog 75 #[.string (ofL s)] w fun e w' => ∃ v, e = .returned v ∧ w'.ownsRow w.heap.size 9 1 v (partsE s).length ((partsE s).map Str) ∧ Ext w w' := by
  refine (callsIn_wide (n := 3)).1 ?_
  refine callsIn_of_wp_marks Tryd.func75 rfl trivial ?_ rfl
  simp only [Tryd.ntmps75, List.size_toArray, List.length_cons, List.length_nil, Nat.reduceAdd, Nat.reduceSub, Array.replicate_succ, Array.replicate_zero, List.push_toArray, List.append_toArray, List.nil_append, List.cons_append]
  refine wpIn_wide.2 ?_
  have hsz : (ofL s).size = s.length := size_ofL _
  obtain ⟨cap, W1, hcv, hcap, E1, hlt1, hb⟩ := run_bytes_S (P := Tryd.prog) w 9 56 5 (ofL s) Tryd.underlying9 Tryd.underlying56 Tryd.underlying5 (by rw [hsz]; omega)
  rw [hsz] at hcv hcap
  rw [toL_ofL] at hb
  obtain ⟨S, hS⟩ : ∃ S, s.length = S := ⟨_, rfl⟩
  obtain ⟨f, hf⟩ : ∃ f, min 102 S = f := ⟨_, rfl⟩
  have hfi : min (102 : Int) (S : Int) = (f : Int) := by omega
  rw [hS] at hcv hcap hs hsz
  have HS := Kp.mk hS; have HF := Kp.mk hf; have HB := Kp.mk hb
  have hs1 := E1.size
  clear hb hS hf
  have hbytes : [Value.int .u8 ((S : Int) % 256), .int .u8 ((S : Int) / 256 % 256), .int .u8 ((S : Int) / 65536), .int .u8 ((S : Int) / 16777216)] = (leN 4 S).map U8 := by
    have e1 : (S : Int) / 256 % 256 = ((S / 256 : Nat) : Int) % 256 := by omega
    have e2 : (S : Int) / 65536 = ((S / 256 / 256 : Nat) : Int) % 256 := by omega
    have e3 : (S : Int) / 16777216 = ((S / 256 / 256 / 256 : Nat) : Int) % 256 := by omega
    rw [e1, e2, e3]
    simp only [leN, List.map_cons, List.map_nil, U8_byte]
  obtain ⟨V1, hV1, EV1, O1⟩ : ∃ V1, W1.alloc (.cells #[Value.int .u8 ((S : Int) % 256), .int .u8 ((S : Int) / 256 % 256), .int .u8 ((S : Int) / 65536), .int .u8 ((S : Int) / 16777216)] 5) = V1 ∧ Ext W1 V1 ∧ V1.ownsRow W1.heap.size 5 1 (.slice (some ⟨W1.heap.size, 0, none⟩) 4 4) 4 ((leN 4 S).map U8) :=
    ⟨_, rfl, (Ext.rfl' W1).al _, by rw [← hbytes]; exact World.ownsRow_lit W1 #[Value.int .u8 ((S : Int) % 256), .int .u8 ((S : Int) / 256 % 256), .int .u8 ((S : Int) / 65536), .int .u8 ((S : Int) / 16777216)] 4 (Nat.le_refl _) (by decide) rfl⟩
  obtain ⟨i0, hi, hz0, hz1, hz2⟩ := Tryd.elemU8.hi
  obtain ⟨X, hX⟩ : ∃ X, sumL s = X := ⟨_, rfl⟩
  have hXl : X.length = 32 := by rw [← hX]; exact length_sumL s
  have zX : (ofL X).size = 32 := by rw [size_ofL, hXl]
  have x4 : (ofL X).extract 0 4 = ofL (X.take 4) := by rw [extract_to, toL_ofL]
  have z4 : (ofL (X.take 4)).size = 4 := by rw [size_ofL, List.length_take, hXl]; rfl
  replace hX := Kp.mk hX
  have cS := Kp.mk (show Calls Tryd.prog 97 #[.string (ofL s)] V1 fun e w' => e = .returned (.string (ofL X)) ∧ Ext V1 w' from by rw [← hX.out]; exact sum_any s V1 (hT.ext (E1.tr EV1)) (by rw [HS.out]; omega))
  clear hbytes
  go_upto_region 4 with fail
  go_wp2_with fail
  refine cS.out.mono ?_
  rintro e w2 ⟨rfl, E2⟩
  have O2 := own_ext O1 (fun j _ hj => E2.block j hj)
  have F2 := EV1.tr E2
  clear O1 E2 EV1 hV1 cS hcv hfi
  go_upto_region 5 with (at_builtin; refine Lib.wpList_append_own_string _ rfl _ _ 56 9 rfl W1.heap.size 5 i0 Tryd.underlying56 Tryd.underlying9 hi hz0 hz1 hz2 _ 4 _ rfl O2 (ofL (X.take 4)) rfl (by rw [z4]; unfold maxLen; omega) (by rw [z4]; omega) F2.size ?_; intro v3 w3 own3 hg3 _)
  rw [z4, strCells_ofL] at own3
  have F3 := F2.own hg3 O2 (Nat.le_refl _)
  clear O2 F2 hg3 x4 z4 zX
  obtain ⟨A3, c3, hv3⟩ := own_slice own3
  subst hv3
  have hb3 : ∀ j u, ((s.take f).map U8)[j]? = some u → w3.cell? ((⟨w.heap.size, 0, none⟩ : Addr).add j) = some u := fun j u hu => by
    have hj : j < f := by
      have := (List.getElem?_eq_some_iff.1 hu).1
      rw [List.length_map, List.length_take] at this
      omega
    rw [WideShapes.add_plain, Nat.zero_add]
    refine ((bcell F3).1 _ _ hlt1).trans (HB.out j u ?_)
    rw [← hu, List.map_take, List.getElem?_take_of_lt hj]
  obtain ⟨H, hH⟩ : ∃ H, headE s = H := ⟨_, rfl⟩
  have hHe : (leN 4 S).map U8 ++ Lib.byteCells (X.take 4) ++ (s.take f).map U8 = H.map U8 := by
    rw [← hH]
    unfold headE
    rw [HS.out, hX.out]
    have e : s.take 102 = s.take f := by
      have := HF.out; have := HS.out
      rcases Nat.le_total 102 S with h | h
      · rw [show f = 102 by omega]
      · rw [List.take_of_length_le (by omega), List.take_of_length_le (by omega)]
    rw [e, List.map_append, List.map_append, List.append_assoc]
    rfl
  have hfl : ((s.take f).map U8).length = f * 1 := by rw [List.length_map, List.length_take]; have := HF.out; have := HS.out; omega
  have hf1 : f ≤ 102 := by have := HF.out; omega
  have hfS : f ≤ S := by have := HF.out; omega
  have hfc : f ≤ cap := by omega
  have HH := Kp.mk hH; have HHE := Kp.mk hHe
  clear hH hHe
  go_upto_region 6 with (at_builtin; refine wpl_app_at Tryd.elemU8 rfl _ _ rfl own3 f rfl rfl hfl hb3 (oneCell_u8 _) (by omega) (by omega) F3.size ?_; intro v4 w4 own4 hg4; obtain ⟨A4, c4, hv4⟩ := own_slice own4; subst hv4; have hstr := Tryd.str (own_eq own4 HHE.out rfl); have F4 := F3.own hg4 own3 (Nat.le_refl _); clear own3 hg4 F3 hb3 hfl own4)
  obtain ⟨o, ho⟩ : ∃ o, w4.heap.size = o := ⟨_, rfl⟩
  obtain ⟨g, hg⟩ : ∃ g, w.heap.size = g := ⟨_, rfl⟩
  obtain ⟨V5, hV5, E5, A5, O5⟩ : ∃ V5, (w4.alloc (.cells #[.string (ofL H)] 9)).alloc (.cells #[.slice (some ⟨o, 0, none⟩) 1 1] 53) = V5 ∧ Ext w4 V5 ∧ Arr V5 (o + 1) 53 [.slice (some ⟨o, 0, none⟩) 1 1] ∧ V5.ownsRow o 9 1 (.slice (some ⟨o, 0, none⟩) 1 1) 1 [Str H] := by
    refine ⟨_, rfl, ((Ext.rfl' w4).al _).al _, ?_, ?_⟩
    · have q := Arr.new (w4.alloc (.cells #[.string (ofL H)] 9)) 53 [.slice (some ⟨o, 0, none⟩) 1 1]
      rw [World.size_alloc, ho] at q
      exact q
    · rw [← ho]
      exact (World.ownsRow_lit w4 #[.string (ofL H)] 1 (Nat.le_refl _) (by decide) rfl).alloc _
  obtain ⟨ao, hao, ha⟩ : ∃ ao, (if cap = f then some (⟨g, 0, none⟩ : Addr) else some ⟨g, f, none⟩) = some ⟨g, ao, none⟩ ∧ (0 < S - f → ao = f) := by
    by_cases h : cap = f
    · exact ⟨0, if_pos h, fun h2 => by omega⟩
    · exact ⟨f, if_neg h, fun _ => rfl⟩
  have hEV : Ext w V5 := (E1.tr F4).tr E5
  have HB5 := Kp.mk (show ∀ j u, (s.map U8)[j]? = some u → V5.cell? ⟨g, j, none⟩ = some u from fun j u hu => by
    rw [← hg]
    exact ((bcell (F4.tr E5)).1 _ _ hlt1).trans (HB.out j u hu))
  have hgo : g < o := by rw [← hg, ← ho]; have := F4.size; omega
  have hs5 := E5.size
  have hoV : o + 1 < V5.heap.size := A5.lt
  rw [ho, hg, hV5]
  have HG := Kp.mk hg
  clear hV5 hstr F4 E5 E1 HB ho hg hs1 hlt1
  go_wp2_with fail
  refine (chunk_any _ _ _ _).mono ?_
  rintro e w5 ⟨rfl, hcap5, E6⟩
  have hE5 : Ext w w5 := hEV.tr E6
  have A6 := A5.ext E6 A5.lt
  have O6 := own_ext O5 (fun j _ hj => E6.block j hj)
  have hS5 : V5.heap.size + 1 < w5.heap.size := hcap5.n.lt
  have hsF : f + (S - f) = s.length := by have := HS.out; omega
  have hs1M : s.length ≤ 1000000 := by have := HS.out; omega
  have HB6 := Kp.mk (show ∀ j u, (s.map U8)[j]? = some u → w5.cell? ⟨g, j, none⟩ = some u from fun j u hu => ((bcell E6).1 g j (by omega)).trans (HB5.out j u hu))
  clear A5 O5 HB5 hEV
  go_wp2
  have seq := chunk1_seq (3 - 1) (by omega) V5.heap.size g f (S - f) (cap - f) ao s hs1M hsF (by omega) ha w5 hcap5
  refine (wpIn_wide (n := 3)).1 ?_
  refine wpIn_range_C (F := Fence.wide) (n := 3) rfl (by omega) (gf := 123) (lb := #[.pointer (some ⟨V5.heap.size, 0, none⟩), .pointer (some ⟨V5.heap.size + 1, 0, none⟩)]) rfl trivial (enters_of Tryd.func123 (by kernel_rfl) rfl)
    (encs := encC g) (C := fun _ => False) seq (fun r e => e.elim) (fun h1 h2 => ⟨h2.1.trans h1.1, h2.2.trans h1.2⟩) (fun W l o o' hl _ _ _ => ⟨World.putObj_heap_other (by omega), World.putObj_heap_other (by omega)⟩) (Below.refl _ _) (fun _ => rfl)
    (PaI w w5 g o V5.heap.size (.slice (some ⟨g, ao, none⟩) (S - f) (cap - f)) H) (fun _ _ _ => False) ?hI ?hIx ⟨hE5, rfl, Nat.le_refl _, hcap5, _, A6, O6⟩
    (fun x => { tmps := #[.string (ofL s), undef, .slice none 0 0, .slice (some ⟨g, 0, none⟩) S cap, .int .i64 f, .int .i64 S, .slice A3 8 c3, .pointer (some ⟨o + 1, 0, none⟩), .slice (some ⟨g, x.o, none⟩) x.t.length x.t.length, .string (ofL s), .slice (some ⟨g, 0, none⟩) S cap, .slice (some ⟨g, 0, none⟩) S cap, .int .i64 S, .int .i64 f, .slice (some ⟨g, 0, none⟩) S cap, .int .i64 S, .int .i64 S, .int .u8 ((S : Int) % 256), .int .i64 S, .int .i64 ((S : Int) / 256), .int .u8 ((S : Int) / 256 % 256), .int .i64 S, .int .i64 ((S : Int) / 65536), .int .u8 ((S : Int) / 65536), .int .i64 S, .int .i64 ((S : Int) / 16777216), .int .u8 ((S : Int) / 16777216), .slice (some ⟨W1.heap.size, 0, none⟩) 4 4, .string (ofL s), .string (ofL X), .string (ofL (X.take 4)), .slice A3 8 c3, .slice A3 8 c3, .slice (some ⟨g, 0, none⟩) S cap, .int .i64 f, .int .i64 f, .slice (some ⟨g, 0, none⟩) f f, .slice A4 (8 + f) c4, .string (ofL H), .slice (some ⟨o, 0, none⟩) 1 1, .slice (some ⟨g, 0, none⟩) S cap, .int .i64 f, .slice (some ⟨g, ao, none⟩) (S - f) (cap - f), .func (.func 123) #[] #[.pointer (some ⟨V5.heap.size, 0, none⟩), .pointer (some ⟨V5.heap.size + 1, 0, none⟩)], .slice (some ⟨g, x.o, none⟩) x.t.length x.t.length, undef, undef, undef, undef, undef, undef, undef, undef, undef, undef, undef], defers := [] }) ?assign ?body ?done ?stop
  case hI =>
    rintro pre X Y row ⟨h1, h2, h3, hc, v, h4, h5⟩ hgr hr
    have hr' : ∀ r, row = some r → w5.heap.size ≤ r ∧ ∃ o : Obj, X.heap[r]? = some o ∧ o.isCells = false := fun r e => (hr r e).resolve_left (fun h => h)
    exact ⟨h1.grown hgr h1.size (fun r e => by have := (hr' r e).1; have := hE5.size; omega), (hgr.block g (by omega) (fun e => by have := (hr' g e.symm).1; omega)).trans h2, Nat.le_trans h3 hgr.size, hc.grown hgr (fun r e => by have := (hr' r e).1; omega), v, arr_kept h4 hgr (fun r e => by have := (hr' r e).1; omega), own_kept h5 hgr (fun r e => .inr (hr' r e).2)⟩
  case hIx =>
    intro c pre X Y row h
    exact h.elim
  case assign =>
    intro l x W K hK
    simp only [encC]
    gi_wp2
    exact hK
  case body =>
    rintro l' pre ⟨xo, xt, hok0⟩ V ⟨h1, h2, h3, hc, v, h4, h5⟩ hlen hsz
    dsimp only
    have HOK := Kp.mk hok0
    have hcv0 : xt = (s.drop xo).take xt.length ∧ xt.length ≤ 110 ∧ 0 < xt.length := HOK.out
    have hl110 := hcv0.2.1
    clear hcv0
    obtain ⟨px, hpx⟩ : ∃ px : Chk s, (⟨xo, xt, hok0⟩ : Chk s) = px := ⟨_, rfl⟩
    have hpt : px.t = xt := by rw [← hpx]
    rw [hpx]
    clear hpx hok0
    obtain ⟨A, cA, hvA⟩ := own_slice h5
    subst hvA
    have hclen := chA_len s s.length f (by omega)
    have hpre : pre.length < 200000 := by have := HS.out; omega
    have HCV := Kp.mk (show ∀ W, Ext V W → (convert 56 9 (.slice (some ⟨g, xo, none⟩) xt.length xt.length)).run Tryd.prog W = .ok (.string (ofL xt)) W from fun W hW =>
      run_str_cells W _ _ _ Tryd.underlying56 Tryd.underlying5 Tryd.underlying9 ⟨g, xo, none⟩ xt.length xt.length xt rfl (fun j u hu => by
        have hj : j < xt.length := by
          have := (List.getElem?_eq_some_iff.1 hu).1
          rw [List.length_map] at this
          exact this
        rw [WideShapes.add_plain]
        refine (World.cell?_of_block (a := ⟨g, xo + j, none⟩) ((hW.block g (by have := hE5.size; omega)).trans h2)).trans (HB6.out (xo + j) u ?_)
        rw [← hu, List.getElem?_map, List.getElem?_map, HOK.out.1, List.getElem?_take_of_lt hj, List.getElem?_drop]))
    have hHL := Kp.mk (show (H :: pre.map (·.t)).map Str ++ [.string (ofL xt)] = (H :: (pre ++ [px]).map (·.t)).map Str by
      simp [Str, hpt])
    clear hpt
    clear hclen hlen
    refine wpIn_block ?_
    refine wpIn_region_tails l' _ (by kernel_rfl) (fun i v W => match i with
      | 0 => v = .slice A (1 + pre.length) cA
      | 1 => v = .slice (some ⟨g, xo, none⟩) xt.length xt.length
      | 2 => v = .slice (some ⟨g, xo, none⟩) xt.length xt.length
      | 3 => v = .int .i64 xt.length
      | 4 => v = .slice (some ⟨g, xo, none⟩) xt.length xt.length
      | 5 => v = .int .i64 xt.length
      | 6 => v = .slice (some ⟨g, xo, none⟩) xt.length xt.length
      | 7 => v = .string (ofL xt)
      | 8 => ∃ b, v = .slice (some ⟨b, 0, none⟩) 1 1 ∧ W.cell? ⟨b, 0, none⟩ = some (.string (ofL xt))
      | _ => True) 9 (by kernel_rfl) (by kernel_rfl) (by kernel_rfl) (by decide) (by kernel_rfl) (by kernel_rfl) (by kernel_rfl) ?_ ?_ ?_
    · intro i v W1 W2 e1 e2 h
      match i, h with
      | 0, h => exact h
      | 1, h => exact h
      | 2, h => exact h
      | 3, h => exact h
      | 4, h => exact h
      | 5, h => exact h
      | 6, h => exact h
      | 7, h => exact h
      | 8, ⟨b, h1, h2⟩ => exact ⟨b, h1, ((bcell e2).1 b 0 (World.block_lt_of_cell? _ _ h2)).trans h2⟩
      | (i + 9), h => exact h
    · refine localsR_cons (fun u W hW hd => ?_) ?_
      · have k0 := (h4.ext hW h4.lt).cell 0
        simp only [List.getElem?_cons_zero] at k0
        exact leaves_val rfl (v := .slice A (1 + pre.length) cA) (by go_simp) rfl
      refine localsR_cons (fun u W hW hd => leaves_val rfl (v := .slice (some ⟨g, xo, none⟩) xt.length xt.length) (by go_simp) rfl) ?_
      refine localsR_cons (fun u W hW hd => leaves_val rfl (v := .slice (some ⟨g, xo, none⟩) xt.length xt.length) (by go_simp) rfl) ?_
      refine localsR_cons (fun u W hW hd => ?_) ?_
      · have h2 : u 2 = _ := hd 2 (by kernel_rfl)
        exact leaves_val rfl (v := .int .i64 xt.length) (by go_simp) rfl
      refine localsR_cons (fun u W hW hd => leaves_val rfl (v := .slice (some ⟨g, xo, none⟩) xt.length xt.length) (by go_simp) rfl) ?_
      refine localsR_cons (fun u W hW hd => ?_) ?_
      · have h4 : u 4 = _ := hd 4 (by kernel_rfl)
        exact leaves_val rfl (v := .int .i64 xt.length) (by go_simp) rfl
      refine localsR_cons (fun u W hW hd => ?_) ?_
      · have h1 : u 1 = _ := hd 1 (by kernel_rfl)
        have h3 : u 3 = _ := hd 3 (by kernel_rfl)
        have h5 : u 5 = _ := hd 5 (by kernel_rfl)
        exact leaves_val rfl (v := .slice (some ⟨g, xo, none⟩) xt.length xt.length) (by go_simp) rfl
      refine localsR_cons (fun u W hW hd => ?_) ?_
      · have h6 : u 6 = _ := hd 6 (by kernel_rfl)
        have hcv := HCV.out W hW
        exact leaves_val rfl (v := .string (ofL xt)) (by go_simp) rfl
      refine localsR_cons (fun u W hW hd => ?_) localsR_nil
      · have h7 : u 7 = _ := hd 7 (by kernel_rfl)
        exact leaves_new rfl (v := .slice (some ⟨W.heap.size, 0, none⟩) 1 1) (by go_simp; rfl) ((Ext.rfl' W).al _) ⟨_, rfl, by simp [go_sem]⟩
    · intro u W hW hV
      have g0 : u 0 = _ := hV 0 (by decide)
      obtain ⟨b, g8, hb8⟩ := hV 8 (by decide)
      have O7 := own_ext h5 (fun j _ hj => hW.block j hj)
      have A7 := h4.ext hW h4.lt
      have C7 := hc.ext hW
      have hW1 := hW.size
      obtain ⟨i1, hi1, hs0, hs1', hs2⟩ := Tryd.elemStr.hi
      clear hV HCV
      refine wpListIn_append_own _ rfl _ _ 53 rfl o 9 i1 (.string ⟨#[]⟩) 1 16 Tryd.underlying53 hi1 hs0 hs1' hs2 rfl (by decide) _ _ _ (by go_simp) O7 ⟨b, 0, none⟩ 1 1 [.string (ofL xt)] (by go_simp) rfl (fun j y h => ?hc) (by simp [Value.oneCell']) (by unfold maxLen; omega) (by omega) (by omega) ?_
      case hc =>
        rw [WideShapes.add_plain, Nat.zero_add]
        match j, h with
        | 0, h => rw [← Option.some.inj h]; exact hb8
      intro v' w1 hown' hgrow _
      obtain ⟨g', cap', hv9⟩ := ownsRow_succ hown'
      subst hv9
      have A8 := arr_kept_type A7 O7 (by decide) hgrow
      have C8s := arr_kept_type C7.s O7 (by decide) hgrow
      have C8n := arr_kept_type C7.n O7 (by decide) hgrow
      obtain ⟨c6, f6⟩ := arr_cell0 A8
      go_simp
      gi_wp2
      have hwg : w.heap.size ≤ o := by rw [HG.out]; omega
      refine ⟨((ext_keep hW).trans ((KeepsOthers.of_grownBy hgrow fun j ob ej hj => ?_).trans (KeepsOthers.setCell _ _ _))).from _, ⟨(C8s.other _ (by omega)).trans hc.s.symm, (C8n.other _ (by omega)).trans hc.n.symm⟩, ?_, ?_, ?_, ⟨C8s.other _ (by omega), C8n.other _ (by omega)⟩, _, arr_set0 A8 _, own_eq (own_set_other hown' A8 (by decide) _) hHL.out (by rw [List.length_append, List.length_singleton]; omega)⟩
      · rcases O7.2 with ⟨e9, _⟩ | ⟨g9, cap9, cur9, e9, _, hgb, _⟩
        · rw [e9] at ej; simp [Value.ownBlock] at ej
        · rw [e9] at ej
          obtain rfl : g9 = j := by simpa [Value.ownBlock] using ej
          rw [hgb] at hj; cases hj; rfl
      · exact ((h1.tr hW).own hgrow O7 hwg).st (p := ⟨o + 1, 0, none⟩) (by show w.heap.size ≤ o + 1; omega) _
      · have hne : some g ≠ (Value.slice A (1 + pre.length) cA).ownBlock := fun e9 => by have := (O7.lt g e9.symm).1; omega
        refine (heap_setCell_other w1 ⟨o + 1, 0, none⟩ g _ (by simp; omega)).trans ((hgrow.block g (by have := hE5.size; omega) hne).trans ((hW.block g (by have := hE5.size; omega)).trans h2))
      · have := hgrow.size
        simp only [World.size_setCell]
        omega
  case done =>
    rintro D xs W hD rfl ⟨h1, h2, h3, hc, v, h4, h5⟩ hK
    obtain ⟨A, cA, hvA⟩ := own_slice h5
    subst hvA
    obtain ⟨c4', f4'⟩ := arr_cell0 h4
    have hfin := Kp.mk (show (H :: (chA s f).map (·.t)).map Str = (partsE s).map Str ∧ 1 + (chA s f).length = (partsE s).length by
      have e1 : H :: (chA s f).map (·.t) = partsE s := by
        unfold partsE
        rw [HH.out, chA_texts s s.length f (by omega)]
        congr 2
        have := HF.out; have := HS.out
        rcases Nat.le_total 102 S with h | h
        · rw [show f = 102 by omega]
        · rw [List.drop_of_length_le (by omega), List.drop_of_length_le (by omega)]
      refine ⟨by rw [e1], ?_⟩
      rw [← e1, List.length_cons, List.length_map]
      omega)
    obtain ⟨n, hn⟩ : ∃ n, 1 + (chA s f).length = n := ⟨_, rfl⟩
    rw [hn] at h5 c4' hfin
    have hwg : w.heap.size ≤ o := by rw [HG.out]; omega
    clear hn seq
    gi_wp2
    go_wp2
    refine ⟨by simp, .inl ⟨_, _, rfl, run_takeDeferred hK, ?_⟩⟩
    refine ⟨.slice A n cA, by simp [results, Tryd.f75, go_sem], ?_⟩
    have q := ownsRow_putObj h5 (.deferred none) hK rfl
    exact ⟨_, rfl, own_eq (own_more q hwg) hfin.out.1 hfin.out.2, h1.grown (grownBy_putObj' _ D _) h1.size (fun r e => by cases e; have := hE5.size; omega)⟩
  case stop =>
    rintro D c pre W hD hpre h hK
    exact h.elim
end Go.Proofs.YtmnpbpfeoackiaaDoor
