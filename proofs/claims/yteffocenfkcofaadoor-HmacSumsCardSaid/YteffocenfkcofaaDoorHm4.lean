/-
  Package hmac: Split returns the parts of a frame, nil and false where there are none. Condition: at most 1000000 bytes.
-/
import Derived.Test.YteffocenfkcofaaDoorHm3
namespace Go.Proofs.YteffocenfkcofaaDoor
open Go.RowKit Go.Shelf
attribute [local go_sem] Oper.semAt_some

theorem length_itemsF : ∀ (k : Nat) (s : List UInt8), (itemsF k s).length ≤ k
  | 0, _ => Nat.le_refl _
  | k + 1, s => by
    have ih := length_itemsF k
    simp only [itemsF]
    split
    · simp
    · split
      · simp
      · split
        · simp
        · simpa using ih _
theorem length_itemsL (s : List UInt8) : (itemsL s).length ≤ s.length := length_itemsF _ _

theorem cuts_any (s : ByteArray) (w : World) : Calls Tryd.prog 69 #[.string s] w fun e w' => e = .returned (.func (.func 90) #[] #[.pointer (some ⟨w.heap.size, 0, none⟩)]) ∧ w' = w.alloc (.cells #[.string s] 9) := by
  go_enter Tryd.func69, Tryd.ntmps69
  go_wp2
  go_ret
  exact ⟨rfl, rfl⟩

/-- A cell block kept. -/
theorem arr_kept {W W' : World} {row : Option Nat} {k : Nat} {t : TypeId} {xs : List Value} (h : Arr W k t xs) (hg : W.grownBy W' row) (hne : ∀ r, row = some r → r ≠ k) : Arr W' k t xs := grownBy_at hg h hne
theorem own_more {w : World} {base base' : Nat} {e : TypeId} {size n : Nat} {v : Value} {xs : List Value} (h : w.ownsRow base e size v n xs) (hb : base' ≤ base) : w.ownsRow base' e size v n xs := by
  refine ⟨h.1, ?_⟩
  rcases h.2 with hn | ⟨g, cap, cur, rfl, hb', rest⟩
  · exact .inl hn
  · exact .inr ⟨g, cap, cur, rfl, Nat.le_trans hb hb', rest⟩
theorem own_kept {W W' : World} {row : Option Nat} {base : Nat} {e : TypeId} {size n : Nat} {v : Value} {xs : List Value} (h : W.ownsRow base e size v n xs) (hg : W.grownBy W' row) (hr : ∀ r, row = some r → r < base ∨ ∃ o : Obj, W.heap[r]? = some o ∧ o.isCells = false) : W'.ownsRow base e size v n xs := by
  refine h.kept hg ?_
  rcases h.2 with ⟨rfl, _⟩ | ⟨g, cap, cur, rfl, hb, hgb, _⟩
  · exact .inl rfl
  · refine .inr fun e' => ?_
    have e2 : row = some g := by rw [← e']; rfl
    rcases hr g e2 with h1 | ⟨o, ho, hc⟩
    · omega
    · rw [hgb] at ho; cases ho; cases hc
theorem arr_cell0 {W : World} {k : Nat} {t : TypeId} {v : Value} (h : Arr W k t [v]) : W.cell? ⟨k, 0, none⟩ = some v ∧ W.frozen? ⟨k, 0, none⟩ = false := ⟨h.cell 0, h.frozen 0⟩
theorem arr_set0 {W : World} {k : Nat} {t : TypeId} {v : Value} (h : Arr W k t [v]) (u : Value) : Arr (W.setCell ⟨k, 0, none⟩ u) k t [u] := h.set 0 u
theorem own_sliceS {w : World} {base : Nat} {e : TypeId} {size n : Nat} {v : Value} {xs : List Value} (h : w.ownsRow base e size v n xs) : ∃ A c, v = .slice A n c := by
  rcases h.2 with ⟨rfl, h0⟩ | ⟨g, cap, cur, rfl, _⟩
  · exact ⟨none, 0, by rw [h0]⟩
  · exact ⟨_, _, rfl⟩
theorem own_ne {w : World} {base : Nat} {e : TypeId} {size n : Nat} {v : Value} {xs : List Value} (h : w.ownsRow base e size v n xs) {k : Nat} (hk : k < base) : v.ownBlock = none ∨ v.ownBlock ≠ some k :=
  .inr fun e => by have := (h.lt k e).1; omega
/-- Between two rounds. -/
def SpI (w : World) (pre : List (List UInt8 × Bool)) (W : World) : Prop :=
  (∀ x ∈ pre, x.2 = true) ∧ Ext w W ∧ Arr W w.heap.size 26 [.slice none 0 0] ∧ Arr W (w.heap.size + 1) 4 [.bool false] ∧
    ∃ v, Arr W (w.heap.size + 2) 26 [v] ∧ W.ownsRow (w.heap.size + 4) 9 1 v pre.length (pre.map fun x => Str x.1)
/-- A round has left. -/
def SpX (w : World) (c : Code) (pre : List (List UInt8 × Bool)) (W : World) : Prop :=
  c = .ret ∧ (∃ x ∈ pre, x.2 = false) ∧ Ext w W ∧ Arr W w.heap.size 26 [.slice none 0 0] ∧ Arr W (w.heap.size + 1) 4 [.bool false]
def SplitPost (w : World) (s : List UInt8) (e : Ending) (w' : World) : Prop :=
  (∀ l, splitL s = some l → ∃ v, e = .returned (.tuple #[v, .bool true]) ∧ w'.ownsRow w.heap.size 9 1 v l.length (l.map Str)) ∧
    (splitL s = none → e = .returned (.tuple #[.slice none 0 0, .bool false])) ∧ Ext w w'

set_option maxRecDepth 100000 in
set_option maxHeartbeats 4000000 in
theorem split_any (s : List UInt8) (w : World) (hs : s.length ≤ 1000000) : Calls Tryd.prog 43 #[.string (ofL s)] w (SplitPost w s) := by
  refine (callsIn_wide (n := 3)).1 ?_
  refine callsIn_of_wp_marks Tryd.func43 rfl trivial ?_ rfl
  simp only [Tryd.ntmps43, List.size_toArray, List.length_cons, List.length_nil, Nat.reduceAdd, Nat.reduceSub, Array.replicate_succ, Array.replicate_zero, List.push_toArray, List.append_toArray, List.nil_append, List.cons_append]
  gi_wp2_with (refine ⟨trivial, ?_⟩; gi_at_call 69; refine (callsIn_wide.2 (cuts_any _ _)).mono ?_; rintro e w' ⟨rfl, rfl⟩)
  have A0 := (((Arr.new w 26 [.slice none 0 0]).alloc (.cells #[.bool false] 4)).alloc (.cells #[.slice none 0 0] 26)).alloc (.cells #[.string (ofL s)] 9)
  have A1 := ((Arr.new (w.alloc (.cells #[.slice none 0 0] 26)) 4 [.bool false]).alloc (.cells #[.slice none 0 0] 26)).alloc (.cells #[.string (ofL s)] 9)
  have A2 := (Arr.new ((w.alloc (.cells #[.slice none 0 0] 26)).alloc (.cells #[.bool false] 4)) 26 [.slice none 0 0]).alloc (.cells #[.string (ofL s)] 9)
  have A3 : CapS ((((w.alloc (.cells #[.slice none 0 0] 26)).alloc (.cells #[.bool false] 4)).alloc (.cells #[.slice none 0 0] 26)).alloc (.cells #[.string (ofL s)] 9)) (((w.alloc (.cells #[.slice none 0 0] 26)).alloc (.cells #[.bool false] 4)).alloc (.cells #[.slice none 0 0] 26)).heap.size s := Arr.new (((w.alloc (.cells #[.slice none 0 0] 26)).alloc (.cells #[.bool false] 4)).alloc (.cells #[.slice none 0 0] 26)) 9 [.string (ofL s)]
  have E0 := ((((Ext.rfl' w).al (.cells #[.slice none 0 0] 26)).al (.cells #[.bool false] 4)).al (.cells #[.slice none 0 0] 26)).al (.cells #[.string (ofL s)] 9)
  have S0 : ((((w.alloc (.cells #[.slice none 0 0] 26)).alloc (.cells #[.bool false] 4)).alloc (.cells #[.slice none 0 0] 26)).alloc (.cells #[.string (ofL s)] 9)).heap.size = w.heap.size + 4 := by simp only [World.size_alloc]
  simp only [World.size_alloc, Nat.add_assoc, Nat.reduceAdd] at A0 A1 A2 A3 ⊢
  generalize (((w.alloc (.cells #[.slice none 0 0] 26)).alloc (.cells #[.bool false] 4)).alloc (.cells #[.slice none 0 0] 26)).alloc (.cells #[.string (ofL s)] 9) = W0 at *
  obtain ⟨i0, hi, hz0, hz1, hz2⟩ := Tryd.elemStr.hi
  refine wpIn_range_C (F := Fence.wide) (n := 3) rfl (by omega) (gf := 90) (lb := #[.pointer (some ⟨w.heap.size + 3, 0, none⟩)]) rfl trivial (enters_of Tryd.func90 (by kernel_rfl) rfl)
    (encs := encI) (C := fun r => r = w.heap.size + 3) (cuts1_seq Fence.wide (3 - 1) trivial rfl (by omega) (w.heap.size + 3) s hs W0 A3) (fun r e => by omega)
    (fun h1 h2 => h2.trans h1) (fun W l o o' hl _ _ _ => World.putObj_heap_other (by omega)) (Below.refl _ _) (fun _ => rfl)
    (SpI w) (SpX w) ?hI ?hIx ⟨by simp, E0, A0, A1, _, A2, World.ownsRow_nil _ _ _ _⟩
    (fun x => { tmps := #[.string (ofL s), undef, .pointer (some ⟨w.heap.size, 0, none⟩), .pointer (some ⟨w.heap.size + 1, 0, none⟩), .pointer (some ⟨w.heap.size + 2, 0, none⟩), .string (ofL x.1), .bool x.2, .string (ofL s), .func (.func 90) #[] #[.pointer (some ⟨w.heap.size + 3, 0, none⟩)], .string (ofL x.1), .bool x.2, undef, undef, undef, undef, undef, undef, undef], defers := [] }) ?assign ?body ?done ?stop
  case hI =>
    rintro pre A B row ⟨h1, h2, h3, h4, v, h5, h6⟩ hg hr
    have ne : ∀ k, k < w.heap.size + 3 → ∀ r, row = some r → r ≠ k := fun k hk r e => by rcases hr r e with h | ⟨h, _⟩ <;> omega
    refine ⟨h1, h2.grown hg h2.size (fun k e => by rcases hr k e with h | ⟨h, _⟩ <;> omega), arr_kept h3 hg (ne _ (by omega)), arr_kept h4 hg (ne _ (by omega)), v, arr_kept h5 hg (ne _ (by omega)), own_kept h6 hg fun r e => ?_⟩
    rcases hr r e with h | ⟨_, h⟩
    · exact .inl (by omega)
    · exact .inr h
  case hIx =>
    rintro c pre A B row ⟨h0, h1, h2, h3, h4⟩ hg hr
    have ne : ∀ k, k < w.heap.size + 3 → ∀ r, row = some r → r ≠ k := fun k hk r e => by rcases hr r e with h | ⟨h, _⟩ <;> omega
    exact ⟨h0, h1, h2.grown hg h2.size (fun k e => by rcases hr k e with h | ⟨h, _⟩ <;> omega), arr_kept h3 hg (ne _ (by omega)), arr_kept h4 hg (ne _ (by omega))⟩
  case assign =>
    intro l x W K hK
    simp only [encI]
    gi_wp2
    exact hK
  case body =>
    rintro l pre ⟨p, b⟩ W ⟨h1, h2, h3, h4, v, h5, h6⟩ hlen hsz
    have hlen2 := length_itemsL s
    cases b with
    | false =>
      obtain ⟨c3, f3⟩ := arr_cell0 h3
      obtain ⟨c4, f4⟩ := arr_cell0 h4
      gi_wp2
      refine ⟨((KeepsOthers.setCell _ _ _).trans (KeepsOthers.setCell _ _ _)).from _, rfl, ⟨(p, false), by simp, rfl⟩, (h2.st (p := ⟨w.heap.size, 0, none⟩) (Nat.le_refl _) _).st (p := ⟨w.heap.size + 1, 0, none⟩) (by simp) _, ?_, ?_⟩
      · exact (arr_set0 h3 _).other _ (by omega)
      · exact arr_set0 (h4.other _ (by omega)) _
    | true =>
      obtain ⟨c5, f5⟩ := arr_cell0 h5
      gi_wp2_with (gi_at_builtin; refine wpListIn_append_own _ rfl _ _ 26 rfl (w.heap.size + 4) 9 i0 (.string ⟨#[]⟩) 1 16 Tryd.underlying26 hi hz0 hz1 hz2 rfl (by decide) _ _ _ rfl (h6.alloc _) ⟨W.heap.size, 0, none⟩ 1 1 [.string (ofL p)] rfl rfl (cell_one_new _ _ _) (by simp [Value.oneCell']) (by unfold maxLen; omega) (by omega) (by simp; omega) ?_; intro v' w1 hown' hgrow _; obtain ⟨g', cap', rfl⟩ := ownsRow_succ hown'; replace hgrow : (W.alloc (.cells #[.string (ofL p)] 9)).grownBy w1 v.ownBlock := hgrow; have hge : ∀ r, v.ownBlock = some r → w.heap.size + 4 ≤ r := fun r e => (h6.lt r e).1; have b5 : Arr w1 (w.heap.size + 2) 26 [v] := arr_kept (h5.alloc _) hgrow (fun r e => by have := hge r e; omega); obtain ⟨c6, f6⟩ := arr_cell0 b5)
      have hB : Below (w.heap.size + 4) W w1 := ((Below.refl _ W).alloc (by omega) _).grown hgrow (by simp; omega) hge
      have b3 : Arr w1 w.heap.size 26 [.slice none 0 0] := h3.ext hB (by omega)
      have b4 : Arr w1 (w.heap.size + 1) 4 [.bool false] := h4.ext hB (by omega)
      have hlt' := hown'.lt g' rfl
      refine ⟨((KeepsOthers.alloc W _).trans ((KeepsOthers.of_grownBy hgrow fun j o ej hj => ?_).trans (KeepsOthers.setCell _ _ _))).from _, (heap_setCell_other w1 ⟨w.heap.size + 2, 0, none⟩ (w.heap.size + 3) _ (by simp)).trans (hB.block _ (by omega)), ?_, ?_, b3.other _ (by omega), b4.other _ (by omega), _, arr_set0 b5 _, ?_⟩
      · rcases (h6.alloc (.cells #[.string (ofL p)] 9)).2 with ⟨rfl, _⟩ | ⟨g, cap, cur, rfl, _, hgb, _⟩
        · simp [Value.ownBlock] at ej
        · obtain rfl : g = j := by simpa [Value.ownBlock] using ej
          rw [hgb] at hj; cases hj; rfl
      · intro x hx
        rcases List.mem_append.1 hx with hx | hx
        · exact h1 x hx
        · simp at hx; rw [hx]
      · exact ((h2.al _).grown hgrow (by simp; omega) (fun k e => by have := hge k e; omega)).setCell (p := ⟨w.heap.size + 2, 0, none⟩) (by simp) _
      · have := hown'.kept (row := some (w.heap.size + 2)) (grownBy_setCell w1 (w.heap.size + 2) 0 (.slice (some ⟨g', 0, none⟩) (pre.length + 1) cap')) (.inr (by simp [Value.ownBlock]; omega))
        simpa [Str] using this
  case done =>
    rintro D xs W hD rfl ⟨h1, h2, h3, h4, v, h5, h6⟩ hK
    obtain ⟨A, c, rfl⟩ := own_sliceS h6
    obtain ⟨c3, f3⟩ := arr_cell0 h3
    obtain ⟨c4, f4⟩ := arr_cell0 h4
    obtain ⟨c5, f5⟩ := arr_cell0 h5
    have hsp : splitL s = some ((itemsL s).map (·.1)) := splitOf_good _ h1
    have HS := Lib.hid hsp; clear hsp
    obtain ⟨k, hk⟩ : ∃ k, (itemsL s).length = k := ⟨_, rfl⟩
    rw [hk] at h5 h6 c5
    have HKL := Lib.hid hk; clear hk
    gi_wp2
    have b3 : Arr ((W.setCell ⟨w.heap.size, 0, none⟩ (.slice A k c)).setCell ⟨w.heap.size + 1, 0, none⟩ (.bool true)) w.heap.size 26 [.slice A k c] := (arr_set0 h3 _).other _ (by omega)
    have b4 : Arr ((W.setCell ⟨w.heap.size, 0, none⟩ (.slice A k c)).setCell ⟨w.heap.size + 1, 0, none⟩ (.bool true)) (w.heap.size + 1) 4 [.bool true] := arr_set0 (h4.other _ (by omega)) _
    have hK' : ((W.setCell ⟨w.heap.size, 0, none⟩ (.slice A k c)).setCell ⟨w.heap.size + 1, 0, none⟩ (.bool true)).heap[D]? = some (.deferred (some [])) :=
      (heap_setCell_other _ ⟨w.heap.size + 1, 0, none⟩ D _ (by simp; omega)).trans ((heap_setCell_other _ ⟨w.heap.size, 0, none⟩ D _ (by simp; omega)).trans hK)
    refine ⟨by simp, .inl ⟨_, _, rfl, run_takeDeferred hK', ?_⟩⟩
    have d3 : Arr (((W.setCell ⟨w.heap.size, 0, none⟩ (.slice A k c)).setCell ⟨w.heap.size + 1, 0, none⟩ (.bool true)).putObj D (.deferred none)) w.heap.size 26 [.slice A k c] := (World.putObj_heap_other (by omega)).trans b3
    have d4 : Arr (((W.setCell ⟨w.heap.size, 0, none⟩ (.slice A k c)).setCell ⟨w.heap.size + 1, 0, none⟩ (.bool true)).putObj D (.deferred none)) (w.heap.size + 1) 4 [.bool true] := (World.putObj_heap_other (by omega)).trans b4
    have e3 := (arr_cell0 d3).1
    have e4 := (arr_cell0 d4).1
    refine ⟨.tuple #[.slice A k c, .bool true], by simp [results, Tryd.f43, go_sem, e3, e4], ?_, fun hn => ?_, ?_⟩
    · intro l hl
      rw [HS.out] at hl
      cases hl
      refine ⟨_, rfl, ?_⟩
      have q := ((h6.kept (grownBy_setCell W w.heap.size 0 (.slice A k c)) (own_ne h6 (by omega))).kept (grownBy_setCell _ (w.heap.size + 1) 0 (.bool true)) (own_ne h6 (by omega)))
      have q2 := ownsRow_putObj q (.deferred none) hK' rfl
      refine own_eq (own_more q2 (by omega)) ?_ (by rw [List.length_map, HKL.out])
      rw [List.map_map]; rfl
    · rw [HS.out] at hn; cases hn
    · exact ((h2.st (p := ⟨w.heap.size, 0, none⟩) (Nat.le_refl _) _).st (p := ⟨w.heap.size + 1, 0, none⟩) (by simp) _).grown (grownBy_putObj' _ D _) (by have := h2.size; simp; omega) (fun r e => by cases e; omega)
  case stop =>
    rintro D c pre W hD ⟨more, hpre⟩ ⟨rfl, ⟨x, hx, hxf⟩, h2, h3, h4⟩ hK
    have hsp : splitL s = none := splitOf_bad _ ⟨x, by rw [← hpre]; simp [hx], hxf⟩
    have HS := Lib.hid hsp; clear hsp hpre
    gi_wp2
    refine ⟨by simp, .inl ⟨_, _, rfl, run_takeDeferred hK, ?_⟩⟩
    have d3 : Arr (W.putObj D (.deferred none)) w.heap.size 26 [.slice none 0 0] := (World.putObj_heap_other (by omega)).trans h3
    have d4 : Arr (W.putObj D (.deferred none)) (w.heap.size + 1) 4 [.bool false] := (World.putObj_heap_other (by omega)).trans h4
    have e3 := (arr_cell0 d3).1
    have e4 := (arr_cell0 d4).1
    refine ⟨.tuple #[.slice none 0 0, .bool false], by simp [results, Tryd.f43, go_sem, e3, e4], ?_, fun hn => rfl, ?_⟩
    · intro l hl
      rw [HS.out] at hl; cases hl
    · exact h2.grown (grownBy_putObj' _ D _) h2.size (fun r e => by cases e; omega)
end Go.Proofs.YteffocenfkcofaaDoor
