/-
  Package sha: the sum of a text; a hash of nothing, parts added to it, its sum and length. Conditions: the package's table holds the constants; at most 900000 bytes. · Package sha: the sum of a hash. Conditions: the package's table holds the constants; at most 900000 bytes. · []byte(s): a row of bytes of the call's own, whose mark lies behind its cells; append onto such a row, string of it. Condition: Go's own limits on lengths and bytes. · Package sha's reference: the padded text. Condition: at most 1000000 bytes. · Package sha's reference: words as bytes. No condition.
-/
import Derived.Test.YtmnpbpfeoackiaaDoorMhB
import Derived.Test.YtmnpbpfeoackiaaDoorInv4
import Derived.Test.YtmnpbpfeoackiaaDoorBase
import Derived.Lib.ConvBytes
import Derived.Lib.FrozenHead
import Derived.Test.YtmnpbpfeoackiaaDoorMhF
namespace Go.Proofs.YtmnpbpfeoackiaaDoor
open Go.RowKit

theorem over_fold (v : St) (s : List UInt8) (w : World) (hT : Tab w) (hs : s.length ≤ 1000000) : Calls Tryd.prog 120 #[stV v, .string (ofL s)] w fun e w' => e = .returned (stV (foldS v s)) ∧ Ext w w' := over_any v s w hT hs

theorem shaPad_le (s : List UInt8) : (shaPad s).length ≤ s.length + 72 := by unfold shaPad; rw [List.length_append, length_endingL]; omega

set_option maxHeartbeats 1000000 in
theorem sum_any (s : List UInt8) (w : World) (hT : Tab w) (hs : s.length ≤ 900000) : Calls Tryd.prog 97 #[.string (ofL s)] w fun e w' => e = .returned (.string (ofL (sumL s))) ∧ Ext w w' := by
  obtain ⟨P, hP⟩ : ∃ P, shaPad s = P := ⟨_, rfl⟩
  have hl : P.length ≤ 1000000 := by rw [← hP]; have := shaPad_le s; omega
  have hp : ∀ w, Calls Tryd.prog 122 #[.string (ofL s)] w fun e w' => e = .returned (.string (ofL P)) ∧ Ext w w' := fun w => by rw [← hP]; exact pad_sha s w (by omega)
  obtain ⟨u, hu⟩ : ∃ u, foldS initS P = u := ⟨_, rfl⟩
  have ho : ∀ w, Tab w → Calls Tryd.prog 120 #[stV initS, .string (ofL P)] w fun e w' => e = .returned (stV u) ∧ Ext w w' := fun w hw => by rw [← hu]; exact over_fold initS P w hw hl
  have hr : sumL s = tellS u := by rw [sumL_fold, hP, hu]
  rw [hr]
  have HP := Lib.hid hp; have HO := Lib.hid ho
  clear hp ho hr hu hP hl
  go_enter Tryd.func97, Tryd.ntmps97
  go_wp2_with fail
  refine (first_any _).mono ?_
  rintro e w1 ⟨rfl, hE1⟩
  go_wp2_with fail
  refine (HP.out _).mono ?_
  rintro e w2 ⟨rfl, hE2⟩
  have E2 := hE1.tr hE2
  go_wp2_with fail
  refine (HO.out _ (hT.ext E2)).mono ?_
  rintro e w3 ⟨rfl, hE3⟩
  go_wp2_with fail
  refine (tell_any u _).mono ?_
  rintro e w4 ⟨rfl, hE4⟩
  go_wp2
  go_ret
  exact ⟨rfl, (E2.tr hE3).tr hE4⟩

end Go.Proofs.YtmnpbpfeoackiaaDoor

namespace Go.Proofs.YtmnpbpfeoackiaaDoor
open Go.RowKit

end Go.Proofs.YtmnpbpfeoackiaaDoor

namespace Go.Proofs.YtmnpbpfeoackiaaDoor
open Go.RowKit

theorem storeCells_T (P : Program) (g o : Nat) (t : TypeId) (fz : Nat × Nat) : ∀ (vs : List Value) (i : Nat) (cur : Array Value) (w : World), w.heap[g]? = some (.cells cur t fz) → (fz.2 = 0 ∨ cur.size ≤ fz.1) → o + i + vs.length ≤ cur.size → (∀ v ∈ vs, v.oneCell' = true) →
    (storeCells ⟨g, o, none⟩ vs i).run P w = .ok () (w.setRow g (cur.toList.take (o + i) ++ vs ++ cur.toList.drop (o + i + vs.length)).toArray)
  | [], i, cur, w, hg, _, _, _ => by
    simp only [storeCells, List.append_nil, List.length_nil, Nat.add_zero, List.take_append_drop, Array.toArray_toList]
    rw [setRow_self w g cur t fz hg]
    rfl
  | v :: rest, i, cur, w, hg, hfz, hl, h1 => by
    have hi : o + i < cur.size := by simp at hl; omega
    have hadd : (⟨g, o, none⟩ : Addr).add i = ⟨g, o + i, none⟩ := by unfold Addr.add; split <;> simp_all
    have hcell : w.cell? ⟨g, o + i, none⟩ = some cur[o + i] := by simp [World.cell?, hg, hi]
    have hfro : w.frozen? ⟨g, o + i, none⟩ = false := by
      obtain ⟨lo, hi'⟩ := fz
      simp only [World.frozen?, hg, Bool.and_eq_false_iff, decide_eq_false_iff_not]
      simp only at hfz
      omega
    have hst : (store ((⟨g, o, none⟩ : Addr).add i) v).run P w = .ok () (w.setRow g (cur.setIfInBounds (o + i) v)) := by
      rw [hadd, run_store P w _ v _ (h1 v (by simp)), hcell]
      simp [hfro, setCell_eq_setRow w g (o + i) cur t fz v hg]
    have ih := storeCells_T P g o t fz rest (i + 1) (cur.setIfInBounds (o + i) v) (w.setRow g (cur.setIfInBounds (o + i) v)) (setRow_heap w g cur _ t _ hg) (by simpa using hfz) (by simp at hl ⊢; omega) (fun x hx => h1 x (by simp [hx]))
    simp only [storeCells, Sem.run_bind, hst, Result.andThen_ok, ih, setRow_setRow]
    congr 3
    have e := list_seg_step cur.toList (o + i) v rest (by simp at hl ⊢; omega)
    simpa [Array.toList_setIfInBounds, Nat.add_assoc] using e

/-- A slice of the call's own, of elements of one cell; the row's mark, if there is one, lies behind its cells. -/
def OwnT (w : World) (base : Nat) (e : TypeId) (v : Value) (n : Nat) (xs : List Value) : Prop :=
  xs.length = n ∧ ((v = .slice none 0 0 ∧ n = 0) ∨
    ∃ g cap cur fz, v = .slice (some ⟨g, 0, none⟩) n cap ∧ base ≤ g ∧ w.heap[g]? = some (.cells cur e fz) ∧ (fz.2 = 0 ∨ cap ≤ fz.1) ∧ n ≤ cap ∧ cap ≤ maxLen ∧ cur.size = cap ∧ cur.toList.take n = xs)

section
variable {P : Program} {t e : TypeId} {z : Value} {bytes : Nat} {w : World} {base n : Nat} {v : Value} {xs : List Value}

theorem OwnT.of (h : w.ownsRow base e 1 v n xs) : OwnT w base e v n xs := by
  refine ⟨by simpa using h.1, ?_⟩
  rcases h.2 with hn | ⟨g, cap, cur, hv, hb, hg, hn, hm, hs, ht⟩
  · exact .inl hn
  · exact .inr ⟨g, cap, cur, (0, 0), hv, hb, hg, .inl rfl, hn, hm, by simpa using hs, by simpa using ht⟩
theorem OwnT.lt (h : OwnT w base e v n xs) : ∀ k, v.ownBlock = some k → base ≤ k ∧ k < w.heap.size := by
  intro k hk
  rcases h.2 with ⟨rfl, _⟩ | ⟨g, cap, cur, fz, rfl, hb, hg, _⟩
  · simp [Value.ownBlock] at hk
  · simp [Value.ownBlock] at hk
    subst hk
    exact ⟨hb, (Array.getElem?_eq_some_iff.1 hg).1⟩
theorem OwnT.kept {w' : World} (h : OwnT w base e v n xs) (hE : ∀ k, base ≤ k → k < w.heap.size → w'.heap[k]? = w.heap[k]?) : OwnT w' base e v n xs := by
  refine ⟨h.1, ?_⟩
  rcases h.2 with hn | ⟨g, cap, cur, fz, rfl, hb, hg, rest⟩
  · exact .inl hn
  · refine .inr ⟨g, cap, cur, fz, rfl, hb, ?_, rest⟩
    rw [hE g hb (Array.getElem?_eq_some_iff.1 hg).1]
    exact hg
theorem OwnT.alloc (h : OwnT w base e v n xs) (o : Obj) : OwnT (w.alloc o) base e v n xs := h.kept fun k _ hk => Below.heap_alloc w o k hk
theorem OwnT.eq {m : Nat} {ys : List Value} (h : OwnT w base e v n xs) (hx : xs = ys) (hn : n = m) : OwnT w base e v m ys := by rw [← hx, ← hn]; exact h
theorem OwnT.slice (h : OwnT w base e v n xs) : ∃ A c, v = .slice A n c := by
  rcases h.2 with ⟨rfl, rfl⟩ | ⟨g, cap, cur, fz, rfl, _⟩
  · exact ⟨_, _, rfl⟩
  · exact ⟨_, _, rfl⟩
theorem OwnT.cells (h : OwnT w base e v n xs) {g : Nat} (hg : v.ownBlock = some g) : ∀ j u, xs[j]? = some u → w.cell? ((⟨g, 0, none⟩ : Addr).add j) = some u := by
  intro j u hu
  rcases h.2 with ⟨rfl, _⟩ | ⟨g', cap, cur, fz, rfl, _, hgg, _, _, _, _, htake⟩
  · simp [Value.ownBlock] at hg
  · simp [Value.ownBlock] at hg
    subst hg
    have hadd : (⟨g', 0, none⟩ : Addr).add j = ⟨g', j, none⟩ := by unfold Addr.add; split <;> simp_all
    rw [hadd, cell_of_row w g' j cur e fz hgg]
    rw [← htake, List.getElem?_take] at hu
    split at hu
    · simpa using hu
    · cases hu

theorem run_append_room_T (w : World) (t ty e : TypeId) (i : TypeInfo) (ht : P.underlying t = some (.slice e)) (hi : P.info? e = some i) (hsz : i.size = 1)
    (g sLen sCap : Nat) (cur : Array Value) (fz : Nat × Nat) (hg : w.heap[g]? = some (.cells cur e fz)) (hfz : fz.2 = 0 ∨ cur.size ≤ fz.1)
    (a : Addr) (m c : Nat) (news : List Value) (hl : news.length = m) (hnews : ∀ j u, news[j]? = some u → w.cell? (a.add j) = some u) (h1 : ∀ u ∈ news, u.oneCell' = true)
    (hroom : sLen + m ≤ sCap) (hfit : sLen + news.length ≤ cur.size) :
    (Builtin.append_ #[t, t] ty #[.slice (some ⟨g, 0, none⟩) sLen sCap, .slice (some a) m c]).run P w =
      .ok (.slice (some ⟨g, 0, none⟩) (sLen + m) sCap) (w.setRow g (cur.toList.take sLen ++ news ++ cur.toList.drop (sLen + news.length)).toArray) := by
  have hf := run_firstCells_some (P := P) w 1 m a m c news (by simpa using hl) hnews
  have hst := storeCells_T P g sLen e fz news 0 cur w hg hfz (by simpa using hfit) h1
  simp only [Nat.add_zero] at hst
  simp [Builtin.append_, run_underlying ht, sizeOf, typeInfo, hi, hsz, Builtin.lenOf, hroom, hf, Addr.add_lit, hst]

theorem run_app_T (E : Elem P t e z 1 bytes) (ty : TypeId) (h : OwnT w base e v n xs) (a : Addr) (m c : Nat) (news : List Value) (hl : news.length = m) (hnews : ∀ j u, news[j]? = some u → w.cell? (a.add j) = some u)
    (h1 : ∀ u ∈ news, u.oneCell' = true) (h63 : n + m ≤ 9223372036854775807) (hbytes : (n + m) * bytes ≤ 140737488355328) (hbase : base ≤ w.heap.size) :
    ∃ v' w', (Builtin.append_ #[t, t] ty #[v, .slice (some a) m c]).run P w = .ok v' w' ∧ OwnT w' base e v' (n + m) (xs ++ news) ∧ w.grownBy w' v.ownBlock := by
  obtain ⟨i, hi, hz, hsz, hby⟩ := E.hi
  have ht := E.ht
  rcases h.2 with ⟨rfl, rfl⟩ | ⟨g, cap, cur, fz, rfl, hbg, hg, hfz, hnc, hcm, hcs, htake⟩
  · have hx : xs = [] := List.eq_nil_of_length_eq_zero h.1
    subst hx
    obtain ⟨v', w', r1, r2, r3, _⟩ := run_append_own (P := P) w base t ty e i z 1 bytes ht hi hz hsz hby E.hz E.h0 (.slice none 0 0) 0 [] (World.ownsRow_nil w base e 1) a m c news (by simpa using hl) hnews h1 (by unfold maxLen; omega) hbytes hbase
    exact ⟨v', w', r1, OwnT.of r2, r3⟩
  · have hlen : (xs ++ news).length = n + m := by rw [List.length_append, h.1, hl]
    by_cases hroom : n + m ≤ cap
    · have hr := run_append_room_T (P := P) w t ty e i ht hi hsz g n cap cur fz hg (by rw [hcs]; exact hfz) a m c news hl hnews h1 hroom (by omega)
      refine ⟨_, _, hr, ⟨hlen, .inr ⟨g, cap, _, fz, rfl, hbg, setRow_heap w g cur _ e _ hg, hfz, hroom, hcm, ?_, ?_⟩⟩, ⟨rfl, rfl, rfl, by simp, fun k _ hk => setRow_other w g k _ (fun e => hk (by simp [Value.ownBlock, e]))⟩⟩
      · simp only [List.size_toArray, List.length_append, List.length_take, List.length_drop, Array.length_toList]
        omega
      · rw [htake, ← hlen]
        exact List.take_left
    · have holds : ∀ j u, xs[j]? = some u → w.cell? ((⟨g, 0, none⟩ : Addr).add j) = some u := h.cells (g := g) rfl
      subst hby
      have hr := run_append_grow (P := P) w t ty e i z ht hi hz ⟨g, 0, none⟩ n cap xs (by rw [h.1, hsz, Nat.mul_one]) holds a m c news (by rw [hl, hsz, Nat.mul_one]) hnews (by omega) (by omega) (growslice_fits (by omega) hbytes)
      have hge := grownCap_ge w (n + m) cap e
      have hcm2 : grownCap w (n + m) cap e ≤ maxLen := grownCap_le_maxLen w (n + m) cap e (by unfold maxLen; omega)
      refine ⟨_, _, hr, ⟨hlen, .inr ⟨w.heap.size, _, _, (0, 0), rfl, hbase, heap_alloc_new w.drew _, .inl rfl, hge, hcm2, ?_, ?_⟩⟩, ⟨rfl, rfl, rfl, by simp, fun k hk _ => Below.heap_alloc w.drew _ k hk⟩⟩
      · simp only [Array.size_append, List.size_toArray, size_zeroCells, E.hz, h.1, hl]
        omega
      · simp only [Array.toList_append, List.append_assoc]
        rw [← List.append_assoc, ← hlen]
        exact List.take_left

/-- append(v, x, ..) of elements that are written out. -/
theorem wpl_appT (E : Elem P t e z 1 bytes) {ops : Array Oper} {rest : List Oper} {o : Oper} {a : Act} {Q : Exit → Act → World → Prop} {news : List Value} {e' : TypeId}
    (hgd : o.guard = none) (s x : Operand) (ho : o.op = .call { callee := .builtin .append, args := #[s, x], argTypes := #[t, t] })
    (hown : OwnT w base e v n xs) (m : Nat) (hs : a.eval s = v) (hx : a.eval x = .slice (some ⟨w.heap.size, 0, none⟩) m m)
    (hl : news.length = m) (h1 : ∀ u ∈ news, u.oneCell' = true) (h63 : n + m ≤ 9223372036854775807) (hbytes : (n + m) * bytes ≤ 140737488355328) (hbase : base ≤ w.heap.size)
    (h : ∀ v' w', OwnT w' base e v' (n + m) (xs ++ news) → w.grownBy w' v.ownBlock → wpList P ops Q rest (a.put o.dst v') w') : wpList P ops Q (o :: rest) a (w.alloc (.cells news.toArray e')) := by
  obtain ⟨v', w', hr, h2, h3⟩ := run_app_T E o.type (hown.alloc (.cells news.toArray e')) ⟨w.heap.size, 0, none⟩ m m news hl (cells_lit w news e' _) h1 h63 hbytes (by simp; omega)
  refine wpList_plain hgd fun K hK => ?_
  unfold Oper.wp execOp
  simp only [ho, resolve, invoke, builtin, Sem.run_bind, Sem.run_pure, Result.andThen_ok, List.map_toArray, List.map_cons, List.map_nil, hs, hx, hr]
  exact hK _ _ (h v' w' h2 ⟨h3.os, h3.tape, h3.output, Nat.le_trans (by simp) h3.size, fun k hk hne => (h3.block k (by simp; omega) hne).trans (Below.heap_alloc w _ k hk)⟩)

theorem Ext.ownT {a b c : World} {m : Nat} {u : Value} {ys : List Value} (h : Ext a b) (hg : b.grownBy c u.ownBlock) (ho : OwnT b base e u m ys) (hb : a.heap.size ≤ base) : Ext a c :=
  h.gr hg fun k hk => by have := ho.lt k hk; omega

/-- string(v). -/
theorem run_str_T {l : List UInt8} (src dst e' : TypeId) (hs : P.underlying src = some (.slice e')) (he : P.underlying e' = some (.int .u8)) (hd : P.underlying dst = some .string)
    (hown : OwnT w base e v n (l.map U8)) : (convert src dst v).run P w = .ok (.string (ofL l)) w := by
  have hl : l.length = n := by simpa using hown.1
  rcases hown.2 with ⟨rfl, rfl⟩ | ⟨g, cap, cur, fz, rfl, hrest⟩
  · have hl0 : l = [] := List.eq_nil_of_length_eq_zero hl
    subst hl0
    rw [run_convert_bytes_string w src dst e' _ _ _ hs he hd]
    rfl
  · exact run_str_cells w src dst e' hs he hd _ n cap l hl (hown.cells rfl)

/-- []byte(s). -/
theorem run_bytes_T (w : World) (src dst e : TypeId) (s : ByteArray) (hs : P.underlying src = some .string) (hd : P.underlying dst = some (.slice e)) (he : P.underlying e = some (.int .u8)) (h63 : s.size ≤ 9223372036854775807) :
    ∃ v w', (convert src dst (.string s)).run P w = .ok v w' ∧ OwnT w' w.heap.size e v s.size ((toL s).map U8) ∧ Ext w w' := by
  refine ⟨_, _, Lib.run_convert_string_bytes w src dst e s hs hd he, ⟨by rw [List.length_map, length_toL], .inr ⟨w.heap.size, _, _, _, rfl, Nat.le_refl _, Lib.bytesWorld_at_new w e s, .inr ?_, grownCap_ge w s.size 0 e, grownCap_le_maxLen w s.size 0 e (by unfold maxLen; omega), ?_, ?_⟩⟩,
    ⟨rfl, rfl, rfl, by rw [Lib.bytesWorld_size]; omega, fun k hk => Lib.bytesWorld_at_old w e s k hk⟩⟩
  · have := grownCap_ge w s.size 0 e
    simp only [Lib.bytesCells, Array.size_append, Array.size_map, Array.size_replicate, ByteArray.size_data]
    omega
  · have := grownCap_ge w s.size 0 e
    simp only [Lib.bytesCells, Array.size_append, Array.size_map, Array.size_replicate, ByteArray.size_data]
    omega
  · have e1 : (Lib.bytesCells w e s).toList = (toL s).map U8 ++ List.replicate (grownCap w s.size 0 e - s.size) (.int .u8 0) := by
      simp [Lib.bytesCells, toL]
      intro a _; rfl
    rw [e1, List.take_append_of_le_length (by rw [List.length_map, length_toL]; omega), List.take_of_length_le (by rw [List.length_map, length_toL]; omega)]
end
end Go.Proofs.YtmnpbpfeoackiaaDoor

namespace Go.Proofs.YtmnpbpfeoackiaaDoor
open Go.RowKit

theorem Tryd.bytesT (w : World) (s : ByteArray) (h63 : s.size ≤ 9223372036854775807) : ∃ v w', (convert 9 56 (.string s)).run Tryd.prog w = .ok v w' ∧ OwnT w' w.heap.size 5 v s.size ((toL s).map U8) ∧ Ext w w' :=
  run_bytes_T w _ _ _ s Tryd.underlying9 Tryd.underlying56 Tryd.underlying5 h63
theorem Tryd.strT {w : World} {base : Nat} {v : Value} {n : Nat} {l : List UInt8} (hown : OwnT w base 5 v n (l.map U8)) : (convert 56 9 v).run Tryd.prog w = .ok (.string (ofL l)) w :=
  run_str_T _ _ _ Tryd.underlying56 Tryd.underlying5 Tryd.underlying9 hown
def slN : Value → Nat
  | .slice _ n _ => n
  | _ => 0

set_option maxRecDepth 100000 in
set_option maxHeartbeats 4000000 in
theorem rspad_any (s : List UInt8) (w : World) (hs : s.length ≤ 1000000) : Calls Tryd.prog 104 #[.string (ofL s)] w fun e w' => e = .returned (.string (ofL (shaPad s))) ∧ Ext w w' := by
  obtain ⟨n, hn⟩ : ∃ n, s.length = n := ⟨_, rfl⟩
  rw [hn] at hs
  obtain ⟨z, hz⟩ : ∃ z : Nat, (119 - n % 64) % 64 = z := ⟨_, rfl⟩
  have z0 : z < 64 := by omega
  have z1 : ∀ j : Nat, j < z → ((((n : Int) + 1 + j) % 64 != 56) = true) := fun j hj => by simp; omega
  have z2 : (((n : Int) + 1 + z) % 64 != 56) = false := by simp; omega
  have hl : shaPad s = s ++ 128 :: (List.replicate z 0 ++ be8 (8 * n)) := by unfold shaPad endingL; rw [hn, hz]
  obtain ⟨vb, wb, hrun, hownb, hEb⟩ := Tryd.bytesT w (ofL s) (by rw [size_ofL, hn]; omega)
  rw [size_ofL, hn, toL_ofL] at hownb
  have hsz : (ofL s).size = n := by rw [size_ofL, hn]
  have HL := Lib.hid hl; have HZ1 := Lib.hid z1; have HZ2 := Lib.hid z2; have HN := Lib.hid hn
  clear hl z1 z2 hz hn
  go_enter Tryd.func104, Tryd.ntmps104
  go_wp2_with (first
    | (at_builtin; refine wpl_appT Tryd.elemU8 rfl _ _ rfl hownb 1 rfl rfl rfl (by intro u hu; simp at hu; rw [hu]; rfl) (by omega) (by omega) hEb.size ?_; intro v1 w1 hown1 hg1; have hE1 := hEb.ownT hg1 hownb (Nat.le_refl _); clear hownb hg1 hrun hEb))
  go_loopw [3] (fun b wr => ∃ j : Nat, j ≤ z ∧ (∃ A c, b = .slice A (n + 1 + j) c) ∧ Ext w wr ∧ OwnT wr w.heap.size 5 b (n + 1 + j) (s.map U8 ++ [.int .u8 128] ++ List.replicate j (.int .u8 0))) (fun b _ => n + 1 + z - slN b)
  case atStart =>
    obtain ⟨A, c, hv⟩ := hown1.slice
    exact ⟨0, by omega, ⟨A, c, hv⟩, hE1, by simpa using hown1⟩
  case round =>
    clear hown1 hE1
    obtain ⟨j, hj, ⟨A, c, rfl⟩, hE1, hown1⟩ := hrel
    by_cases hlt : j < z
    · have hz1 := HZ1.out j hlt
      go_wp2_with (at_builtin; refine wpl_appT Tryd.elemU8 rfl _ _ rfl hown1 1 rfl rfl rfl (by intro u hu; simp at hu; rw [hu]; rfl) (by omega) (by omega) hE1.size ?_; intro v2 w2 hown2 hg2; have hE2 := hE1.ownT hg2 hown1 (Nat.le_refl _); clear hown1 hg2 hE1)
      obtain ⟨A2, c2, rfl⟩ := hown2.slice
      go_roundw
      case rel => exact ⟨j + 1, by omega, ⟨A2, c2, rfl⟩, hE2, hown2.eq (by rw [List.append_assoc, ← List.replicate_succ']) (by omega)⟩
      case measure => simp [slN]; omega
    · obtain rfl : j = z := by omega
      have hz2 := HZ2.out
      go_wp2
      clear hz2
      have hown3 := hown1
      have hE3 := hE1
      clear hown1 hE1
      refine wp_loop_rounds 9 ?_
      rw [rounds_succ]
      go_wp2_with (at_builtin; refine wpl_appT Tryd.elemU8 rfl _ _ rfl hown3 1 rfl rfl rfl (by intro u hu; simp at hu; rw [hu]; rfl) (by omega) (by omega) (by have := hE3.size; omega) ?_; intro v4 w4 hown4 hg4; have hE4 := hE3.ownT hg4 hown3 (Nat.le_refl _); clear hown3 hg4 hE3)
      rw [rounds_succ]
      go_wp2_with (at_builtin; refine wpl_appT Tryd.elemU8 rfl _ _ rfl hown4 1 rfl rfl rfl (by intro u hu; simp at hu; rw [hu]; rfl) (by omega) (by omega) (by have := hE4.size; omega) ?_; intro v5 w5 hown5 hg5; have hE5 := hE4.ownT hg5 hown4 (Nat.le_refl _); clear hown4 hg5 hE4)
      rw [rounds_succ]
      go_wp2_with (at_builtin; refine wpl_appT Tryd.elemU8 rfl _ _ rfl hown5 1 rfl rfl rfl (by intro u hu; simp at hu; rw [hu]; rfl) (by omega) (by omega) (by have := hE5.size; omega) ?_; intro v6 w6 hown6 hg6; have hE6 := hE5.ownT hg6 hown5 (Nat.le_refl _); clear hown5 hg6 hE5)
      rw [rounds_succ]
      go_wp2_with (at_builtin; refine wpl_appT Tryd.elemU8 rfl _ _ rfl hown6 1 rfl rfl rfl (by intro u hu; simp at hu; rw [hu]; rfl) (by omega) (by omega) (by have := hE6.size; omega) ?_; intro v7 w7 hown7 hg7; have hE7 := hE6.ownT hg7 hown6 (Nat.le_refl _); clear hown6 hg7 hE6)
      rw [rounds_succ]
      go_wp2_with (at_builtin; refine wpl_appT Tryd.elemU8 rfl _ _ rfl hown7 1 rfl rfl rfl (by intro u hu; simp at hu; rw [hu]; rfl) (by omega) (by omega) (by have := hE7.size; omega) ?_; intro v8 w8 hown8 hg8; have hE8 := hE7.ownT hg8 hown7 (Nat.le_refl _); clear hown7 hg8 hE7)
      rw [rounds_succ]
      go_wp2_with (at_builtin; refine wpl_appT Tryd.elemU8 rfl _ _ rfl hown8 1 rfl rfl rfl (by intro u hu; simp at hu; rw [hu]; rfl) (by omega) (by omega) (by have := hE8.size; omega) ?_; intro v9 w9 hown9 hg9; have hE9 := hE8.ownT hg9 hown8 (Nat.le_refl _); clear hown8 hg9 hE8)
      rw [rounds_succ]
      go_wp2_with (at_builtin; refine wpl_appT Tryd.elemU8 rfl _ _ rfl hown9 1 rfl rfl rfl (by intro u hu; simp at hu; rw [hu]; rfl) (by omega) (by omega) (by have := hE9.size; omega) ?_; intro v10 w10 hown10 hg10; have hE10 := hE9.ownT hg10 hown9 (Nat.le_refl _); clear hown9 hg10 hE9)
      rw [rounds_succ]
      go_wp2_with (at_builtin; refine wpl_appT Tryd.elemU8 rfl _ _ rfl hown10 1 rfl rfl rfl (by intro u hu; simp at hu; rw [hu]; rfl) (by omega) (by omega) (by have := hE10.size; omega) ?_; intro v11 w11 hown11 hg11; have hE11 := hE10.ownT hg11 hown10 (Nat.le_refl _); clear hown10 hg11 hE10)
      rw [rounds_succ]
      have hv : ∀ (m : Nat), U8 (m % 256).toUInt8 = Value.int .u8 ((m % 256 : Nat) : Int) := fun m => by
        unfold U8
        rw [Nat.toUInt8, UInt8.toNat_ofNat', show 2 ^ 8 = 256 from rfl, Nat.mod_mod]
      have hown := hown11.eq (ys := (shaPad s).map U8) (m := (shaPad s).length) (hn := by rw [HL.out]; simp [be8, HN.out]; omega) (hx := by
        rw [HL.out]
        simp only [be8, List.map_cons, List.map_append, List.map_nil, List.map_replicate, hv, List.nil_append, List.cons_append, List.append_assoc]
        rw [show U8 128 = .int .u8 128 from rfl, show U8 0 = .int .u8 0 from rfl]
        congr 3
        repeat (first | rfl | (refine cons_int (by omega) ?_)))
      have hcv := Tryd.strT hown
      clear hown hown11 HL hv HZ1 HZ2 HN
      go_wp2
      go_ret
      exact ⟨rfl, hE11⟩
end Go.Proofs.YtmnpbpfeoackiaaDoor

namespace Go.Proofs.YtmnpbpfeoackiaaDoor
open Go.RowKit

def stW (v : St) : List UInt32 := [v.a, v.b, v.c, v.d, v.e, v.f, v.g, v.h]
theorem tellS_W (v : St) : tellS v = (stW v).flatMap tell4 := by
  unfold tellS stW
  simp only [List.flatMap_cons, List.flatMap_nil, List.append_nil]
theorem length_tell4 (x : UInt32) : (tell4 x).length = 4 := rfl
theorem length_tells : ∀ l : List UInt32, (l.flatMap tell4).length = 4 * l.length
  | [] => rfl
  | x :: l => by rw [List.flatMap_cons, List.length_append, length_tell4, length_tells l, List.length_cons]; omega
theorem slice4 {w : World} {b : Nat} {x0 x1 x2 x3 : Value} (h0 : w.cell? ⟨b, 0, none⟩ = some x0) (h1 : w.cell? ⟨b, 1, none⟩ = some x1) (h2 : w.cell? ⟨b, 2, none⟩ = some x2) (h3 : w.cell? ⟨b, 3, none⟩ = some x3) :
    ∀ j u, [x0, x1, x2, x3][j]? = some u → w.cell? ((⟨b, 0, none⟩ : Addr).add j) = some u := by
  intro j u hu
  rw [WideShapes.add_plain, Nat.zero_add]
  match j, hu with
  | 0, hu => rw [← Option.some.inj hu]; exact h0
  | 1, hu => rw [← Option.some.inj hu]; exact h1
  | 2, hu => rw [← Option.some.inj hu]; exact h2
  | 3, hu => rw [← Option.some.inj hu]; exact h3

set_option maxRecDepth 100000 in
set_option maxHeartbeats 4000000 in
theorem rtell_any (v : St) (w : World) : Calls Tryd.prog 108 #[stV v] w fun e w' => e = .returned (.string (ofL (tellS v))) ∧ Ext w w' := by
  obtain ⟨L, hL⟩ : ∃ L, stW v = L := ⟨_, rfl⟩
  have hl : L.length = 8 := by rw [← hL]; rfl
  have A00 : ∀ w : World, Arr (w.alloc (.cells (stCells v) 154)) w.heap.size 154 (L.map W32) := fun w => by rw [← hL]; exact Arr.new w 154 (stL v)
  rw [tellS_W, hL]
  have HA := Lib.hid A00
  clear A00 hL
  go_enter Tryd.func108, Tryd.ntmps108
  go_wp2
  go_loopw [3, 4] (fun b i wr => ∃ k : Nat, ∃ vb : Value, vb = b ∧ k ≤ 8 ∧ i = .int .i64 k ∧ Ext w wr ∧ Arr wr w.heap.size 154 (L.map W32) ∧ wr.ownsRow (w.heap.size + 1) 5 1 vb (4 * k) (((L.take k).flatMap tell4).map U8)) (fun _ i _ => 8 - (intOf i).toNat)
  case atStart => exact ⟨0, _, rfl, by omega, rfl, (Ext.rfl' _).al _, HA.out w, World.ownsRow_nil _ _ _ _⟩
  case round =>
    clear HA
    obtain ⟨k, vb, rfl, hk, rfl, hE, A0, hown⟩ := hrel
    by_cases hlt : k < 8
    · obtain ⟨x, hx⟩ : ∃ x, L[k]'(by omega) = x := ⟨_, rfl⟩
      have hcell : ∀ W, Ext wr W → W.cell? ⟨w.heap.size, k, none⟩ = some (W32 x) := fun W hW => by
        rw [(A0.ext hW A0.lt).cell k, List.getElem?_map, List.getElem?_eq_getElem (by omega), hx]; rfl
      have htk : (L.take (k + 1)).flatMap tell4 = (L.take k).flatMap tell4 ++ tell4 x := by
        rw [List.take_succ_eq_append_getElem (by omega), hx, List.flatMap_append]; simp
      have hx32 := x.toNat_lt
      have HT := Lib.hid htk; have HC := Lib.hid hcell
      clear htk hcell hx hl
      go_upto_region 5 with fail
      refine wp_region_tails (fun i v W => match i with
        | 0 => v = vb
        | 1 => v = .int .i64 k
        | 2 => v = .pointer (some ⟨w.heap.size, k, none⟩)
        | 3 => v = W32 x
        | 4 => v = .int .u32 ((x.toNat : Int) / 16777216)
        | 5 => v = .int .u8 ((x.toNat : Int) / 16777216 % 256)
        | 6 => v = .int .i64 k
        | 7 => v = .pointer (some ⟨w.heap.size, k, none⟩)
        | 8 => v = W32 x
        | 9 => v = .int .u32 ((x.toNat : Int) / 65536)
        | 10 => v = .int .u8 ((x.toNat : Int) / 65536 % 256)
        | 11 => v = .int .i64 k
        | 12 => v = .pointer (some ⟨w.heap.size, k, none⟩)
        | 13 => v = W32 x
        | 14 => v = .int .u32 ((x.toNat : Int) / 256)
        | 15 => v = .int .u8 ((x.toNat : Int) / 256 % 256)
        | 16 => v = .int .i64 k
        | 17 => v = .pointer (some ⟨w.heap.size, k, none⟩)
        | 18 => v = W32 x
        | 19 => v = .int .u8 ((x.toNat : Int) % 256)
        | 20 => ∃ b, v = .slice (some ⟨b, 0, none⟩) 4 4 ∧ W.cell? ⟨b, 0, none⟩ = some (.int .u8 ((x.toNat : Int) / 16777216 % 256)) ∧ W.cell? ⟨b, 1, none⟩ = some (.int .u8 ((x.toNat : Int) / 65536 % 256)) ∧ W.cell? ⟨b, 2, none⟩ = some (.int .u8 ((x.toNat : Int) / 256 % 256)) ∧ W.cell? ⟨b, 3, none⟩ = some (.int .u8 ((x.toNat : Int) % 256))
        | _ => True) 21 (by kernel_rfl) (by kernel_rfl) (by kernel_rfl) (by decide) (by kernel_rfl) (by kernel_rfl) (by kernel_rfl) ?_ ?_ ?_
      · intro i v W1 W2 e1 e2 h
        match i, h with
        | 20, ⟨b, h1, h2, h3, h4, h5⟩ => exact ⟨b, h1, ((bcell e2).1 b 0 (World.block_lt_of_cell? _ _ h2)).trans h2, ((bcell e2).1 b 1 (World.block_lt_of_cell? _ _ h2)).trans h3, ((bcell e2).1 b 2 (World.block_lt_of_cell? _ _ h2)).trans h4, ((bcell e2).1 b 3 (World.block_lt_of_cell? _ _ h2)).trans h5⟩
        | 0, h => exact h
        | 1, h => exact h
        | 2, h => exact h
        | 3, h => exact h
        | 4, h => exact h
        | 5, h => exact h
        | 6, h => exact h
        | 7, h => exact h
        | 8, h => exact h
        | 9, h => exact h
        | 10, h => exact h
        | 11, h => exact h
        | 12, h => exact h
        | 13, h => exact h
        | 14, h => exact h
        | 15, h => exact h
        | 16, h => exact h
        | 17, h => exact h
        | 18, h => exact h
        | 19, h => exact h
        | (i + 21), h => exact h
      · refine localsR_cons (fun u W hW hd => leaves_val rfl (v := vb) (by go_simp) rfl) ?_
        refine localsR_cons (fun u W hW hd => leaves_val rfl (v := .int .i64 k) (by go_simp) rfl) ?_
        refine localsR_cons (fun u W hW hd => ?_) ?_
        · have h1 : u 1 = _ := hd 1 (by kernel_rfl)
          exact leaves_val rfl (v := .pointer (some ⟨w.heap.size, k, none⟩)) (by go_simp) rfl
        refine localsR_cons (fun u W hW hd => ?_) ?_
        · have h2 : u 2 = _ := hd 2 (by kernel_rfl)
          have hc := HC.out W hW
          exact leaves_val rfl (v := W32 x) (by go_simp) rfl
        refine localsR_cons (fun u W hW hd => ?_) ?_
        · have h3 : u 3 = _ := hd 3 (by kernel_rfl)
          exact leaves_val rfl (v := .int .u32 ((x.toNat : Int) / 16777216)) (by go_simp) rfl
        refine localsR_cons (fun u W hW hd => ?_) ?_
        · have h4 : u 4 = _ := hd 4 (by kernel_rfl)
          exact leaves_val rfl (v := .int .u8 ((x.toNat : Int) / 16777216 % 256)) (by go_simp; rfl) rfl
        refine localsR_cons (fun u W hW hd => leaves_val rfl (v := .int .i64 k) (by go_simp) rfl) ?_
        refine localsR_cons (fun u W hW hd => ?_) ?_
        · have h6 : u 6 = _ := hd 6 (by kernel_rfl)
          exact leaves_val rfl (v := .pointer (some ⟨w.heap.size, k, none⟩)) (by go_simp) rfl
        refine localsR_cons (fun u W hW hd => ?_) ?_
        · have h7 : u 7 = _ := hd 7 (by kernel_rfl)
          have hc := HC.out W hW
          exact leaves_val rfl (v := W32 x) (by go_simp) rfl
        refine localsR_cons (fun u W hW hd => ?_) ?_
        · have h8 : u 8 = _ := hd 8 (by kernel_rfl)
          exact leaves_val rfl (v := .int .u32 ((x.toNat : Int) / 65536)) (by go_simp) rfl
        refine localsR_cons (fun u W hW hd => ?_) ?_
        · have h9 : u 9 = _ := hd 9 (by kernel_rfl)
          exact leaves_val rfl (v := .int .u8 ((x.toNat : Int) / 65536 % 256)) (by go_simp; rfl) rfl
        refine localsR_cons (fun u W hW hd => leaves_val rfl (v := .int .i64 k) (by go_simp) rfl) ?_
        refine localsR_cons (fun u W hW hd => ?_) ?_
        · have h11 : u 11 = _ := hd 11 (by kernel_rfl)
          exact leaves_val rfl (v := .pointer (some ⟨w.heap.size, k, none⟩)) (by go_simp) rfl
        refine localsR_cons (fun u W hW hd => ?_) ?_
        · have h12 : u 12 = _ := hd 12 (by kernel_rfl)
          have hc := HC.out W hW
          exact leaves_val rfl (v := W32 x) (by go_simp) rfl
        refine localsR_cons (fun u W hW hd => ?_) ?_
        · have h13 : u 13 = _ := hd 13 (by kernel_rfl)
          exact leaves_val rfl (v := .int .u32 ((x.toNat : Int) / 256)) (by go_simp) rfl
        refine localsR_cons (fun u W hW hd => ?_) ?_
        · have h14 : u 14 = _ := hd 14 (by kernel_rfl)
          exact leaves_val rfl (v := .int .u8 ((x.toNat : Int) / 256 % 256)) (by go_simp; rfl) rfl
        refine localsR_cons (fun u W hW hd => leaves_val rfl (v := .int .i64 k) (by go_simp) rfl) ?_
        refine localsR_cons (fun u W hW hd => ?_) ?_
        · have h16 : u 16 = _ := hd 16 (by kernel_rfl)
          exact leaves_val rfl (v := .pointer (some ⟨w.heap.size, k, none⟩)) (by go_simp) rfl
        refine localsR_cons (fun u W hW hd => ?_) ?_
        · have h17 : u 17 = _ := hd 17 (by kernel_rfl)
          have hc := HC.out W hW
          exact leaves_val rfl (v := W32 x) (by go_simp) rfl
        refine localsR_cons (fun u W hW hd => ?_) ?_
        · have h18 : u 18 = _ := hd 18 (by kernel_rfl)
          exact leaves_val rfl (v := .int .u8 ((x.toNat : Int) % 256)) (by go_simp; rfl) rfl
        refine localsR_cons (fun u W hW hd => ?_) localsR_nil
        · have h5 : u 5 = _ := hd 5 (by kernel_rfl)
          have h10 : u 10 = _ := hd 10 (by kernel_rfl)
          have h15 : u 15 = _ := hd 15 (by kernel_rfl)
          have h19 : u 19 = _ := hd 19 (by kernel_rfl)
          exact leaves_new rfl (v := .slice (some ⟨W.heap.size, 0, none⟩) 4 4) (by go_simp; rfl) ((Ext.rfl' W).al _) ⟨_, rfl, by simp [go_sem], by simp [go_sem], by simp [go_sem], by simp [go_sem]⟩
      · intro u W hW hV
        have h0 : u 0 = vb := hV 0 (by decide)
        obtain ⟨bb, h20, k0, k1, k2, k3⟩ := hV 20 (by decide)
        clear hV
        have hown2 := own_ext hown (fun j _ hj => hW.block j hj)
        have hcells := slice4 k0 k1 k2 k3
        have hEW := hE.tr hW
        have hAW := A0.ext hW A0.lt
        refine wpl_app_at Tryd.elemU8 rfl _ _ rfl hown2 4 (by go_simp) (by go_simp; rfl) rfl hcells (by intro u hu; simp at hu; rcases hu with rfl | rfl | rfl | rfl <;> rfl) (by omega) (by omega) (by have := hEW.size; have := A0.lt; have := hW.size; omega) ?_
        intro v2 w2 hown3 hg3
        have hE3 := hEW.own hg3 hown2 (by omega)
        have hA3 : Arr w2 w.heap.size 154 (L.map W32) := by
          have hb := hown2.lt
          exact (hg3.block w.heap.size hAW.lt (fun hh => by have := hb _ hh.symm; omega)).trans hAW
        have hown4 := own_eq hown3 (ys := ((L.take (k + 1)).flatMap tell4).map U8) (m := 4 * (k + 1)) (by rw [HT.out, List.map_append, tell_cell]) (by omega)
        clear hown3 hg3 hcells k0 k1 k2 k3 hown2 hAW hEW hW hown hE A0 HC HT
        go_wp2
        go_roundw
        case rel => exact ⟨k + 1, v2, rfl, by omega, by go_num, hE3, hA3, hown4⟩
        case measure => simp [intOf]; omega
    · rw [List.take_of_length_le (by omega)] at hown
      have hcv := Tryd.str hown
      clear hown A0
      go_wp2
      go_ret
      exact ⟨rfl, hE⟩
end Go.Proofs.YtmnpbpfeoackiaaDoor
