/-
  What an honest holder puts together is proved; a token that is proved has the last tag of its links; a discharge that is bound elsewhere. In plain words over lists. No program in sight.
-/
import Derived.Test.YtejhiekikblbiaaDoorVePlain
namespace Go.Proofs.YtejhiekikblbiaaDoor
open Go.RowKit

theorem linksL_cons {T : List UInt8} {more : List TokL} (s : PrL) (tag : List UInt8) (l : LinkL) (r : List LinkL) : linksL T more s tag (l :: r) = if l.2 = [] then linksL T more ⟨s.used, s.list, s.texts ++ [l.1], s.work, s.sum⟩ (nextL tag l) r else
    if (thirdL T more s tag l).2 = true then linksL T more (thirdL T more s tag l).1 (nextL tag l) r else ((thirdL T more s tag l).1, false) := rfl
theorem linksL_append {T : List UInt8} {more : List TokL} : ∀ (a b : List LinkL) (s : PrL) (tag : List UInt8), linksL T more s tag (a ++ b) = if (linksL T more s tag a).2 = true then linksL T more (linksL T more s tag a).1 (foldT tag a) b else ((linksL T more s tag a).1, false)
  | [], b, s, tag => by simp [linksL, foldT]
  | x :: a, b, s, tag => by
    rw [List.cons_append, linksL_cons, linksL_cons, show foldT tag (x :: a) = foldT (nextL tag x) a from rfl]
    split
    · exact linksL_append a b _ _
    · split
      · exact linksL_append a b _ _
      · simp
/-- What a holder puts together: the token, its discharges behind their keys, its own texts. -/
inductive Hon (k id : List UInt8) : TokL → List (List UInt8 × TokL) → List (List UInt8) → Prop
  | nil : Hon k id ⟨id, [], rootL k id⟩ [] []
  | own {t : TokL} {m : List (List UInt8 × TokL)} {o : List (List UInt8)} (x : List UInt8) : Hon k id t m o → Hon k id (withL t (x, [])) m (o ++ [x])
  | third {t : TokL} {m : List (List UInt8 × TokL)} {o : List (List UInt8)} (s ck : List UInt8) (d : TokL) : Hon k id t m o → openR (sealL t.tag) s = (ck, 0) → s ≠ [] → d.tag = lastL ck d.id d.links → (∀ x ∈ d.links, x.2 = []) → Hon k id (withL t (d.id, s)) (m ++ [(ck, d)]) o
theorem Hon.tag {k id : List UInt8} {t : TokL} {m : List (List UInt8 × TokL)} {o : List (List UInt8)} (h : Hon k id t m o) : t.id = id ∧ t.tag = lastL k id t.links := by
  induction h with
  | nil => exact ⟨rfl, rfl⟩
  | own x _ ih => exact ⟨ih.1, by show nextL _ _ = lastL k id (_ ++ _); rw [lastL_snoc, ih.2]⟩
  | third s ck d _ _ _ _ _ ih => exact ⟨ih.1, by show nextL _ _ = lastL k id (_ ++ _); rw [lastL_snoc, ih.2]⟩
theorem Hon.count {k id : List UInt8} {t : TokL} {m : List (List UInt8 × TokL)} {o : List (List UInt8)} (h : Hon k id t m o) : sealed t.links = m.length ∧ t.links.length = m.length + o.length := by
  induction h with
  | nil => exact ⟨rfl, rfl⟩
  | own x _ ih => refine ⟨?_, by simp [withL, ih.2]; omega⟩
                  rw [← ih.1]; simp [withL, sealed, List.countP_append]
  | third s ck d _ _ hs _ _ ih => refine ⟨?_, by simp [withL, ih.2]; omega⟩
                                  rw [List.length_append, ← ih.1]; simp [withL, sealed, List.countP_append, hs]
theorem Hon.clean {k id : List UInt8} {t : TokL} {m : List (List UInt8 × TokL)} {o : List (List UInt8)} (h : Hon k id t m o) : ∀ x ∈ m, ∀ y ∈ x.2.links, y.2 = [] := by
  induction h with
  | nil => simp
  | own x _ ih => exact ih
  | third s ck d _ _ _ _ hc ih =>
    intro x hx
    rcases List.mem_append.1 hx with hx | hx
    · exact ih x hx
    · rw [List.mem_singleton.1 hx]; exact hc
def boundM (T : List UInt8) (m : List (List UInt8 × TokL)) : List TokL := m.map fun x => ⟨x.2.id, x.2.links, bindL T x.2.tag⟩
def listM (T : List UInt8) (m : List (List UInt8 × TokL)) : List (List UInt8 × TokL) := m.map fun x => (x.1, ⟨x.2.id, x.2.links, bindL T x.2.tag⟩)
theorem rep_get (n m i : Nat) (h : i < n) : (List.replicate n true ++ List.replicate m false)[i]? = some true := by
  rw [List.getElem?_append_left (by simpa using h), List.getElem?_replicate, if_pos h]
theorem Hon.links {k id : List UInt8} {t : TokL} {m : List (List UInt8 × TokL)} {o : List (List UInt8)} (h : Hon k id t m o) : ∀ (T : List UInt8) (rest : List TokL) (s : PrL), s.used = List.replicate (m.length + rest.length) false →
    ∃ W S, linksL T (boundM T m ++ rest) s (rootL k id) t.links = (⟨List.replicate m.length true ++ List.replicate rest.length false, s.list ++ listM T m, s.texts ++ o, W, S⟩, true) := by
  induction h with
  | nil => intro T rest s hs
           refine ⟨s.work, s.sum, ?_⟩
           simp [linksL, listM] at hs ⊢
           obtain ⟨a, b, c, d, e⟩ := s
           simp at hs ⊢
           exact hs
  | own x h ih => 
    intro T rest s hs
    obtain ⟨W, S, hE⟩ := ih T rest s hs
    refine ⟨W, S, ?_⟩
    show linksL T _ s _ (_ ++ [(x, [])]) = _
    rw [linksL_append, hE, if_pos rfl]
    simp [linksL]
  | @third t m o s2 ck d h ho hs2 ht hc ih =>
    intro T rest s hs
    have hm : boundM T (m ++ [(ck, d)]) ++ rest = boundM T m ++ (⟨d.id, d.links, bindL T d.tag⟩ :: rest) := by simp [boundM]
    obtain ⟨W, S, hE⟩ := ih T (⟨d.id, d.links, bindL T d.tag⟩ :: rest) s (by rw [hs]; simp; omega)
    have htag : foldT (rootL k id) t.links = t.tag := h.tag.2.symm
    show ∃ W S, linksL T _ s _ (_ ++ [(d.id, s2)]) = _
    rw [hm, linksL_append, hE, if_pos rfl, htag]
    have hlen : (boundM T m).length = m.length := by simp [boundM]
    have hf : findL d.id (boundM T m ++ (⟨d.id, d.links, bindL T d.tag⟩ :: rest)) (List.replicate m.length true ++ List.replicate (rest.length + 1) false) = some m.length := by
      refine findL_here (d := ⟨d.id, d.links, bindL T d.tag⟩) (by simp [boundM]) (fun j hj e he hu => ?_) ?_ ?_ rfl
      · rw [rep_get _ _ _ hj] at hu; cases hu
      · rw [List.getElem?_append_right (by omega), hlen, Nat.sub_self]; rfl
      · rw [List.getElem?_append_right (by simp)]; simp [List.replicate_succ]
    have hg : (boundM T m ++ (⟨d.id, d.links, bindL T d.tag⟩ :: rest))[m.length]? = some ⟨d.id, d.links, bindL T d.tag⟩ := by
      rw [List.getElem?_append_right (by omega), hlen, Nat.sub_self]; rfl
    have hset : (List.replicate m.length true ++ List.replicate (rest.length + 1) false).set m.length true = List.replicate (m.length + 1) true ++ List.replicate rest.length false := by
      rw [List.set_append_right _ _ (by simp), List.length_replicate, Nat.sub_self, List.replicate_succ, List.set_cons_zero, List.replicate_succ' (n := m.length), List.append_assoc]
      rfl
    dsimp only [List.length_cons]
    generalize hs1 : (⟨List.replicate m.length true ++ List.replicate (rest.length + 1) false, s.list ++ listM T m, s.texts ++ o, W, S⟩ : PrL) = s1
    have hu1 : s1.used = List.replicate m.length true ++ List.replicate (rest.length + 1) false := by rw [← hs1]
    have h3 := thirdL_use (T := T) (more := boundM T m ++ (⟨d.id, d.links, bindL T d.tag⟩ :: rest)) (s := s1) (tag := t.tag) (l := (d.id, s2)) (i := m.length) (by rw [ho]) (by rw [hu1]; exact hf) hg
    rw [ho] at h3
    have h4 : useL T (askL s1 t.tag s2) ck m.length ⟨d.id, d.links, bindL T d.tag⟩ = (⟨List.replicate (m.length + 1) true ++ List.replicate rest.length false, s1.list ++ [(ck, ⟨d.id, d.links, bindL T d.tag⟩)], s1.texts, s1.work + 1 + (d.links.length + 1) + 1, s1.sum ++ pairT t.tag sealParts ++ boxTexts (sealL t.tag) s2 ++ textsL ck d.id d.links ++ pairT T (bindParts (lastL ck d.id d.links))⟩, true) := by
      unfold useL askL
      dsimp only
      rw [if_pos (by rw [ht]), hu1, hset, decide_eq_true (by rw [ht])]
    rw [linksL_cons, if_neg (by simpa using hs2), h3, h4]
    dsimp only
    rw [if_pos rfl, ← hs1]
    refine ⟨W + 1 + (d.links.length + 1) + 1, S ++ pairT t.tag sealParts ++ boxTexts (sealL t.tag) s2 ++ textsL ck d.id d.links ++ pairT T (bindParts (lastL ck d.id d.links)), ?_⟩
    simp only [linksL, listM, List.map_append, List.map_cons, List.map_nil, List.append_assoc, List.length_append, List.length_singleton]
/-- Links of the token's own alone. -/
theorem links_own {T : List UInt8} {more : List TokL} : ∀ (l : List LinkL) (s : PrL) (tag : List UInt8), (∀ x ∈ l, x.2 = []) → linksL T more s tag l = (⟨s.used, s.list, s.texts ++ l.map (·.1), s.work, s.sum⟩, true)
  | [], s, tag, _ => by simp [linksL]
  | x :: l, s, tag, h => by
    unfold linksL
    rw [if_pos (h x (by simp)), links_own l _ _ (fun y hy => h y (by simp [hy]))]
    simp
theorem go_own {T : List UInt8} {more : List TokL} : ∀ (f : Nat) (s : PrL) (i : Nat), s.list.length < f + i → (∀ x ∈ s.list.drop i, ∀ y ∈ x.2.links, y.2 = []) → goL T more f s i = (⟨s.used, s.list, s.texts ++ (s.list.drop i).flatMap (fun x => x.2.links.map (·.1)), s.work, s.sum⟩, true)
  | 0, s, i, hf, _ => by
    unfold goL
    rw [List.drop_eq_nil_of_le (by omega)]; simp
  | f + 1, s, i, hf, h => by
    unfold goL
    cases hl : s.list[i]? with
    | none =>
      rw [List.drop_eq_nil_of_le (by simpa using hl)]; simp
    | some kt =>
      obtain ⟨k, t⟩ := kt
      obtain ⟨hlt, he⟩ := List.getElem?_eq_some_iff.1 hl
      have hd : s.list.drop i = (k, t) :: s.list.drop (i + 1) := by rw [List.drop_eq_getElem_cons hlt, he]
      have ho := links_own (T := T) (more := more) t.links s (rootL k t.id) (h (k, t) (by rw [hd]; simp))
      dsimp only
      rw [ho]
      dsimp only
      rw [if_pos rfl, go_own f _ (i + 1) (by dsimp only; omega) (fun x hx => h x (by rw [hd]; exact List.mem_cons_of_mem _ hx)), hd]
      simp
/-- The honest holder's bundle is proved. -/
theorem Hon.prove {k id : List UInt8} {t : TokL} {m : List (List UInt8 × TokL)} {o : List (List UInt8)} (h : Hon k id t m o) (h1 : m.length ≤ 8) (h2 : t.links.length ≤ 64) (h3 : ∀ x ∈ m, x.2.links.length ≤ 64) :
    (proveL k t (boundM t.tag m)).2 = 0 ∧ (proveL k t (boundM t.tag m)).1.texts = o ++ m.flatMap (fun x => x.2.links.map (·.1)) := by
  have hlen : (boundM t.tag m).length = m.length := by simp [boundM]
  have hg : greatB t (boundM t.tag m) = false := by
    simp [greatB, boundM]
    exact ⟨⟨by omega, by omega⟩, fun a b hx => h3 _ hx⟩
  obtain ⟨hi, ht⟩ := h.tag
  obtain ⟨W, S, hE⟩ := h.links t.tag [] (begL k t (boundM t.tag m)) (by simp [begL, hlen])
  rw [List.append_nil] at hE
  have hgo : ∃ W S, goL t.tag (boundM t.tag m) ((boundM t.tag m).length + 2) (begL k t (boundM t.tag m)) 0 = (⟨List.replicate m.length true, (k, t) :: listM t.tag m, o ++ m.flatMap (fun x => x.2.links.map (·.1)), W, S⟩, true) := by
    rw [show (boundM t.tag m).length + 2 = ((boundM t.tag m).length + 1) + 1 from rfl]
    unfold goL
    rw [show (begL k t (boundM t.tag m)).list[0]? = some (k, t) from rfl]
    dsimp only
    rw [hi, hE, if_pos rfl]
    dsimp only
    rw [go_own _ _ 1 (by simp [begL, listM, hlen]) ?_]
    · refine ⟨W, S, ?_⟩
      simp [begL, listM, List.flatMap_map]
    · intro x hx y hy
      have hx : x ∈ listM t.tag m := by simpa [begL] using hx
      obtain ⟨z, hz, rfl⟩ := List.mem_map.1 hx
      exact h.clean z hz y hy
  obtain ⟨W, S, hgo⟩ := hgo
  unfold proveL
  rw [hg, if_neg (by simp), hi, ← ht, if_pos rfl, hgo]
  dsimp only
  rw [if_pos ⟨rfl, by simp⟩]
  exact ⟨rfl, rfl⟩
theorem prove_err (k : List UInt8) (t : TokL) (more : List TokL) : (proveL k t more).2 = 0 ∨ ((proveL k t more).2 = 3 ∧ greatB t more = true) ∨ ((proveL k t more).2 = 8 ∧ lastL k t.id t.links ≠ t.tag) ∨ (proveL k t more).2 = 11 := by
  unfold proveL
  split
  · rename_i h; exact .inr (.inl ⟨rfl, h⟩)
  · split
    · split
      · exact .inl rfl
      · exact .inr (.inr (.inr rfl))
    · rename_i h; exact .inr (.inr (.inl ⟨rfl, h⟩))
/-- Other discharges than these, as many fewer or more: not proved. -/
theorem Hon.not {k id : List UInt8} {t : TokL} {m : List (List UInt8 × TokL)} {o : List (List UInt8)} (h : Hon k id t m o) (T : List UInt8) (m2 : List (List UInt8 × TokL)) (hs : ∀ x ∈ m2, x ∈ m) (hn : m2.length ≠ m.length) : (proveL k t (boundM T m2)).2 = 11 ∨ ((proveL k t (boundM T m2)).2 = 3 ∧ greatB t (boundM T m2) = true) := by
  obtain ⟨hi, ht⟩ := h.tag
  rcases prove_err k t (boundM T m2) with h1 | h1 | h1 | h1
  · exfalso
    have := prove_count h1 (fun d hd => by
      obtain ⟨z, hz, rfl⟩ := List.mem_map.1 hd
      exact sealed_nil (h.clean z (hs z hz)))
    rw [h.count.1] at this
    simp [boundM] at this
    exact hn this
  · exact .inr h1
  · exact absurd (by rw [hi, ht]) h1.2
  · exact .inl h1
/-- What is proved has the last tag of its links. -/
theorem prove_tag {k : List UInt8} {t : TokL} {more : List TokL} (h1 : greatB t more = false) (h2 : (proveL k t more).2 ≠ 8) : lastL k t.id t.links = t.tag := by
  unfold proveL at h2
  rw [h1, if_neg (by simp)] at h2
  split at h2
  · assumption
  · exact absurd rfl h2
/-- The proof of a token of one third party's link and one of its own, with one discharge. -/
theorem prove_two {k id s sl x ck : List UInt8} {d : TokL} {t : TokL} (ht : t = ⟨id, [(s, sl), (x, [])], lastL k id [(s, sl), (x, [])]⟩) (hs : sl ≠ []) (ho : openR (sealL (rootL k id)) sl = (ck, 0)) (hd : d.id = s) (hdl : d.links = []) :
    (bindL t.tag (rootL ck s) = d.tag → (proveL k t [d]).2 = 0) ∧ (bindL t.tag (rootL ck s) ≠ d.tag → (proveL k t [d]).2 = 11) ∧
    (∀ p ∈ textsL k id [(s, sl), (x, [])] ++ pairT t.tag (bindParts (rootL ck s)), p ∈ (proveL k t [d]).1.sum) := by
  subst ht
  have hg : greatB ⟨id, [(s, sl), (x, [])], lastL k id [(s, sl), (x, [])]⟩ [d] = false := by simp [greatB, hdl]
  have hf : findL s [d] [false] = some 0 := by rw [findL, if_pos ⟨rfl, hd⟩]
  generalize hT : lastL k id [(s, sl), (x, [])] = T at *
  have hl : lastL ck d.id d.links = rootL ck s := by rw [hd, hdl]; rfl
  have hlk : linksL T [d] (begL k ⟨id, [(s, sl), (x, [])], T⟩ [d]) (rootL k id) [(s, sl), (x, [])] =
      if bindL T (rootL ck s) = d.tag then (⟨[true], [(k, ⟨id, [(s, sl), (x, [])], T⟩), (ck, d)], [x], 3 + 1 + (d.links.length + 1) + 1, textsL k id [(s, sl), (x, [])] ++ pairT (rootL k id) sealParts ++ boxTexts (sealL (rootL k id)) sl ++ textsL ck d.id d.links ++ pairT T (bindParts (rootL ck s))⟩, true)
      else (⟨[true], [(k, ⟨id, [(s, sl), (x, [])], T⟩)], [], 3 + 1 + (d.links.length + 1) + 1, textsL k id [(s, sl), (x, [])] ++ pairT (rootL k id) sealParts ++ boxTexts (sealL (rootL k id)) sl ++ textsL ck d.id d.links ++ pairT T (bindParts (rootL ck s))⟩, false) := by
    rw [linksL_cons, if_neg (by simpa using hs), thirdL_use (d := d) (by show (openR (sealL (rootL k id)) sl).2 = 0; rw [ho]) (show findL s [d] _ = some 0 from hf) rfl]
    dsimp only
    rw [ho]
    unfold useL askL
    dsimp only
    rw [hl]
    by_cases hc : bindL T (rootL ck s) = d.tag
    · rw [if_pos hc, if_pos hc, if_pos (by simpa using hc)]
      rw [linksL_cons, if_pos rfl]
      simp [begL, linksL]
    · rw [if_neg hc, if_neg hc, if_neg (by simpa using hc)]
      simp [begL]
  have hp : proveL k ⟨id, [(s, sl), (x, [])], T⟩ [d] = if bindL T (rootL ck s) = d.tag then (⟨[true], [(k, ⟨id, [(s, sl), (x, [])], T⟩), (ck, d)], [x], 3 + 1 + (d.links.length + 1) + 1, textsL k id [(s, sl), (x, [])] ++ pairT (rootL k id) sealParts ++ boxTexts (sealL (rootL k id)) sl ++ textsL ck d.id d.links ++ pairT T (bindParts (rootL ck s))⟩, 0)
      else (⟨[true], [(k, ⟨id, [(s, sl), (x, [])], T⟩)], [], 3 + 1 + (d.links.length + 1) + 1, textsL k id [(s, sl), (x, [])] ++ pairT (rootL k id) sealParts ++ boxTexts (sealL (rootL k id)) sl ++ textsL ck d.id d.links ++ pairT T (bindParts (rootL ck s))⟩, 11) := by
    unfold proveL
    rw [hg, if_neg (by simp)]
    dsimp only
    rw [hT, if_pos rfl]
    have hgo : goL T [d] ([d].length + 2) (begL k ⟨id, [(s, sl), (x, [])], T⟩ [d]) 0 = if (linksL T [d] (begL k ⟨id, [(s, sl), (x, [])], T⟩ [d]) (rootL k id) [(s, sl), (x, [])]).2 = true then goL T [d] 2 (linksL T [d] (begL k ⟨id, [(s, sl), (x, [])], T⟩ [d]) (rootL k id) [(s, sl), (x, [])]).1 1 else ((linksL T [d] (begL k ⟨id, [(s, sl), (x, [])], T⟩ [d]) (rootL k id) [(s, sl), (x, [])]).1, false) := rfl
    rw [hgo, hlk]
    by_cases hc : bindL T (rootL ck s) = d.tag
    · rw [if_pos hc, if_pos hc]
      dsimp only
      rw [if_pos rfl, go_own 2 _ 1 (by simp) (by simp [hdl])]
      simp [hdl]
    · rw [if_neg hc, if_neg hc]
      simp
  rw [hp]
  refine ⟨fun h => by rw [if_pos h], fun h => by rw [if_neg h], fun p hpm => ?_⟩
  split <;>
  · dsimp only
    rcases List.mem_append.1 hpm with h | h
    · simp [h]
    · simp [h]
end Go.Proofs.YtejhiekikblbiaaDoor
