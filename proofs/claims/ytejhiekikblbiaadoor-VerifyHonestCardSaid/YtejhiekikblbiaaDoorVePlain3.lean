/-
  The verification in plain words: the work only rises, the list's length is bounded. No program in sight.
-/
import Derived.Test.YtejhiekikblbiaaDoorVePlain2
namespace Go.Proofs.YtejhiekikblbiaaDoor
open Go.RowKit

theorem third_rise {T : List UInt8} {more : List TokL} {s : PrL} {tag : List UInt8} {l : LinkL} : s.work ≤ (thirdL T more s tag l).1.work := by
  unfold thirdL
  split
  · split
    · dsimp only; omega
    · unfold useL; dsimp only; omega
  · dsimp only; omega
theorem links_rise {T : List UInt8} {more : List TokL} : ∀ (l : List LinkL) (s : PrL) (tag : List UInt8), s.work ≤ (linksL T more s tag l).1.work
  | [], s, tag => Nat.le_refl _
  | x :: l, s, tag => by
    rw [linksL_cons]
    split
    · exact links_rise l ⟨s.used, s.list, s.texts ++ [x.1], s.work, s.sum⟩ _
    · split
      · exact Nat.le_trans third_rise (links_rise l _ _)
      · exact third_rise
theorem go_rise {T : List UInt8} {more : List TokL} : ∀ (f : Nat) (s : PrL) (i : Nat), s.work ≤ (goL T more f s i).1.work
  | 0, s, i => Nat.le_refl _
  | f + 1, s, i => by
    unfold goL
    split
    · exact Nat.le_refl _
    · split
      · exact Nat.le_trans (links_rise _ _ _) (go_rise f _ _)
      · exact links_rise _ _ _
theorem links_used {T : List UInt8} {more : List TokL} : ∀ (l : List LinkL) (s : PrL) (tag : List UInt8), (linksL T more s tag l).1.used.length = s.used.length
  | [], s, tag => rfl
  | x :: l, s, tag => by
    rw [linksL_cons]
    split
    · exact links_used l ⟨s.used, s.list, s.texts ++ [x.1], s.work, s.sum⟩ _
    · split
      · exact (links_used l _ _).trans third_len
      · exact third_len
/-- What is still to be gone through of a token's links, and the rounds behind. -/
def restGo (T : List UInt8) (more : List TokL) (f : Nat) (i : Nat) (x : PrL × Bool) : PrL × Bool := if x.2 = true then goL T more f x.1 (i + 1) else (x.1, false)
theorem goL_at {T : List UInt8} {more : List TokL} {f i : Nat} {s : PrL} {k : List UInt8} {t : TokL} (h : s.list[i]? = some (k, t)) : goL T more (f + 1) s i = restGo T more f i (linksL T more s (rootL k t.id) t.links) := by
  rw [goL, h]; rfl
theorem goL_end {T : List UInt8} {more : List TokL} {f i : Nat} {s : PrL} (h : s.list.length ≤ i) : goL T more f s i = (s, true) := by
  cases f with
  | zero => rfl
  | succ f => rw [goL, List.getElem?_eq_none h]
theorem restGo_true {T : List UInt8} {more : List TokL} {f i : Nat} {s : PrL} : restGo T more f i (s, true) = goL T more f s (i + 1) := rfl
theorem restGo_false {T : List UInt8} {more : List TokL} {f i : Nat} {s : PrL} : restGo T more f i (s, false) = (s, false) := rfl
theorem restGo_rise {T : List UInt8} {more : List TokL} {f i : Nat} {x : PrL × Bool} : x.1.work ≤ (restGo T more f i x).1.work := by
  unfold restGo
  split
  · exact go_rise _ _ _
  · exact Nat.le_refl _
/-- One link more. -/
theorem links_step {T : List UInt8} {more : List TokL} {s : PrL} {tag : List UInt8} {l : List LinkL} {k : Nat} (h : k < l.length) :
    linksL T more s (foldT tag (l.take k)) (l.drop k) = if l[k].2 = [] then linksL T more ⟨s.used, s.list, s.texts ++ [l[k].1], s.work, s.sum⟩ (foldT tag (l.take (k + 1))) (l.drop (k + 1)) else
      if (thirdL T more s (foldT tag (l.take k)) l[k]).2 = true then linksL T more (thirdL T more s (foldT tag (l.take k)) l[k]).1 (foldT tag (l.take (k + 1))) (l.drop (k + 1)) else ((thirdL T more s (foldT tag (l.take k)) l[k]).1, false) := by
  rw [List.drop_eq_getElem_cons h, linksL_cons]
  have : nextL (foldT tag (l.take k)) l[k] = foldT tag (l.take (k + 1)) := by
    unfold foldT
    rw [List.take_succ_eq_append_getElem h, List.foldl_append]; rfl
  rw [this]
/-- How many are used is how many were put on the list. -/
def SizeOk (more : List TokL) (s : PrL) : Prop := s.used.length = more.length ∧ s.list.length = 1 + s.used.count true
theorem SizeOk.le {more : List TokL} {s : PrL} (h : SizeOk more s) : s.list.length ≤ more.length + 1 := by
  have := List.count_le_length (a := true) (l := s.used)
  have := h.1; have := h.2; omega
theorem SizeOk.third {T : List UInt8} {more : List TokL} {s : PrL} {tag : List UInt8} {l : LinkL} (h : SizeOk more s) (h2 : (thirdL T more s tag l).2 = true) : SizeOk more (thirdL T more s tag l).1 := by
  obtain ⟨a, b⟩ := third_ok h2
  have := a.len; have := a.rise; have := h.1; have := h.2
  exact ⟨by omega, by omega⟩
theorem third_texts {T : List UInt8} {more : List TokL} {s : PrL} {tag : List UInt8} {l : LinkL} : (thirdL T more s tag l).1.texts = s.texts := by
  unfold thirdL
  split
  · split
    · rfl
    · rfl
  · rfl
/-! ### the whole proof by cases -/
theorem prove_great {k : List UInt8} {t : TokL} {more : List TokL} (h : greatB t more = true) : proveL k t more = (⟨List.replicate more.length false, [], [], 0, []⟩, 3) := by unfold proveL; rw [if_pos h]
theorem prove_tag8 {k : List UInt8} {t : TokL} {more : List TokL} (h : greatB t more = false) (h2 : lastL k t.id t.links ≠ t.tag) : proveL k t more = (⟨List.replicate more.length false, [], [], t.links.length + 1, textsL k t.id t.links⟩, 8) := by
  unfold proveL; rw [h, if_neg (by simp), if_neg h2]
theorem prove_go {k : List UInt8} {t : TokL} {more : List TokL} (h : greatB t more = false) (h2 : lastL k t.id t.links = t.tag) {s : PrL} {b : Bool} (h3 : goL t.tag more (more.length + 2) (begL k t more) 0 = (s, b)) :
    proveL k t more = (s, if (b && s.used.all id) = true then 0 else 11) := by
  unfold proveL
  rw [h, if_neg (by simp), if_pos h2, h3]
  dsimp only
  by_cases hb : b = true ∧ s.used.all id = true
  · rw [if_pos hb, if_pos (by rw [hb.1, hb.2]; rfl)]
  · rw [if_neg hb, if_neg (by rw [Bool.and_eq_true]; exact hb)]
theorem sealed_le (l : List LinkL) : sealed l ≤ l.length := List.countP_le_length
theorem great_small {t : TokL} {more : List TokL} (h : greatB t more = false) : more.length ≤ 8 ∧ t.links.length ≤ 64 ∧ (∀ d ∈ more, d.links.length ≤ 64) ∧ mostL t more ≤ 2000 := by
  unfold greatB at h
  rw [Bool.or_eq_false_iff, Bool.or_eq_false_iff, decide_eq_false_iff_not, decide_eq_false_iff_not, List.any_eq_false] at h
  obtain ⟨⟨h1, h2⟩, h3⟩ := h
  have h4 : ∀ d ∈ more, d.links.length ≤ 64 := fun d hd => by have := h3 d hd; simp at this; omega
  refine ⟨by omega, by omega, h4, ?_⟩
  have h5 : ∀ m : List TokL, (∀ d ∈ m, d.links.length ≤ 64) → (m.map fun d => mostT d + 1).sum ≤ 130 * m.length := by
    intro m
    induction m with
    | nil => simp
    | cons d m ih =>
      intro hm
      have e1 := ih (fun x hx => hm x (by simp [hx]))
      have e2 := hm d (by simp)
      have e3 := sealed_le d.links
      rw [List.map_cons, List.sum_cons, List.length_cons]
      unfold mostT
      unfold mostT at e1
      omega
  have h6 := h5 more h4
  have h7 := sealed_le t.links
  unfold mostL mostT
  unfold mostT at h6
  omega
theorem begL_ok (k : List UInt8) (t : TokL) (more : List TokL) : SizeOk more (begL k t more) := ⟨by simp [begL], by simp [begL, List.count_replicate]⟩
theorem all_take {l : List Bool} {k : Nat} (h : k < l.length) : (l.take (k + 1)).all id = ((l.take k).all id && l[k]) := by
  rw [List.take_succ_eq_append_getElem h, List.all_append]; simp
end Go.Proofs.YtejhiekikblbiaaDoor
