/-
  Package verify in plain words over lists: how a bundle is proved, what it tells, how many tags it reckons. No program in sight.
-/
import Derived.Test.YtejhiekikblbiaaDoorMgH
namespace Go.Proofs.YtejhiekikblbiaaDoor
open Go.RowKit

/-- A proof under way: which discharges are used, the tokens that are proved (each behind the key that made it), the texts that are told, the work, the texts that were summed. -/
structure PrL where
  used : List Bool
  list : List (List UInt8 × TokL)
  texts : List (List UInt8)
  work : Nat
  sum : List (List UInt8)
/-- The first discharge for a ticket that is not used. -/
def findL (ticket : List UInt8) : List TokL → List Bool → Option Nat
  | d :: r, u :: us => if u = false ∧ d.id = ticket then some 0 else (findL ticket r us).map (· + 1)
  | _, _ => none
def boxTexts (k s : List UInt8) : List (List UInt8) := if s.length < 48 ∨ 4144 < s.length then [] else boxT k s
/-- What is done where a discharge was found: the key that the seal holds, its place. -/
def useL (T : List UInt8) (s : PrL) (ck : List UInt8) (i : Nat) (d : TokL) : PrL × Bool :=
  (⟨s.used.set i true, if bindL T (lastL ck d.id d.links) = d.tag then s.list ++ [(ck, d)] else s.list, s.texts, s.work + (d.links.length + 1) + 1, s.sum ++ textsL ck d.id d.links ++ pairT T (bindParts (lastL ck d.id d.links))⟩, decide (bindL T (lastL ck d.id d.links) = d.tag))
/-- A third party's link is proved: the token's tag, the discharges. -/
def thirdL (T : List UInt8) (more : List TokL) (s : PrL) (tag : List UInt8) (l : LinkL) : PrL × Bool :=
  if (openR (sealL tag) l.2).2 = 0 then
    (match findL l.1 more s.used with
    | none => (⟨s.used, s.list, s.texts, s.work + 1, s.sum ++ pairT tag sealParts ++ boxTexts (sealL tag) l.2⟩, false)
    | some i => useL T ⟨s.used, s.list, s.texts, s.work + 1, s.sum ++ pairT tag sealParts ++ boxTexts (sealL tag) l.2⟩ (openR (sealL tag) l.2).1 i (more.getD i tok0))
  else (⟨s.used, s.list, s.texts, s.work + 1, s.sum ++ pairT tag sealParts ++ boxTexts (sealL tag) l.2⟩, false)
/-- The links of a token, from a tag on. -/
def linksL (T : List UInt8) (more : List TokL) : PrL → List UInt8 → List LinkL → PrL × Bool
  | s, _, [] => (s, true)
  | s, tag, l :: r => if l.2 = [] then linksL T more ⟨s.used, s.list, s.texts ++ [l.1], s.work, s.sum⟩ (nextL tag l) r else
    if (thirdL T more s tag l).2 = true then linksL T more (thirdL T more s tag l).1 (nextL tag l) r else ((thirdL T more s tag l).1, false)
/-- The tokens from the i-th on. -/
def goL (T : List UInt8) (more : List TokL) : Nat → PrL → Nat → PrL × Bool
  | 0, s, _ => (s, true)
  | f + 1, s, i => match s.list[i]? with
    | none => (s, true)
    | some (k, t) => if (linksL T more s (rootL k t.id) t.links).2 = true then goL T more f (linksL T more s (rootL k t.id) t.links).1 (i + 1) else ((linksL T more s (rootL k t.id) t.links).1, false)
def greatB (t : TokL) (more : List TokL) : Bool := decide (8 < more.length) || decide (64 < t.links.length) || more.any fun d => decide (64 < d.links.length)
def begL (k : List UInt8) (t : TokL) (more : List TokL) : PrL := ⟨List.replicate more.length false, [(k, t)], [], t.links.length + 1, textsL k t.id t.links⟩
/-- The whole proof. -/
def proveL (k : List UInt8) (t : TokL) (more : List TokL) : PrL × Nat :=
  if greatB t more = true then (⟨List.replicate more.length false, [], [], 0, []⟩, 3) else
  if lastL k t.id t.links = t.tag then
    (if (goL t.tag more (more.length + 2) (begL k t more) 0).2 = true ∧ (goL t.tag more (more.length + 2) (begL k t more) 0).1.used.all id = true then ((goL t.tag more (more.length + 2) (begL k t more) 0).1, 0)
     else ((goL t.tag more (more.length + 2) (begL k t more) 0).1, 11))
  else (⟨List.replicate more.length false, [], [], t.links.length + 1, textsL k t.id t.links⟩, 8)
def sealed (l : List LinkL) : Nat := l.countP fun x => decide (x.2 ≠ [])
def mostT (t : TokL) : Nat := t.links.length + 1 + sealed t.links
def mostL (t : TokL) (more : List TokL) : Nat := mostT t + (more.map fun d => mostT d + 1).sum

/-- The state ahead of the ticket's being looked for. -/
def askL (s : PrL) (tag sl : List UInt8) : PrL := ⟨s.used, s.list, s.texts, s.work + 1, s.sum ++ pairT tag sealParts ++ boxTexts (sealL tag) sl⟩
theorem thirdL_shut {T : List UInt8} {more : List TokL} {s : PrL} {tag : List UInt8} {l : LinkL} (h : (openR (sealL tag) l.2).2 ≠ 0) : thirdL T more s tag l = (askL s tag l.2, false) := by unfold thirdL; rw [if_neg h]; rfl
theorem thirdL_none {T : List UInt8} {more : List TokL} {s : PrL} {tag : List UInt8} {l : LinkL} (h : (openR (sealL tag) l.2).2 = 0) (hf : findL l.1 more s.used = none) : thirdL T more s tag l = (askL s tag l.2, false) := by
  unfold thirdL; rw [if_pos h]; simp only [hf]; rfl
theorem thirdL_use {T : List UInt8} {more : List TokL} {s : PrL} {tag : List UInt8} {l : LinkL} {i : Nat} {d : TokL} (h : (openR (sealL tag) l.2).2 = 0) (hf : findL l.1 more s.used = some i) (hd : more[i]? = some d) :
    thirdL T more s tag l = useL T (askL s tag l.2) (openR (sealL tag) l.2).1 i d := by
  unfold thirdL; rw [if_pos h]; simp only [hf, List.getD_eq_getElem?_getD, hd, Option.getD_some]; rfl

/-! ### what is found -/
theorem findL_some : ∀ {more : List TokL} {used : List Bool} {tk : List UInt8} {i : Nat}, findL tk more used = some i → i < more.length ∧ used[i]? = some false ∧ ∃ d, more[i]? = some d ∧ d.id = tk
  | [], _, tk, i, h => by cases h
  | d :: r, [], tk, i, h => by cases h
  | d :: r, u :: us, tk, i, h => by
    unfold findL at h
    split at h
    · rename_i h1
      obtain rfl : 0 = i := Option.some.inj h
      exact ⟨by simp, by simp [h1.1], d, rfl, h1.2⟩
    · cases h2 : findL tk r us with
      | none => rw [h2] at h; cases h
      | some j =>
        rw [h2] at h
        obtain rfl : j + 1 = i := Option.some.inj h
        obtain ⟨a, b, e, c, f⟩ := findL_some h2
        exact ⟨by simp; omega, by simpa using b, e, by simpa using c, f⟩
/-- Found by going through: nothing at the first i places. -/
theorem findL_at (tk : List UInt8) : ∀ (more : List TokL) (used : List Bool) (i : Nat), more.length = used.length → (∀ j, j < i → ∀ d, more[j]? = some d → used[j]? = some false → d.id ≠ tk) →
    findL tk more used = (findL tk (more.drop i) (used.drop i)).map (· + i)
  | _, _, 0, _, _ => by simp
  | [], [], i + 1, _, _ => by simp [findL]
  | d :: r, u :: us, i + 1, hl, h => by
    have h0 := h 0 (by omega) d rfl
    have hn : ¬ (u = false ∧ d.id = tk) := fun e => h0 (by simp [e.1]) e.2
    rw [findL, if_neg hn, findL_at tk r us i (by simpa using hl) (fun j hj e he hu => h (j + 1) (by omega) e (by simpa using he) (by simpa using hu))]
    simp only [List.drop_succ_cons, Option.map_map]
    congr 1
  | d :: r, [], i + 1, hl, h => by simp at hl
  | [], u :: us, i + 1, hl, h => by simp at hl
theorem findL_here {tk : List UInt8} {more : List TokL} {used : List Bool} {i : Nat} {d : TokL} (hl : more.length = used.length) (h : ∀ j, j < i → ∀ d, more[j]? = some d → used[j]? = some false → d.id ≠ tk) (h1 : more[i]? = some d) (h2 : used[i]? = some false) (h3 : d.id = tk) : findL tk more used = some i := by
  rw [findL_at tk more used i hl h]
  have a := (List.getElem?_eq_some_iff.1 h1)
  have b := (List.getElem?_eq_some_iff.1 h2)
  rw [List.drop_eq_getElem_cons a.1, List.drop_eq_getElem_cons b.1, findL, if_pos ⟨b.2, by rw [a.2]; exact h3⟩]
  simp
theorem findL_not {tk : List UInt8} {more : List TokL} {used : List Bool} (hl : more.length = used.length) (h : ∀ j, j < more.length → ∀ d, more[j]? = some d → used[j]? = some false → d.id ≠ tk) : findL tk more used = none := by
  rw [findL_at tk more used more.length hl h]; simp [findL]

/-! ### the work's bound -/
theorem sealed_cons (x : LinkL) (l : List LinkL) : sealed (x :: l) = sealed l + if x.2 = [] then 0 else 1 := by
  unfold sealed; rw [List.countP_cons]; by_cases h : x.2 = [] <;> simp [h]
/-- What is still to be had of the discharges that are not used. -/
def restL : List TokL → List Bool → Nat
  | d :: r, u :: us => (if u then 0 else mostT d + 1) + restL r us
  | _, _ => 0
theorem restL_set : ∀ (more : List TokL) (used : List Bool) (i : Nat) (d : TokL), used[i]? = some false → more[i]? = some d → restL more (used.set i true) + (mostT d + 1) = restL more used
  | [], _, i, d, _, h => by simp at h
  | e :: r, [], i, d, h, _ => by simp at h
  | e :: r, u :: us, 0, d, h1, h2 => by
    obtain rfl : u = false := by simpa using h1
    obtain rfl : e = d := by simpa using h2
    simp [restL]; omega
  | e :: r, u :: us, i + 1, d, h1, h2 => by
    have := restL_set r us i d (by simpa using h1) (by simpa using h2)
    simp only [List.set_cons_succ, restL]
    omega
theorem restL_all (more : List TokL) : restL more (List.replicate more.length false) = (more.map fun d => mostT d + 1).sum := by
  induction more with
  | nil => rfl
  | cons d r ih => simp only [List.length_cons, List.replicate_succ, restL, List.map_cons, List.sum_cons, ih]; simp
def sealedList (l : List (List UInt8 × TokL)) : Nat := (l.map fun x => sealed x.2.links).sum
theorem sealedList_snoc (l : List (List UInt8 × TokL)) (x) : sealedList (l ++ [x]) = sealedList l + sealed x.2.links := by simp [sealedList]
/-- A bound that no step lifts: the work, what is to be had of the unused, what is to be had of the list. -/
def potL (more : List TokL) (s : PrL) : Nat := s.work + restL more s.used + sealedList s.list
theorem third_pot {T : List UInt8} {more : List TokL} {s : PrL} {tag : List UInt8} {l : LinkL} : potL more (thirdL T more s tag l).1 ≤ potL more s + 1 := by
  unfold thirdL
  split
  · split
    · simp [potL]; omega
    · rename_i i hi
      obtain ⟨h1, h2, d, h3, h4⟩ := findL_some hi
      have hr := restL_set more s.used i d h2 h3
      rw [List.getD_eq_getElem?_getD, h3, Option.getD_some]
      unfold useL potL
      dsimp only
      have hm : mostT d = d.links.length + 1 + sealed d.links := rfl
      split
      · rw [sealedList_snoc]; dsimp only; omega
      · omega
  · simp [potL]; omega
/-- The list only grows, by discharges. -/
theorem third_list {T : List UInt8} {more : List TokL} {s : PrL} {tag : List UInt8} {l : LinkL} : ∃ r, (thirdL T more s tag l).1.list = s.list ++ r ∧ ∀ x ∈ r, x.2 ∈ more := by
  unfold thirdL
  split
  · split
    · exact ⟨[], by simp, by simp⟩
    · rename_i i hi
      obtain ⟨h1, _, d, h3, _⟩ := findL_some hi
      unfold useL
      dsimp only
      split
      · refine ⟨_, rfl, fun x hx => ?_⟩
        rw [List.mem_singleton.1 hx, List.getD_eq_getElem?_getD, h3, Option.getD_some]
        exact List.mem_of_getElem? h3
      · exact ⟨[], by simp, by simp⟩
  · exact ⟨[], by simp, by simp⟩
theorem sealedList_take (l : List (List UInt8 × TokL)) (i : Nat) : sealedList (l.take i) ≤ sealedList l := by
  have h : sealedList (l.take i ++ l.drop i) = sealedList (l.take i) + sealedList (l.drop i) := by simp only [sealedList, List.map_append, List.sum_append]
  rw [List.take_append_drop] at h
  omega
theorem links_pot {T : List UInt8} {more : List TokL} : ∀ (l : List LinkL) (s : PrL) (tag : List UInt8), potL more (linksL T more s tag l).1 ≤ potL more s + sealed l
  | [], s, tag => by simp [linksL]
  | x :: l, s, tag => by
    unfold linksL
    rw [sealed_cons]
    split
    · rename_i h
      exact Nat.le_trans (links_pot l _ _) (by simp [potL])
    · rename_i h
      have h3 := third_pot (T := T) (more := more) (s := s) (tag := tag) (l := x)
      split
      · exact Nat.le_trans (links_pot l _ _) (by omega)
      · exact Nat.le_trans h3 (by omega)
theorem links_list {T : List UInt8} {more : List TokL} : ∀ (l : List LinkL) (s : PrL) (tag : List UInt8), ∃ r, (linksL T more s tag l).1.list = s.list ++ r ∧ ∀ x ∈ r, x.2 ∈ more
  | [], s, tag => ⟨[], by simp [linksL], by simp⟩
  | x :: l, s, tag => by
    unfold linksL
    split
    · exact links_list l _ _
    · obtain ⟨r, hr, hm⟩ := third_list (T := T) (more := more) (s := s) (tag := tag) (l := x)
      split
      · obtain ⟨r2, h2, hm2⟩ := links_list l (thirdL T more s tag x).1 (nextL tag x)
        exact ⟨r ++ r2, by rw [h2, hr, List.append_assoc], fun y hy => by
          rcases List.mem_append.1 hy with h | h
          · exact hm y h
          · exact hm2 y h⟩
      · exact ⟨r, hr, hm⟩
/-- The part of the list that is still to be gone through counts. -/
theorem go_pot {T : List UInt8} {more : List TokL} : ∀ (f : Nat) (s : PrL) (i : Nat), (goL T more f s i).1.work + sealedList (s.list.take i) ≤ potL more s
  | 0, s, i => by
    unfold goL potL
    have := sealedList_take s.list i
    dsimp only; omega
  | f + 1, s, i => by
    unfold goL
    split
    · unfold potL
      have := sealedList_take s.list i
      dsimp only; omega
    · rename_i k t hi
      have hlt := (List.getElem?_eq_some_iff.1 hi).1
      have h1 := links_pot (T := T) (more := more) t.links s (rootL k t.id)
      obtain ⟨r, hr, _⟩ := links_list (T := T) (more := more) t.links s (rootL k t.id)
      have hs : sealedList (s.list.take (i + 1)) = sealedList (s.list.take i) + sealed t.links := by
        rw [List.take_add_one, hi]; simp [sealedList]
      have ht : sealedList ((linksL T more s (rootL k t.id) t.links).1.list.take (i + 1)) = sealedList (s.list.take i) + sealed t.links := by rw [hr, List.take_append_of_le_length (by omega), hs]
      split
      · have h2 := go_pot (T := T) (more := more) f (linksL T more s (rootL k t.id) t.links).1 (i + 1)
        omega
      · have h3 : sealedList ((linksL T more s (rootL k t.id) t.links).1.list.take (i + 1)) ≤ sealedList (linksL T more s (rootL k t.id) t.links).1.list := sealedList_take _ _
        unfold potL at h1
        dsimp only
        unfold potL
        omega
theorem work_most (k : List UInt8) (t : TokL) (more : List TokL) : (proveL k t more).1.work ≤ mostL t more := by
  unfold proveL
  split
  · simp
  · split
    · have h := go_pot (T := t.tag) (more := more) (more.length + 2) (begL k t more) 0
      have hb : potL more (begL k t more) = mostL t more := by
        unfold potL begL mostL
        dsimp only
        rw [restL_all]
        simp [sealedList, mostT]; omega
      split <;> (dsimp only; simp [sealedList] at h; omega)
    · unfold mostL mostT
      dsimp only
      omega

/-! ### how many rounds, how many are used -/
def freeL (s : PrL) : Nat := s.used.count false
theorem count_not (l : List Bool) : l.count true + l.count false = l.length := by
  induction l with
  | nil => rfl
  | cons b l ih => cases b <;> simp <;> omega
theorem count_set_true : ∀ (l : List Bool) (i : Nat), l[i]? = some false → (l.set i true).count true = l.count true + 1
  | [], i, h => by simp at h
  | b :: l, 0, h => by obtain rfl : b = false := by simpa using h
                       simp
  | b :: l, i + 1, h => by
    have := count_set_true l i (by simpa using h)
    rw [List.set_cons_succ, List.count_cons, List.count_cons, this]; omega
/-- What every step keeps: the marks' number; each discharge on the list used one. -/
structure StepOk (more : List TokL) (s s' : PrL) : Prop where
  len : s'.used.length = s.used.length
  rise : s'.list.length + s.used.count true = s.list.length + s'.used.count true
theorem StepOk.rfl' {more : List TokL} (s : PrL) : StepOk more s s := ⟨rfl, rfl⟩
theorem StepOk.trans {more : List TokL} {a b c : PrL} (h : StepOk more a b) (k : StepOk more b c) : StepOk more a c := ⟨k.len.trans h.len, by have := h.rise; have := k.rise; omega⟩
theorem third_ok {T : List UInt8} {more : List TokL} {s : PrL} {tag : List UInt8} {l : LinkL} (h : (thirdL T more s tag l).2 = true) : StepOk more s (thirdL T more s tag l).1 ∧ (thirdL T more s tag l).1.used.count true = s.used.count true + 1 := by
  unfold thirdL at h ⊢
  split at h
  · rename_i h1
    rw [if_pos h1]
    split at h
    · cases h
    · rename_i i hi
      obtain ⟨_, h2, _⟩ := findL_some hi
      have hc := count_set_true s.used i h2
      unfold useL at h ⊢
      have h3 := of_decide_eq_true h
      rw [if_pos h3]
      refine ⟨⟨by simp, ?_⟩, hc⟩
      dsimp only
      rw [hc, List.length_append, List.length_singleton]; omega
  · cases h
theorem third_len {T : List UInt8} {more : List TokL} {s : PrL} {tag : List UInt8} {l : LinkL} : (thirdL T more s tag l).1.used.length = s.used.length := by
  unfold thirdL
  split
  · split
    · rfl
    · unfold useL; simp
  · rfl
theorem links_ok {T : List UInt8} {more : List TokL} : ∀ (l : List LinkL) (s : PrL) (tag : List UInt8), (linksL T more s tag l).2 = true → StepOk more s (linksL T more s tag l).1 ∧ (linksL T more s tag l).1.used.count true = s.used.count true + sealed l
  | [], s, tag, _ => ⟨.rfl' s, rfl⟩
  | x :: l, s, tag, h => by
    unfold linksL at h ⊢
    rw [sealed_cons]
    split at h
    · rename_i h1
      rw [if_pos h1, if_pos h1]
      obtain ⟨a, b⟩ := links_ok l _ _ h
      exact ⟨⟨a.len, a.rise⟩, b⟩
    · rename_i h1
      rw [if_neg h1, if_neg h1]
      split at h
      · rename_i h2
        rw [if_pos h2]
        obtain ⟨a, b⟩ := links_ok l _ _ h
        obtain ⟨c, d⟩ := third_ok h2
        exact ⟨c.trans a, by omega⟩
      · cases h
theorem go_ok {T : List UInt8} {more : List TokL} : ∀ (f : Nat) (s : PrL) (i : Nat), s.used.length = more.length → s.list.length + s.used.count false = more.length + 1 → f + i = more.length + 2 → i ≤ s.list.length → (goL T more f s i).2 = true →
    (goL T more f s i).1.used.length = more.length ∧ (goL T more f s i).1.used.count true + sealedList (s.list.take i) = s.used.count true + sealedList (goL T more f s i).1.list ∧ ∃ r, (goL T more f s i).1.list = s.list ++ r ∧ ∀ x ∈ r, x.2 ∈ more
  | 0, s, i, hu, hc, hf, hi, _ => by omega
  | f + 1, s, i, hu, hc, hf, hi, h => by
    unfold goL at h ⊢
    cases hl : s.list[i]? with
    | none =>
      have : s.list.length ≤ i := by simpa using hl
      dsimp only
      exact ⟨hu, by rw [List.take_of_length_le this], [], by simp, by simp⟩
    | some kt =>
      obtain ⟨k, t⟩ := kt
      rw [hl] at h
      dsimp only at h ⊢
      have hlt := (List.getElem?_eq_some_iff.1 hl).1
      split at h
      · rename_i h1
        rw [if_pos h1]
        obtain ⟨a, b⟩ := links_ok t.links s (rootL k t.id) h1
        obtain ⟨r, hr, hm⟩ := links_list (T := T) (more := more) t.links s (rootL k t.id)
        have hs : sealedList ((linksL T more s (rootL k t.id) t.links).1.list.take (i + 1)) = sealedList (s.list.take i) + sealed t.links := by
          rw [hr, List.take_append_of_le_length (by omega), List.take_add_one, hl]; simp [sealedList]
        generalize hq : (linksL T more s (rootL k t.id) t.links).1 = s' at *
        have c1 := count_not s.used
        have c2 := count_not s'.used
        have a1 := a.len
        have a2 := a.rise
        have hlen : s'.list.length = s.list.length + r.length := by rw [hr, List.length_append]
        obtain ⟨d1, d2, r2, d4, d5⟩ := go_ok f s' (i + 1) (by omega) (by omega) (by omega) (by omega) h
        exact ⟨d1, by omega, r ++ r2, by rw [d4, hr, List.append_assoc], fun y hy => by
          rcases List.mem_append.1 hy with h | h
          · exact hm y h
          · exact d5 y h⟩
      · cases h
theorem sealed_nil {l : List LinkL} (h : ∀ x ∈ l, x.2 = []) : sealed l = 0 := by
  unfold sealed
  rw [List.countP_eq_zero]
  intro x hx
  simp [h x hx]
/-- All is proved: each discharge was used by a third party's link of the token, if the discharges have none. -/
theorem prove_count {k : List UInt8} {t : TokL} {more : List TokL} (h : (proveL k t more).2 = 0) (hd : ∀ d ∈ more, sealed d.links = 0) : more.length = sealed t.links := by
  unfold proveL at h
  split at h
  · cases h
  · split at h
    · split at h
      · rename_i h1
        obtain ⟨h2, h3⟩ := h1
        have hb : (begL k t more).used.count false = more.length := by simp [begL]
        have ht : (begL k t more).used.count true = 0 := by simp [begL, List.count_replicate]
        obtain ⟨a, b, r, d, c⟩ := go_ok (more.length + 2) (begL k t more) 0 (by simp [begL]) (by rw [hb]; simp [begL]; omega) rfl (by simp) h2
        generalize (goL t.tag more (more.length + 2) (begL k t more) 0).1 = s' at *
        have hall : s'.used.count true = s'.used.length := by
          rw [List.count_eq_length]
          intro x hx
          have := List.all_eq_true.1 h3 x hx
          simpa using this.symm
        have hz : ∀ r : List (List UInt8 × TokL), (∀ x ∈ r, x.2 ∈ more) → sealedList r = 0 := by
          intro r
          induction r with
          | nil => intro _; rfl
          | cons x r ih =>
            intro h
            have e1 := hd x.2 (h x (by simp))
            have e2 := ih (fun y hy => h y (by simp [hy]))
            unfold sealedList at e2 ⊢
            rw [List.map_cons, List.sum_cons, e1, e2]
        have hl : sealedList s'.list = sealed t.links := by
          rw [d, show (begL k t more).list = [(k, t)] from rfl, List.singleton_append]
          have := hz r c
          unfold sealedList at this ⊢
          rw [List.map_cons, List.sum_cons, this, Nat.add_zero]
        have h0 : sealedList ((begL k t more).list.take 0) = 0 := rfl
        omega
      · cases h
    · cases h
end Go.Proofs.YtejhiekikblbiaaDoor
