/-
  Package verify in plain words over lists: how a bundle is proved, what it tells, how many tags it reckons. No program in sight. · What an honest holder puts together is proved; a token that is proved has the last tag of its links; a discharge that is bound elsewhere. In plain words over lists. No program in sight. · The verification in plain words: the work only rises, the list's length is bounded. No program in sight.
-/
import Derived.Test.YtejhiekikblbiaaGreatDoorMgH
namespace Go.Proofs.YtejhiekikblbiaaGreatDoor
open Go.RowKit

/-- A proof under way: which discharges are used, the tokens that are proved (each behind the key that made it), the texts that are told, the work, the texts that were summed. -/
structure PrL where
  used : List Bool
  list : List (List UInt8 × TokL)
  texts : List (List UInt8)
  work : Nat
  sum : List (List UInt8)
/-- The first discharge for a ticket that is not used. -/
def findL (ticket : List UInt8) : List TokL → List Bool → Option Nat
  | d :: r, u :: us => if u = false ∧ d.id = ticket then some 0 else (findL ticket r us).map (· + 1)
  | _, _ => none
def boxTexts (k s : List UInt8) : List (List UInt8) := if s.length < 48 ∨ 4144 < s.length then [] else boxT k s
/-- What is done where a discharge was found: the key that the seal holds, its place. -/
def useL (T : List UInt8) (s : PrL) (ck : List UInt8) (i : Nat) (d : TokL) : PrL × Bool :=
  (⟨s.used.set i true, if bindL T (lastL ck d.id d.links) = d.tag then s.list ++ [(ck, d)] else s.list, s.texts, s.work + (d.links.length + 1) + 1, s.sum ++ textsL ck d.id d.links ++ pairT T (bindParts (lastL ck d.id d.links))⟩, decide (bindL T (lastL ck d.id d.links) = d.tag))
/-- A third party's link is proved: the token's tag, the discharges. -/
def thirdL (T : List UInt8) (more : List TokL) (s : PrL) (tag : List UInt8) (l : LinkL) : PrL × Bool :=
  if (openR (sealL tag) l.2).2 = 0 then
    (match findL l.1 more s.used with
    | none => (⟨s.used, s.list, s.texts, s.work + 1, s.sum ++ pairT tag sealParts ++ boxTexts (sealL tag) l.2⟩, false)
    | some i => useL T ⟨s.used, s.list, s.texts, s.work + 1, s.sum ++ pairT tag sealParts ++ boxTexts (sealL tag) l.2⟩ (openR (sealL tag) l.2).1 i (more.getD i tok0))
  else (⟨s.used, s.list, s.texts, s.work + 1, s.sum ++ pairT tag sealParts ++ boxTexts (sealL tag) l.2⟩, false)
/-- The links of a token, from a tag on. -/
def linksL (T : List UInt8) (more : List TokL) : PrL → List UInt8 → List LinkL → PrL × Bool
  | s, _, [] => (s, true)
  | s, tag, l :: r => if l.2 = [] then linksL T more ⟨s.used, s.list, s.texts ++ [l.1], s.work, s.sum⟩ (nextL tag l) r else
    if (thirdL T more s tag l).2 = true then linksL T more (thirdL T more s tag l).1 (nextL tag l) r else ((thirdL T more s tag l).1, false)
/-- The tokens from the i-th on. -/
def goL (T : List UInt8) (more : List TokL) : Nat → PrL → Nat → PrL × Bool
  | 0, s, _ => (s, true)
  | f + 1, s, i => match s.list[i]? with
    | none => (s, true)
    | some (k, t) => if (linksL T more s (rootL k t.id) t.links).2 = true then goL T more f (linksL T more s (rootL k t.id) t.links).1 (i + 1) else ((linksL T more s (rootL k t.id) t.links).1, false)
def greatB (t : TokL) (more : List TokL) : Bool := decide (8 < more.length) || decide (64 < t.links.length) || more.any fun d => decide (64 < d.links.length)
def begL (k : List UInt8) (t : TokL) (more : List TokL) : PrL := ⟨List.replicate more.length false, [(k, t)], [], t.links.length + 1, textsL k t.id t.links⟩
/-- The whole proof. -/
def proveL (k : List UInt8) (t : TokL) (more : List TokL) : PrL × Nat :=
  if greatB t more = true then (⟨List.replicate more.length false, [], [], 0, []⟩, 3) else
  if lastL k t.id t.links = t.tag then
    (if (goL t.tag more (more.length + 2) (begL k t more) 0).2 = true ∧ (goL t.tag more (more.length + 2) (begL k t more) 0).1.used.all id = true then ((goL t.tag more (more.length + 2) (begL k t more) 0).1, 0)
     else ((goL t.tag more (more.length + 2) (begL k t more) 0).1, 11))
  else (⟨List.replicate more.length false, [], [], t.links.length + 1, textsL k t.id t.links⟩, 8)
def sealed (l : List LinkL) : Nat := l.countP fun x => decide (x.2 ≠ [])
def mostT (t : TokL) : Nat := t.links.length + 1 + sealed t.links
def mostL (t : TokL) (more : List TokL) : Nat := mostT t + (more.map fun d => mostT d + 1).sum

/-- The state ahead of the ticket's being looked for. -/
def askL (s : PrL) (tag sl : List UInt8) : PrL := ⟨s.used, s.list, s.texts, s.work + 1, s.sum ++ pairT tag sealParts ++ boxTexts (sealL tag) sl⟩
theorem thirdL_shut {T : List UInt8} {more : List TokL} {s : PrL} {tag : List UInt8} {l : LinkL} (h : (openR (sealL tag) l.2).2 ≠ 0) : thirdL T more s tag l = (askL s tag l.2, false) := by unfold thirdL; rw [if_neg h]; rfl
theorem thirdL_none {T : List UInt8} {more : List TokL} {s : PrL} {tag : List UInt8} {l : LinkL} (h : (openR (sealL tag) l.2).2 = 0) (hf : findL l.1 more s.used = none) : thirdL T more s tag l = (askL s tag l.2, false) := by
  unfold thirdL; rw [if_pos h]; simp only [hf]; rfl
theorem thirdL_use {T : List UInt8} {more : List TokL} {s : PrL} {tag : List UInt8} {l : LinkL} {i : Nat} {d : TokL} (h : (openR (sealL tag) l.2).2 = 0) (hf : findL l.1 more s.used = some i) (hd : more[i]? = some d) :
    thirdL T more s tag l = useL T (askL s tag l.2) (openR (sealL tag) l.2).1 i d := by
  unfold thirdL; rw [if_pos h]; simp only [hf, List.getD_eq_getElem?_getD, hd, Option.getD_some]; rfl

/-! ### what is found -/
theorem findL_some : ∀ {more : List TokL} {used : List Bool} {tk : List UInt8} {i : Nat}, findL tk more used = some i → i < more.length ∧ used[i]? = some false ∧ ∃ d, more[i]? = some d ∧ d.id = tk
  | [], _, tk, i, h => by cases h
  | d :: r, [], tk, i, h => by cases h
  | d :: r, u :: us, tk, i, h => by
    unfold findL at h
    split at h
    · rename_i h1
      obtain rfl : 0 = i := Option.some.inj h
      exact ⟨by simp, by simp [h1.1], d, rfl, h1.2⟩
    · cases h2 : findL tk r us with
      | none => rw [h2] at h; cases h
      | some j =>
        rw [h2] at h
        obtain rfl : j + 1 = i := Option.some.inj h
        obtain ⟨a, b, e, c, f⟩ := findL_some h2
        exact ⟨by simp; omega, by simpa using b, e, by simpa using c, f⟩
/-- Found by going through: nothing at the first i places. -/
theorem findL_at (tk : List UInt8) : ∀ (more : List TokL) (used : List Bool) (i : Nat), more.length = used.length → (∀ j, j < i → ∀ d, more[j]? = some d → used[j]? = some false → d.id ≠ tk) →
    findL tk more used = (findL tk (more.drop i) (used.drop i)).map (· + i)
  | _, _, 0, _, _ => by simp
  | [], [], i + 1, _, _ => by simp [findL]
  | d :: r, u :: us, i + 1, hl, h => by
    have h0 := h 0 (by omega) d rfl
    have hn : ¬ (u = false ∧ d.id = tk) := fun e => h0 (by simp [e.1]) e.2
    rw [findL, if_neg hn, findL_at tk r us i (by simpa using hl) (fun j hj e he hu => h (j + 1) (by omega) e (by simpa using he) (by simpa using hu))]
    simp only [List.drop_succ_cons, Option.map_map]
    congr 1
  | d :: r, [], i + 1, hl, h => by simp at hl
  | [], u :: us, i + 1, hl, h => by simp at hl
theorem findL_here {tk : List UInt8} {more : List TokL} {used : List Bool} {i : Nat} {d : TokL} (hl : more.length = used.length) (h : ∀ j, j < i → ∀ d, more[j]? = some d → used[j]? = some false → d.id ≠ tk) (h1 : more[i]? = some d) (h2 : used[i]? = some false) (h3 : d.id = tk) : findL tk more used = some i := by
  rw [findL_at tk more used i hl h]
  have a := (List.getElem?_eq_some_iff.1 h1)
  have b := (List.getElem?_eq_some_iff.1 h2)
  rw [List.drop_eq_getElem_cons a.1, List.drop_eq_getElem_cons b.1, findL, if_pos ⟨b.2, by rw [a.2]; exact h3⟩]
  simp
theorem findL_not {tk : List UInt8} {more : List TokL} {used : List Bool} (hl : more.length = used.length) (h : ∀ j, j < more.length → ∀ d, more[j]? = some d → used[j]? = some false → d.id ≠ tk) : findL tk more used = none := by
  rw [findL_at tk more used more.length hl h]; simp [findL]

/-! ### the work's bound -/
theorem sealed_cons (x : LinkL) (l : List LinkL) : sealed (x :: l) = sealed l + if x.2 = [] then 0 else 1 := by
  unfold sealed; rw [List.countP_cons]; by_cases h : x.2 = [] <;> simp [h]
/-- What is still to be had of the discharges that are not used. -/
def restL : List TokL → List Bool → Nat
  | d :: r, u :: us => (if u then 0 else mostT d + 1) + restL r us
  | _, _ => 0
theorem restL_set : ∀ (more : List TokL) (used : List Bool) (i : Nat) (d : TokL), used[i]? = some false → more[i]? = some d → restL more (used.set i true) + (mostT d + 1) = restL more used
  | [], _, i, d, _, h => by simp at h
  | e :: r, [], i, d, h, _ => by simp at h
  | e :: r, u :: us, 0, d, h1, h2 => by
    obtain rfl : u = false := by simpa using h1
    obtain rfl : e = d := by simpa using h2
    simp [restL]; omega
  | e :: r, u :: us, i + 1, d, h1, h2 => by
    have := restL_set r us i d (by simpa using h1) (by simpa using h2)
    simp only [List.set_cons_succ, restL]
    omega
theorem restL_all (more : List TokL) : restL more (List.replicate more.length false) = (more.map fun d => mostT d + 1).sum := by
  induction more with
  | nil => rfl
  | cons d r ih => simp only [List.length_cons, List.replicate_succ, restL, List.map_cons, List.sum_cons, ih]; simp
def sealedList (l : List (List UInt8 × TokL)) : Nat := (l.map fun x => sealed x.2.links).sum
theorem sealedList_snoc (l : List (List UInt8 × TokL)) (x) : sealedList (l ++ [x]) = sealedList l + sealed x.2.links := by simp [sealedList]
/-- A bound that no step lifts: the work, what is to be had of the unused, what is to be had of the list. -/
def potL (more : List TokL) (s : PrL) : Nat := s.work + restL more s.used + sealedList s.list
theorem third_pot {T : List UInt8} {more : List TokL} {s : PrL} {tag : List UInt8} {l : LinkL} : potL more (thirdL T more s tag l).1 ≤ potL more s + 1 := by
  unfold thirdL
  split
  · split
    · simp [potL]; omega
    · rename_i i hi
      obtain ⟨h1, h2, d, h3, h4⟩ := findL_some hi
      have hr := restL_set more s.used i d h2 h3
      rw [List.getD_eq_getElem?_getD, h3, Option.getD_some]
      unfold useL potL
      dsimp only
      have hm : mostT d = d.links.length + 1 + sealed d.links := rfl
      split
      · rw [sealedList_snoc]; dsimp only; omega
      · omega
  · simp [potL]; omega
/-- The list only grows, by discharges. -/
theorem third_list {T : List UInt8} {more : List TokL} {s : PrL} {tag : List UInt8} {l : LinkL} : ∃ r, (thirdL T more s tag l).1.list = s.list ++ r ∧ ∀ x ∈ r, x.2 ∈ more := by
  unfold thirdL
  split
  · split
    · exact ⟨[], by simp, by simp⟩
    · rename_i i hi
      obtain ⟨h1, _, d, h3, _⟩ := findL_some hi
      unfold useL
      dsimp only
      split
      · refine ⟨_, rfl, fun x hx => ?_⟩
        rw [List.mem_singleton.1 hx, List.getD_eq_getElem?_getD, h3, Option.getD_some]
        exact List.mem_of_getElem? h3
      · exact ⟨[], by simp, by simp⟩
  · exact ⟨[], by simp, by simp⟩
theorem sealedList_take (l : List (List UInt8 × TokL)) (i : Nat) : sealedList (l.take i) ≤ sealedList l := by
  have h : sealedList (l.take i ++ l.drop i) = sealedList (l.take i) + sealedList (l.drop i) := by simp only [sealedList, List.map_append, List.sum_append]
  rw [List.take_append_drop] at h
  omega
theorem links_pot {T : List UInt8} {more : List TokL} : ∀ (l : List LinkL) (s : PrL) (tag : List UInt8), potL more (linksL T more s tag l).1 ≤ potL more s + sealed l
  | [], s, tag => by simp [linksL]
  | x :: l, s, tag => by
    unfold linksL
    rw [sealed_cons]
    split
    · rename_i h
      exact Nat.le_trans (links_pot l _ _) (by simp [potL])
    · rename_i h
      have h3 := third_pot (T := T) (more := more) (s := s) (tag := tag) (l := x)
      split
      · exact Nat.le_trans (links_pot l _ _) (by omega)
      · exact Nat.le_trans h3 (by omega)
theorem links_list {T : List UInt8} {more : List TokL} : ∀ (l : List LinkL) (s : PrL) (tag : List UInt8), ∃ r, (linksL T more s tag l).1.list = s.list ++ r ∧ ∀ x ∈ r, x.2 ∈ more
  | [], s, tag => ⟨[], by simp [linksL], by simp⟩
  | x :: l, s, tag => by
    unfold linksL
    split
    · exact links_list l _ _
    · obtain ⟨r, hr, hm⟩ := third_list (T := T) (more := more) (s := s) (tag := tag) (l := x)
      split
      · obtain ⟨r2, h2, hm2⟩ := links_list l (thirdL T more s tag x).1 (nextL tag x)
        exact ⟨r ++ r2, by rw [h2, hr, List.append_assoc], fun y hy => by
          rcases List.mem_append.1 hy with h | h
          · exact hm y h
          · exact hm2 y h⟩
      · exact ⟨r, hr, hm⟩
/-- The part of the list that is still to be gone through counts. -/
theorem go_pot {T : List UInt8} {more : List TokL} : ∀ (f : Nat) (s : PrL) (i : Nat), (goL T more f s i).1.work + sealedList (s.list.take i) ≤ potL more s
  | 0, s, i => by
    unfold goL potL
    have := sealedList_take s.list i
    dsimp only; omega
  | f + 1, s, i => by
    unfold goL
    split
    · unfold potL
      have := sealedList_take s.list i
      dsimp only; omega
    · rename_i k t hi
      have hlt := (List.getElem?_eq_some_iff.1 hi).1
      have h1 := links_pot (T := T) (more := more) t.links s (rootL k t.id)
      obtain ⟨r, hr, _⟩ := links_list (T := T) (more := more) t.links s (rootL k t.id)
      have hs : sealedList (s.list.take (i + 1)) = sealedList (s.list.take i) + sealed t.links := by
        rw [List.take_add_one, hi]; simp [sealedList]
      have ht : sealedList ((linksL T more s (rootL k t.id) t.links).1.list.take (i + 1)) = sealedList (s.list.take i) + sealed t.links := by rw [hr, List.take_append_of_le_length (by omega), hs]
      split
      · have h2 := go_pot (T := T) (more := more) f (linksL T more s (rootL k t.id) t.links).1 (i + 1)
        omega
      · have h3 : sealedList ((linksL T more s (rootL k t.id) t.links).1.list.take (i + 1)) ≤ sealedList (linksL T more s (rootL k t.id) t.links).1.list := sealedList_take _ _
        unfold potL at h1
        dsimp only
        unfold potL
        omega
theorem work_most (k : List UInt8) (t : TokL) (more : List TokL) : (proveL k t more).1.work ≤ mostL t more := by
  unfold proveL
  split
  · simp
  · split
    · have h := go_pot (T := t.tag) (more := more) (more.length + 2) (begL k t more) 0
      have hb : potL more (begL k t more) = mostL t more := by
        unfold potL begL mostL
        dsimp only
        rw [restL_all]
        simp [sealedList, mostT]; omega
      split <;> (dsimp only; simp [sealedList] at h; omega)
    · unfold mostL mostT
      dsimp only
      omega

/-! ### how many rounds, how many are used -/
def freeL (s : PrL) : Nat := s.used.count false
theorem count_not (l : List Bool) : l.count true + l.count false = l.length := by
  induction l with
  | nil => rfl
  | cons b l ih => cases b <;> simp <;> omega
theorem count_set_true : ∀ (l : List Bool) (i : Nat), l[i]? = some false → (l.set i true).count true = l.count true + 1
  | [], i, h => by simp at h
  | b :: l, 0, h => by obtain rfl : b = false := by simpa using h
                       simp
  | b :: l, i + 1, h => by
    have := count_set_true l i (by simpa using h)
    rw [List.set_cons_succ, List.count_cons, List.count_cons, this]; omega
/-- What every step keeps: the marks' number; each discharge on the list used one. -/
structure StepOk (more : List TokL) (s s' : PrL) : Prop where
  len : s'.used.length = s.used.length
  rise : s'.list.length + s.used.count true = s.list.length + s'.used.count true
theorem StepOk.rfl' {more : List TokL} (s : PrL) : StepOk more s s := ⟨rfl, rfl⟩
theorem StepOk.trans {more : List TokL} {a b c : PrL} (h : StepOk more a b) (k : StepOk more b c) : StepOk more a c := ⟨k.len.trans h.len, by have := h.rise; have := k.rise; omega⟩
theorem third_ok {T : List UInt8} {more : List TokL} {s : PrL} {tag : List UInt8} {l : LinkL} (h : (thirdL T more s tag l).2 = true) : StepOk more s (thirdL T more s tag l).1 ∧ (thirdL T more s tag l).1.used.count true = s.used.count true + 1 := by
  unfold thirdL at h ⊢
  split at h
  · rename_i h1
    rw [if_pos h1]
    split at h
    · cases h
    · rename_i i hi
      obtain ⟨_, h2, _⟩ := findL_some hi
      have hc := count_set_true s.used i h2
      unfold useL at h ⊢
      have h3 := of_decide_eq_true h
      rw [if_pos h3]
      refine ⟨⟨by simp, ?_⟩, hc⟩
      dsimp only
      rw [hc, List.length_append, List.length_singleton]; omega
  · cases h
theorem third_len {T : List UInt8} {more : List TokL} {s : PrL} {tag : List UInt8} {l : LinkL} : (thirdL T more s tag l).1.used.length = s.used.length := by
  unfold thirdL
  split
  · split
    · rfl
    · unfold useL; simp
  · rfl
theorem links_ok {T : List UInt8} {more : List TokL} : ∀ (l : List LinkL) (s : PrL) (tag : List UInt8), (linksL T more s tag l).2 = true → StepOk more s (linksL T more s tag l).1 ∧ (linksL T more s tag l).1.used.count true = s.used.count true + sealed l
  | [], s, tag, _ => ⟨.rfl' s, rfl⟩
  | x :: l, s, tag, h => by
    unfold linksL at h ⊢
    rw [sealed_cons]
    split at h
    · rename_i h1
      rw [if_pos h1, if_pos h1]
      obtain ⟨a, b⟩ := links_ok l _ _ h
      exact ⟨⟨a.len, a.rise⟩, b⟩
    · rename_i h1
      rw [if_neg h1, if_neg h1]
      split at h
      · rename_i h2
        rw [if_pos h2]
        obtain ⟨a, b⟩ := links_ok l _ _ h
        obtain ⟨c, d⟩ := third_ok h2
        exact ⟨c.trans a, by omega⟩
      · cases h
theorem go_ok {T : List UInt8} {more : List TokL} : ∀ (f : Nat) (s : PrL) (i : Nat), s.used.length = more.length → s.list.length + s.used.count false = more.length + 1 → f + i = more.length + 2 → i ≤ s.list.length → (goL T more f s i).2 = true →
    (goL T more f s i).1.used.length = more.length ∧ (goL T more f s i).1.used.count true + sealedList (s.list.take i) = s.used.count true + sealedList (goL T more f s i).1.list ∧ ∃ r, (goL T more f s i).1.list = s.list ++ r ∧ ∀ x ∈ r, x.2 ∈ more
  | 0, s, i, hu, hc, hf, hi, _ => by omega
  | f + 1, s, i, hu, hc, hf, hi, h => by
    unfold goL at h ⊢
    cases hl : s.list[i]? with
    | none =>
      have : s.list.length ≤ i := by simpa using hl
      dsimp only
      exact ⟨hu, by rw [List.take_of_length_le this], [], by simp, by simp⟩
    | some kt =>
      obtain ⟨k, t⟩ := kt
      rw [hl] at h
      dsimp only at h ⊢
      have hlt := (List.getElem?_eq_some_iff.1 hl).1
      split at h
      · rename_i h1
        rw [if_pos h1]
        obtain ⟨a, b⟩ := links_ok t.links s (rootL k t.id) h1
        obtain ⟨r, hr, hm⟩ := links_list (T := T) (more := more) t.links s (rootL k t.id)
        have hs : sealedList ((linksL T more s (rootL k t.id) t.links).1.list.take (i + 1)) = sealedList (s.list.take i) + sealed t.links := by
          rw [hr, List.take_append_of_le_length (by omega), List.take_add_one, hl]; simp [sealedList]
        generalize hq : (linksL T more s (rootL k t.id) t.links).1 = s' at *
        have c1 := count_not s.used
        have c2 := count_not s'.used
        have a1 := a.len
        have a2 := a.rise
        have hlen : s'.list.length = s.list.length + r.length := by rw [hr, List.length_append]
        obtain ⟨d1, d2, r2, d4, d5⟩ := go_ok f s' (i + 1) (by omega) (by omega) (by omega) (by omega) h
        exact ⟨d1, by omega, r ++ r2, by rw [d4, hr, List.append_assoc], fun y hy => by
          rcases List.mem_append.1 hy with h | h
          · exact hm y h
          · exact d5 y h⟩
      · cases h
theorem sealed_nil {l : List LinkL} (h : ∀ x ∈ l, x.2 = []) : sealed l = 0 := by
  unfold sealed
  rw [List.countP_eq_zero]
  intro x hx
  simp [h x hx]
/-- All is proved: each discharge was used by a third party's link of the token, if the discharges have none. -/
theorem prove_count {k : List UInt8} {t : TokL} {more : List TokL} (h : (proveL k t more).2 = 0) (hd : ∀ d ∈ more, sealed d.links = 0) : more.length = sealed t.links := by
  unfold proveL at h
  split at h
  · cases h
  · split at h
    · split at h
      · rename_i h1
        obtain ⟨h2, h3⟩ := h1
        have hb : (begL k t more).used.count false = more.length := by simp [begL]
        have ht : (begL k t more).used.count true = 0 := by simp [begL, List.count_replicate]
        obtain ⟨a, b, r, d, c⟩ := go_ok (more.length + 2) (begL k t more) 0 (by simp [begL]) (by rw [hb]; simp [begL]; omega) rfl (by simp) h2
        generalize (goL t.tag more (more.length + 2) (begL k t more) 0).1 = s' at *
        have hall : s'.used.count true = s'.used.length := by
          rw [List.count_eq_length]
          intro x hx
          have := List.all_eq_true.1 h3 x hx
          simpa using this.symm
        have hz : ∀ r : List (List UInt8 × TokL), (∀ x ∈ r, x.2 ∈ more) → sealedList r = 0 := by
          intro r
          induction r with
          | nil => intro _; rfl
          | cons x r ih =>
            intro h
            have e1 := hd x.2 (h x (by simp))
            have e2 := ih (fun y hy => h y (by simp [hy]))
            unfold sealedList at e2 ⊢
            rw [List.map_cons, List.sum_cons, e1, e2]
        have hl : sealedList s'.list = sealed t.links := by
          rw [d, show (begL k t more).list = [(k, t)] from rfl, List.singleton_append]
          have := hz r c
          unfold sealedList at this ⊢
          rw [List.map_cons, List.sum_cons, this, Nat.add_zero]
        have h0 : sealedList ((begL k t more).list.take 0) = 0 := rfl
        omega
      · cases h
    · cases h
end Go.Proofs.YtejhiekikblbiaaGreatDoor

namespace Go.Proofs.YtejhiekikblbiaaGreatDoor
open Go.RowKit

theorem linksL_cons {T : List UInt8} {more : List TokL} (s : PrL) (tag : List UInt8) (l : LinkL) (r : List LinkL) : linksL T more s tag (l :: r) = if l.2 = [] then linksL T more ⟨s.used, s.list, s.texts ++ [l.1], s.work, s.sum⟩ (nextL tag l) r else
    if (thirdL T more s tag l).2 = true then linksL T more (thirdL T more s tag l).1 (nextL tag l) r else ((thirdL T more s tag l).1, false) := rfl
theorem linksL_append {T : List UInt8} {more : List TokL} : ∀ (a b : List LinkL) (s : PrL) (tag : List UInt8), linksL T more s tag (a ++ b) = if (linksL T more s tag a).2 = true then linksL T more (linksL T more s tag a).1 (foldT tag a) b else ((linksL T more s tag a).1, false)
  | [], b, s, tag => by simp [linksL, foldT]
  | x :: a, b, s, tag => by
    rw [List.cons_append, linksL_cons, linksL_cons, show foldT tag (x :: a) = foldT (nextL tag x) a from rfl]
    split
    · exact linksL_append a b _ _
    · split
      · exact linksL_append a b _ _
      · simp
/-- What a holder puts together: the token, its discharges behind their keys, its own texts. -/
inductive Hon (k id : List UInt8) : TokL → List (List UInt8 × TokL) → List (List UInt8) → Prop
  | nil : Hon k id ⟨id, [], rootL k id⟩ [] []
  | own {t : TokL} {m : List (List UInt8 × TokL)} {o : List (List UInt8)} (x : List UInt8) : Hon k id t m o → Hon k id (withL t (x, [])) m (o ++ [x])
  | third {t : TokL} {m : List (List UInt8 × TokL)} {o : List (List UInt8)} (s ck : List UInt8) (d : TokL) : Hon k id t m o → openR (sealL t.tag) s = (ck, 0) → s ≠ [] → d.tag = lastL ck d.id d.links → (∀ x ∈ d.links, x.2 = []) → Hon k id (withL t (d.id, s)) (m ++ [(ck, d)]) o
theorem Hon.tag {k id : List UInt8} {t : TokL} {m : List (List UInt8 × TokL)} {o : List (List UInt8)} (h : Hon k id t m o) : t.id = id ∧ t.tag = lastL k id t.links := by
  induction h with
  | nil => exact ⟨rfl, rfl⟩
  | own x _ ih => exact ⟨ih.1, by show nextL _ _ = lastL k id (_ ++ _); rw [lastL_snoc, ih.2]⟩
  | third s ck d _ _ _ _ _ ih => exact ⟨ih.1, by show nextL _ _ = lastL k id (_ ++ _); rw [lastL_snoc, ih.2]⟩
theorem Hon.count {k id : List UInt8} {t : TokL} {m : List (List UInt8 × TokL)} {o : List (List UInt8)} (h : Hon k id t m o) : sealed t.links = m.length ∧ t.links.length = m.length + o.length := by
  induction h with
  | nil => exact ⟨rfl, rfl⟩
  | own x _ ih => refine ⟨?_, by simp [withL, ih.2]; omega⟩
                  rw [← ih.1]; simp [withL, sealed, List.countP_append]
  | third s ck d _ _ hs _ _ ih => refine ⟨?_, by simp [withL, ih.2]; omega⟩
                                  rw [List.length_append, ← ih.1]; simp [withL, sealed, List.countP_append, hs]
theorem Hon.clean {k id : List UInt8} {t : TokL} {m : List (List UInt8 × TokL)} {o : List (List UInt8)} (h : Hon k id t m o) : ∀ x ∈ m, ∀ y ∈ x.2.links, y.2 = [] := by
  induction h with
  | nil => simp
  | own x _ ih => exact ih
  | third s ck d _ _ _ _ hc ih =>
    intro x hx
    rcases List.mem_append.1 hx with hx | hx
    · exact ih x hx
    · rw [List.mem_singleton.1 hx]; exact hc
def boundM (T : List UInt8) (m : List (List UInt8 × TokL)) : List TokL := m.map fun x => ⟨x.2.id, x.2.links, bindL T x.2.tag⟩
def listM (T : List UInt8) (m : List (List UInt8 × TokL)) : List (List UInt8 × TokL) := m.map fun x => (x.1, ⟨x.2.id, x.2.links, bindL T x.2.tag⟩)
theorem rep_get (n m i : Nat) (h : i < n) : (List.replicate n true ++ List.replicate m false)[i]? = some true := by
  rw [List.getElem?_append_left (by simpa using h), List.getElem?_replicate, if_pos h]
theorem Hon.links {k id : List UInt8} {t : TokL} {m : List (List UInt8 × TokL)} {o : List (List UInt8)} (h : Hon k id t m o) : ∀ (T : List UInt8) (rest : List TokL) (s : PrL), s.used = List.replicate (m.length + rest.length) false →
    ∃ W S, linksL T (boundM T m ++ rest) s (rootL k id) t.links = (⟨List.replicate m.length true ++ List.replicate rest.length false, s.list ++ listM T m, s.texts ++ o, W, S⟩, true) := by
  induction h with
  | nil => intro T rest s hs
           refine ⟨s.work, s.sum, ?_⟩
           simp [linksL, listM] at hs ⊢
           obtain ⟨a, b, c, d, e⟩ := s
           simp at hs ⊢
           exact hs
  | own x h ih => 
    intro T rest s hs
    obtain ⟨W, S, hE⟩ := ih T rest s hs
    refine ⟨W, S, ?_⟩
    show linksL T _ s _ (_ ++ [(x, [])]) = _
    rw [linksL_append, hE, if_pos rfl]
    simp [linksL]
  | @third t m o s2 ck d h ho hs2 ht hc ih =>
    intro T rest s hs
    have hm : boundM T (m ++ [(ck, d)]) ++ rest = boundM T m ++ (⟨d.id, d.links, bindL T d.tag⟩ :: rest) := by simp [boundM]
    obtain ⟨W, S, hE⟩ := ih T (⟨d.id, d.links, bindL T d.tag⟩ :: rest) s (by rw [hs]; simp; omega)
    have htag : foldT (rootL k id) t.links = t.tag := h.tag.2.symm
    show ∃ W S, linksL T _ s _ (_ ++ [(d.id, s2)]) = _
    rw [hm, linksL_append, hE, if_pos rfl, htag]
    have hlen : (boundM T m).length = m.length := by simp [boundM]
    have hf : findL d.id (boundM T m ++ (⟨d.id, d.links, bindL T d.tag⟩ :: rest)) (List.replicate m.length true ++ List.replicate (rest.length + 1) false) = some m.length := by
      refine findL_here (d := ⟨d.id, d.links, bindL T d.tag⟩) (by simp [boundM]) (fun j hj e he hu => ?_) ?_ ?_ rfl
      · rw [rep_get _ _ _ hj] at hu; cases hu
      · rw [List.getElem?_append_right (by omega), hlen, Nat.sub_self]; rfl
      · rw [List.getElem?_append_right (by simp)]; simp [List.replicate_succ]
    have hg : (boundM T m ++ (⟨d.id, d.links, bindL T d.tag⟩ :: rest))[m.length]? = some ⟨d.id, d.links, bindL T d.tag⟩ := by
      rw [List.getElem?_append_right (by omega), hlen, Nat.sub_self]; rfl
    have hset : (List.replicate m.length true ++ List.replicate (rest.length + 1) false).set m.length true = List.replicate (m.length + 1) true ++ List.replicate rest.length false := by
      rw [List.set_append_right _ _ (by simp), List.length_replicate, Nat.sub_self, List.replicate_succ, List.set_cons_zero, List.replicate_succ' (n := m.length), List.append_assoc]
      rfl
    dsimp only [List.length_cons]
    generalize hs1 : (⟨List.replicate m.length true ++ List.replicate (rest.length + 1) false, s.list ++ listM T m, s.texts ++ o, W, S⟩ : PrL) = s1
    have hu1 : s1.used = List.replicate m.length true ++ List.replicate (rest.length + 1) false := by rw [← hs1]
    have h3 := thirdL_use (T := T) (more := boundM T m ++ (⟨d.id, d.links, bindL T d.tag⟩ :: rest)) (s := s1) (tag := t.tag) (l := (d.id, s2)) (i := m.length) (by rw [ho]) (by rw [hu1]; exact hf) hg
    rw [ho] at h3
    have h4 : useL T (askL s1 t.tag s2) ck m.length ⟨d.id, d.links, bindL T d.tag⟩ = (⟨List.replicate (m.length + 1) true ++ List.replicate rest.length false, s1.list ++ [(ck, ⟨d.id, d.links, bindL T d.tag⟩)], s1.texts, s1.work + 1 + (d.links.length + 1) + 1, s1.sum ++ pairT t.tag sealParts ++ boxTexts (sealL t.tag) s2 ++ textsL ck d.id d.links ++ pairT T (bindParts (lastL ck d.id d.links))⟩, true) := by
      unfold useL askL
      dsimp only
      rw [if_pos (by rw [ht]), hu1, hset, decide_eq_true (by rw [ht])]
    rw [linksL_cons, if_neg (by simpa using hs2), h3, h4]
    dsimp only
    rw [if_pos rfl, ← hs1]
    refine ⟨W + 1 + (d.links.length + 1) + 1, S ++ pairT t.tag sealParts ++ boxTexts (sealL t.tag) s2 ++ textsL ck d.id d.links ++ pairT T (bindParts (lastL ck d.id d.links)), ?_⟩
    simp only [linksL, listM, List.map_append, List.map_cons, List.map_nil, List.append_assoc, List.length_append, List.length_singleton]
/-- Links of the token's own alone. -/
theorem links_own {T : List UInt8} {more : List TokL} : ∀ (l : List LinkL) (s : PrL) (tag : List UInt8), (∀ x ∈ l, x.2 = []) → linksL T more s tag l = (⟨s.used, s.list, s.texts ++ l.map (·.1), s.work, s.sum⟩, true)
  | [], s, tag, _ => by simp [linksL]
  | x :: l, s, tag, h => by
    unfold linksL
    rw [if_pos (h x (by simp)), links_own l _ _ (fun y hy => h y (by simp [hy]))]
    simp
theorem go_own {T : List UInt8} {more : List TokL} : ∀ (f : Nat) (s : PrL) (i : Nat), s.list.length < f + i → (∀ x ∈ s.list.drop i, ∀ y ∈ x.2.links, y.2 = []) → goL T more f s i = (⟨s.used, s.list, s.texts ++ (s.list.drop i).flatMap (fun x => x.2.links.map (·.1)), s.work, s.sum⟩, true)
  | 0, s, i, hf, _ => by
    unfold goL
    rw [List.drop_eq_nil_of_le (by omega)]; simp
  | f + 1, s, i, hf, h => by
    unfold goL
    cases hl : s.list[i]? with
    | none =>
      rw [List.drop_eq_nil_of_le (by simpa using hl)]; simp
    | some kt =>
      obtain ⟨k, t⟩ := kt
      obtain ⟨hlt, he⟩ := List.getElem?_eq_some_iff.1 hl
      have hd : s.list.drop i = (k, t) :: s.list.drop (i + 1) := by rw [List.drop_eq_getElem_cons hlt, he]
      have ho := links_own (T := T) (more := more) t.links s (rootL k t.id) (h (k, t) (by rw [hd]; simp))
      dsimp only
      rw [ho]
      dsimp only
      rw [if_pos rfl, go_own f _ (i + 1) (by dsimp only; omega) (fun x hx => h x (by rw [hd]; exact List.mem_cons_of_mem _ hx)), hd]
      simp
/-- The honest holder's bundle is proved. -/
theorem Hon.prove {k id : List UInt8} {t : TokL} {m : List (List UInt8 × TokL)} {o : List (List UInt8)} (h : Hon k id t m o) (h1 : m.length ≤ 8) (h2 : t.links.length ≤ 64) (h3 : ∀ x ∈ m, x.2.links.length ≤ 64) :
    (proveL k t (boundM t.tag m)).2 = 0 ∧ (proveL k t (boundM t.tag m)).1.texts = o ++ m.flatMap (fun x => x.2.links.map (·.1)) := by
  have hlen : (boundM t.tag m).length = m.length := by simp [boundM]
  have hg : greatB t (boundM t.tag m) = false := by
    simp [greatB, boundM]
    exact ⟨⟨by omega, by omega⟩, fun a b hx => h3 _ hx⟩
  obtain ⟨hi, ht⟩ := h.tag
  obtain ⟨W, S, hE⟩ := h.links t.tag [] (begL k t (boundM t.tag m)) (by simp [begL, hlen])
  rw [List.append_nil] at hE
  have hgo : ∃ W S, goL t.tag (boundM t.tag m) ((boundM t.tag m).length + 2) (begL k t (boundM t.tag m)) 0 = (⟨List.replicate m.length true, (k, t) :: listM t.tag m, o ++ m.flatMap (fun x => x.2.links.map (·.1)), W, S⟩, true) := by
    rw [show (boundM t.tag m).length + 2 = ((boundM t.tag m).length + 1) + 1 from rfl]
    unfold goL
    rw [show (begL k t (boundM t.tag m)).list[0]? = some (k, t) from rfl]
    dsimp only
    rw [hi, hE, if_pos rfl]
    dsimp only
    rw [go_own _ _ 1 (by simp [begL, listM, hlen]) ?_]
    · refine ⟨W, S, ?_⟩
      simp [begL, listM, List.flatMap_map]
    · intro x hx y hy
      have hx : x ∈ listM t.tag m := by simpa [begL] using hx
      obtain ⟨z, hz, rfl⟩ := List.mem_map.1 hx
      exact h.clean z hz y hy
  obtain ⟨W, S, hgo⟩ := hgo
  unfold proveL
  rw [hg, if_neg (by simp), hi, ← ht, if_pos rfl, hgo]
  dsimp only
  rw [if_pos ⟨rfl, by simp⟩]
  exact ⟨rfl, rfl⟩
theorem prove_err (k : List UInt8) (t : TokL) (more : List TokL) : (proveL k t more).2 = 0 ∨ ((proveL k t more).2 = 3 ∧ greatB t more = true) ∨ ((proveL k t more).2 = 8 ∧ lastL k t.id t.links ≠ t.tag) ∨ (proveL k t more).2 = 11 := by
  unfold proveL
  split
  · rename_i h; exact .inr (.inl ⟨rfl, h⟩)
  · split
    · split
      · exact .inl rfl
      · exact .inr (.inr (.inr rfl))
    · rename_i h; exact .inr (.inr (.inl ⟨rfl, h⟩))
/-- Other discharges than these, as many fewer or more: not proved. -/
theorem Hon.not {k id : List UInt8} {t : TokL} {m : List (List UInt8 × TokL)} {o : List (List UInt8)} (h : Hon k id t m o) (T : List UInt8) (m2 : List (List UInt8 × TokL)) (hs : ∀ x ∈ m2, x ∈ m) (hn : m2.length ≠ m.length) : (proveL k t (boundM T m2)).2 = 11 ∨ ((proveL k t (boundM T m2)).2 = 3 ∧ greatB t (boundM T m2) = true) := by
  obtain ⟨hi, ht⟩ := h.tag
  rcases prove_err k t (boundM T m2) with h1 | h1 | h1 | h1
  · exfalso
    have := prove_count h1 (fun d hd => by
      obtain ⟨z, hz, rfl⟩ := List.mem_map.1 hd
      exact sealed_nil (h.clean z (hs z hz)))
    rw [h.count.1] at this
    simp [boundM] at this
    exact hn this
  · exact .inr h1
  · exact absurd (by rw [hi, ht]) h1.2
  · exact .inl h1
/-- What is proved has the last tag of its links. -/
theorem prove_tag {k : List UInt8} {t : TokL} {more : List TokL} (h1 : greatB t more = false) (h2 : (proveL k t more).2 ≠ 8) : lastL k t.id t.links = t.tag := by
  unfold proveL at h2
  rw [h1, if_neg (by simp)] at h2
  split at h2
  · assumption
  · exact absurd rfl h2
/-- The proof of a token of one third party's link and one of its own, with one discharge. -/
theorem prove_two {k id s sl x ck : List UInt8} {d : TokL} {t : TokL} (ht : t = ⟨id, [(s, sl), (x, [])], lastL k id [(s, sl), (x, [])]⟩) (hs : sl ≠ []) (ho : openR (sealL (rootL k id)) sl = (ck, 0)) (hd : d.id = s) (hdl : d.links = []) :
    (bindL t.tag (rootL ck s) = d.tag → (proveL k t [d]).2 = 0) ∧ (bindL t.tag (rootL ck s) ≠ d.tag → (proveL k t [d]).2 = 11) ∧
    (∀ p ∈ textsL k id [(s, sl), (x, [])] ++ pairT t.tag (bindParts (rootL ck s)), p ∈ (proveL k t [d]).1.sum) := by
  subst ht
  have hg : greatB ⟨id, [(s, sl), (x, [])], lastL k id [(s, sl), (x, [])]⟩ [d] = false := by simp [greatB, hdl]
  have hf : findL s [d] [false] = some 0 := by rw [findL, if_pos ⟨rfl, hd⟩]
  generalize hT : lastL k id [(s, sl), (x, [])] = T at *
  have hl : lastL ck d.id d.links = rootL ck s := by rw [hd, hdl]; rfl
  have hlk : linksL T [d] (begL k ⟨id, [(s, sl), (x, [])], T⟩ [d]) (rootL k id) [(s, sl), (x, [])] =
      if bindL T (rootL ck s) = d.tag then (⟨[true], [(k, ⟨id, [(s, sl), (x, [])], T⟩), (ck, d)], [x], 3 + 1 + (d.links.length + 1) + 1, textsL k id [(s, sl), (x, [])] ++ pairT (rootL k id) sealParts ++ boxTexts (sealL (rootL k id)) sl ++ textsL ck d.id d.links ++ pairT T (bindParts (rootL ck s))⟩, true)
      else (⟨[true], [(k, ⟨id, [(s, sl), (x, [])], T⟩)], [], 3 + 1 + (d.links.length + 1) + 1, textsL k id [(s, sl), (x, [])] ++ pairT (rootL k id) sealParts ++ boxTexts (sealL (rootL k id)) sl ++ textsL ck d.id d.links ++ pairT T (bindParts (rootL ck s))⟩, false) := by
    rw [linksL_cons, if_neg (by simpa using hs), thirdL_use (d := d) (by show (openR (sealL (rootL k id)) sl).2 = 0; rw [ho]) (show findL s [d] _ = some 0 from hf) rfl]
    dsimp only
    rw [ho]
    unfold useL askL
    dsimp only
    rw [hl]
    by_cases hc : bindL T (rootL ck s) = d.tag
    · rw [if_pos hc, if_pos hc, if_pos (by simpa using hc)]
      rw [linksL_cons, if_pos rfl]
      simp [begL, linksL]
    · rw [if_neg hc, if_neg hc, if_neg (by simpa using hc)]
      simp [begL]
  have hp : proveL k ⟨id, [(s, sl), (x, [])], T⟩ [d] = if bindL T (rootL ck s) = d.tag then (⟨[true], [(k, ⟨id, [(s, sl), (x, [])], T⟩), (ck, d)], [x], 3 + 1 + (d.links.length + 1) + 1, textsL k id [(s, sl), (x, [])] ++ pairT (rootL k id) sealParts ++ boxTexts (sealL (rootL k id)) sl ++ textsL ck d.id d.links ++ pairT T (bindParts (rootL ck s))⟩, 0)
      else (⟨[true], [(k, ⟨id, [(s, sl), (x, [])], T⟩)], [], 3 + 1 + (d.links.length + 1) + 1, textsL k id [(s, sl), (x, [])] ++ pairT (rootL k id) sealParts ++ boxTexts (sealL (rootL k id)) sl ++ textsL ck d.id d.links ++ pairT T (bindParts (rootL ck s))⟩, 11) := by
    unfold proveL
    rw [hg, if_neg (by simp)]
    dsimp only
    rw [hT, if_pos rfl]
    have hgo : goL T [d] ([d].length + 2) (begL k ⟨id, [(s, sl), (x, [])], T⟩ [d]) 0 = if (linksL T [d] (begL k ⟨id, [(s, sl), (x, [])], T⟩ [d]) (rootL k id) [(s, sl), (x, [])]).2 = true then goL T [d] 2 (linksL T [d] (begL k ⟨id, [(s, sl), (x, [])], T⟩ [d]) (rootL k id) [(s, sl), (x, [])]).1 1 else ((linksL T [d] (begL k ⟨id, [(s, sl), (x, [])], T⟩ [d]) (rootL k id) [(s, sl), (x, [])]).1, false) := rfl
    rw [hgo, hlk]
    by_cases hc : bindL T (rootL ck s) = d.tag
    · rw [if_pos hc, if_pos hc]
      dsimp only
      rw [if_pos rfl, go_own 2 _ 1 (by simp) (by simp [hdl])]
      simp [hdl]
    · rw [if_neg hc, if_neg hc]
      simp
  rw [hp]
  refine ⟨fun h => by rw [if_pos h], fun h => by rw [if_neg h], fun p hpm => ?_⟩
  split <;>
  · dsimp only
    rcases List.mem_append.1 hpm with h | h
    · simp [h]
    · simp [h]
end Go.Proofs.YtejhiekikblbiaaGreatDoor

namespace Go.Proofs.YtejhiekikblbiaaGreatDoor
open Go.RowKit

theorem third_rise {T : List UInt8} {more : List TokL} {s : PrL} {tag : List UInt8} {l : LinkL} : s.work ≤ (thirdL T more s tag l).1.work := by
  unfold thirdL
  split
  · split
    · dsimp only; omega
    · unfold useL; dsimp only; omega
  · dsimp only; omega
theorem links_rise {T : List UInt8} {more : List TokL} : ∀ (l : List LinkL) (s : PrL) (tag : List UInt8), s.work ≤ (linksL T more s tag l).1.work
  | [], s, tag => Nat.le_refl _
  | x :: l, s, tag => by
    rw [linksL_cons]
    split
    · exact links_rise l ⟨s.used, s.list, s.texts ++ [x.1], s.work, s.sum⟩ _
    · split
      · exact Nat.le_trans third_rise (links_rise l _ _)
      · exact third_rise
theorem go_rise {T : List UInt8} {more : List TokL} : ∀ (f : Nat) (s : PrL) (i : Nat), s.work ≤ (goL T more f s i).1.work
  | 0, s, i => Nat.le_refl _
  | f + 1, s, i => by
    unfold goL
    split
    · exact Nat.le_refl _
    · split
      · exact Nat.le_trans (links_rise _ _ _) (go_rise f _ _)
      · exact links_rise _ _ _
theorem links_used {T : List UInt8} {more : List TokL} : ∀ (l : List LinkL) (s : PrL) (tag : List UInt8), (linksL T more s tag l).1.used.length = s.used.length
  | [], s, tag => rfl
  | x :: l, s, tag => by
    rw [linksL_cons]
    split
    · exact links_used l ⟨s.used, s.list, s.texts ++ [x.1], s.work, s.sum⟩ _
    · split
      · exact (links_used l _ _).trans third_len
      · exact third_len
/-- What is still to be gone through of a token's links, and the rounds behind. -/
def restGo (T : List UInt8) (more : List TokL) (f : Nat) (i : Nat) (x : PrL × Bool) : PrL × Bool := if x.2 = true then goL T more f x.1 (i + 1) else (x.1, false)
theorem goL_at {T : List UInt8} {more : List TokL} {f i : Nat} {s : PrL} {k : List UInt8} {t : TokL} (h : s.list[i]? = some (k, t)) : goL T more (f + 1) s i = restGo T more f i (linksL T more s (rootL k t.id) t.links) := by
  rw [goL, h]; rfl
theorem goL_end {T : List UInt8} {more : List TokL} {f i : Nat} {s : PrL} (h : s.list.length ≤ i) : goL T more f s i = (s, true) := by
  cases f with
  | zero => rfl
  | succ f => rw [goL, List.getElem?_eq_none h]
theorem restGo_true {T : List UInt8} {more : List TokL} {f i : Nat} {s : PrL} : restGo T more f i (s, true) = goL T more f s (i + 1) := rfl
theorem restGo_false {T : List UInt8} {more : List TokL} {f i : Nat} {s : PrL} : restGo T more f i (s, false) = (s, false) := rfl
theorem restGo_rise {T : List UInt8} {more : List TokL} {f i : Nat} {x : PrL × Bool} : x.1.work ≤ (restGo T more f i x).1.work := by
  unfold restGo
  split
  · exact go_rise _ _ _
  · exact Nat.le_refl _
/-- One link more. -/
theorem links_step {T : List UInt8} {more : List TokL} {s : PrL} {tag : List UInt8} {l : List LinkL} {k : Nat} (h : k < l.length) :
    linksL T more s (foldT tag (l.take k)) (l.drop k) = if l[k].2 = [] then linksL T more ⟨s.used, s.list, s.texts ++ [l[k].1], s.work, s.sum⟩ (foldT tag (l.take (k + 1))) (l.drop (k + 1)) else
      if (thirdL T more s (foldT tag (l.take k)) l[k]).2 = true then linksL T more (thirdL T more s (foldT tag (l.take k)) l[k]).1 (foldT tag (l.take (k + 1))) (l.drop (k + 1)) else ((thirdL T more s (foldT tag (l.take k)) l[k]).1, false) := by
  rw [List.drop_eq_getElem_cons h, linksL_cons]
  have : nextL (foldT tag (l.take k)) l[k] = foldT tag (l.take (k + 1)) := by
    unfold foldT
    rw [List.take_succ_eq_append_getElem h, List.foldl_append]; rfl
  rw [this]
/-- How many are used is how many were put on the list. -/
def SizeOk (more : List TokL) (s : PrL) : Prop := s.used.length = more.length ∧ s.list.length = 1 + s.used.count true
theorem SizeOk.le {more : List TokL} {s : PrL} (h : SizeOk more s) : s.list.length ≤ more.length + 1 := by
  have := List.count_le_length (a := true) (l := s.used)
  have := h.1; have := h.2; omega
theorem SizeOk.third {T : List UInt8} {more : List TokL} {s : PrL} {tag : List UInt8} {l : LinkL} (h : SizeOk more s) (h2 : (thirdL T more s tag l).2 = true) : SizeOk more (thirdL T more s tag l).1 := by
  obtain ⟨a, b⟩ := third_ok h2
  have := a.len; have := a.rise; have := h.1; have := h.2
  exact ⟨by omega, by omega⟩
theorem third_texts {T : List UInt8} {more : List TokL} {s : PrL} {tag : List UInt8} {l : LinkL} : (thirdL T more s tag l).1.texts = s.texts := by
  unfold thirdL
  split
  · split
    · rfl
    · rfl
  · rfl
/-! ### the whole proof by cases -/
theorem prove_great {k : List UInt8} {t : TokL} {more : List TokL} (h : greatB t more = true) : proveL k t more = (⟨List.replicate more.length false, [], [], 0, []⟩, 3) := by unfold proveL; rw [if_pos h]
theorem prove_tag8 {k : List UInt8} {t : TokL} {more : List TokL} (h : greatB t more = false) (h2 : lastL k t.id t.links ≠ t.tag) : proveL k t more = (⟨List.replicate more.length false, [], [], t.links.length + 1, textsL k t.id t.links⟩, 8) := by
  unfold proveL; rw [h, if_neg (by simp), if_neg h2]
theorem prove_go {k : List UInt8} {t : TokL} {more : List TokL} (h : greatB t more = false) (h2 : lastL k t.id t.links = t.tag) {s : PrL} {b : Bool} (h3 : goL t.tag more (more.length + 2) (begL k t more) 0 = (s, b)) :
    proveL k t more = (s, if (b && s.used.all id) = true then 0 else 11) := by
  unfold proveL
  rw [h, if_neg (by simp), if_pos h2, h3]
  dsimp only
  by_cases hb : b = true ∧ s.used.all id = true
  · rw [if_pos hb, if_pos (by rw [hb.1, hb.2]; rfl)]
  · rw [if_neg hb, if_neg (by rw [Bool.and_eq_true]; exact hb)]
theorem sealed_le (l : List LinkL) : sealed l ≤ l.length := List.countP_le_length
theorem great_small {t : TokL} {more : List TokL} (h : greatB t more = false) : more.length ≤ 8 ∧ t.links.length ≤ 64 ∧ (∀ d ∈ more, d.links.length ≤ 64) ∧ mostL t more ≤ 2000 := by
  unfold greatB at h
  rw [Bool.or_eq_false_iff, Bool.or_eq_false_iff, decide_eq_false_iff_not, decide_eq_false_iff_not, List.any_eq_false] at h
  obtain ⟨⟨h1, h2⟩, h3⟩ := h
  have h4 : ∀ d ∈ more, d.links.length ≤ 64 := fun d hd => by have := h3 d hd; simp at this; omega
  refine ⟨by omega, by omega, h4, ?_⟩
  have h5 : ∀ m : List TokL, (∀ d ∈ m, d.links.length ≤ 64) → (m.map fun d => mostT d + 1).sum ≤ 130 * m.length := by
    intro m
    induction m with
    | nil => simp
    | cons d m ih =>
      intro hm
      have e1 := ih (fun x hx => hm x (by simp [hx]))
      have e2 := hm d (by simp)
      have e3 := sealed_le d.links
      rw [List.map_cons, List.sum_cons, List.length_cons]
      unfold mostT
      unfold mostT at e1
      omega
  have h6 := h5 more h4
  have h7 := sealed_le t.links
  unfold mostL mostT
  unfold mostT at h6
  omega
theorem begL_ok (k : List UInt8) (t : TokL) (more : List TokL) : SizeOk more (begL k t more) := ⟨by simp [begL], by simp [begL, List.count_replicate]⟩
theorem all_take {l : List Bool} {k : Nat} (h : k < l.length) : (l.take (k + 1)).all id = ((l.take k).all id && l[k]) := by
  rw [List.take_succ_eq_append_getElem h, List.all_append]; simp
end Go.Proofs.YtejhiekikblbiaaGreatDoor
