/-
  Packages token and bundle in plain words over lists: what is put, how many bytes it has, what is got, and that these undo each other. No program in sight.
-/
import Derived.Test.YtmnpbpfeoackiaaDoorRdLaw
import Derived.Test.YtmnpbpfeoackiaaDoorTkDef
namespace Go.Proofs.YtmnpbpfeoackiaaDoor
open Go.RowKit

/-- From the end. -/
theorem listSnoc {α : Type} {P : List α → Prop} (nil : P []) (append_singleton : ∀ l x, P l → P (l ++ [x])) (l : List α) : P l := by
  have h : ∀ m : List α, P m.reverse := fun m => by
    induction m with
    | nil => exact nil
    | cons x m ih => rw [List.reverse_cons]; exact append_singleton _ _ ih
  have := h l.reverse
  rwa [List.reverse_reverse] at this
/-- A link is read. -/
def linkGet (x : RS) : LinkL × RS :=
  if (rByte x).1 = 0 then (((rText (rByte x).2 2048).1, []), (rText (rByte x).2 2048).2)
  else if (rByte x).1 = 1 then (((rText (rByte x).2 4144).1, (rText (rText (rByte x).2 4144).2 4144).1), if (rText (rText (rByte x).2 4144).2 4144).1 = [] then rFail (rText (rText (rByte x).2 4144).2 4144).2 2 else (rText (rText (rByte x).2 4144).2 4144).2)
  else (([], []), rFail (rByte x).2 2)
def linksGet : Nat → RS → List LinkL × RS
  | 0, x => ([], x)
  | n + 1, x => ((linksGet n x).1 ++ [(linkGet (linksGet n x).2).1], (linkGet (linksGet n x).2).2)
def tokHeadGet (s : List UInt8) : List UInt8 × List LinkL × RS :=
  ((rText (s, 0) 4144).1, (linksGet (rNum (rText (s, 0) 4144).2 64).1 (rNum (rText (s, 0) 4144).2 64).2).1, (linksGet (rNum (rText (s, 0) 4144).2 64).1 (rNum (rText (s, 0) 4144).2 64).2).2)
def tokGetR (s : List UInt8) : TokL × Int :=
  if (tokHeadGet s).2.2.2 ≠ 0 then (tok0, (tokHeadGet s).2.2.2) else if (tokHeadGet s).2.2.1.length < 32 then (tok0, 1) else if 32 < (tokHeadGet s).2.2.1.length then (tok0, 2)
  else (⟨(tokHeadGet s).1, (tokHeadGet s).2.1, (tokHeadGet s).2.2.1⟩, 0)

theorem length_linksGet : ∀ (n : Nat) (x : RS), (linksGet n x).1.length = n
  | 0, _ => rfl
  | n + 1, x => by rw [linksGet, List.length_append, length_linksGet n x]; rfl
theorem linkGet_len (x : RS) : (linkGet x).2.1.length ≤ x.1.length := by
  have h0 := rByte_len x
  unfold linkGet
  split
  · exact Nat.le_trans (rText_len _ _) h0
  · split
    · have h1 := rText_len (rByte x).2 4144
      have h2 := rText_len (rText (rByte x).2 4144).2 4144
      split
      · have h3 := rFail_le (rText (rText (rByte x).2 4144).2 4144).2 2
        dsimp only; omega
      · dsimp only; omega
    · exact Nat.le_trans (rFail_le _ _) h0
theorem linksGet_len : ∀ (n : Nat) (x : RS), (linksGet n x).2.1.length ≤ x.1.length
  | 0, _ => Nat.le_refl _
  | n + 1, x => Nat.le_trans (linkGet_len _) (linksGet_len n x)
theorem tokHeadGet_len (s : List UInt8) : (tokHeadGet s).2.2.1.length ≤ s.length :=
  Nat.le_trans (linksGet_len _ _) (Nat.le_trans (rNum_len _ _) (rText_len (s, 0) 4144))

/-! ### what was put is got -/
theorem linkGet_put {x : LinkL} (h : longL x = false) (r : List UInt8) : linkGet (linkPut x ++ r, 0) = (x, (r, 0)) := by
  obtain ⟨a, b⟩ := x
  unfold longL at h
  dsimp only at h
  by_cases hb : b = []
  · subst hb
    rw [if_pos rfl, decide_eq_false_iff_not] at h
    have h1 : rByte (linkPut (a, []) ++ r, 0) = (0, (fText a ++ r, 0)) := rByte_ok (by simp [linkPut])
    have h2 : rText (fText a ++ r, 0) 2048 = (a, (r, 0)) := rText_put (m := 2048) (by omega) (by decide) r
    unfold linkGet
    rw [h1, if_pos rfl]
    dsimp only
    rw [h2]
  · rw [if_neg hb, Bool.or_eq_false_iff, decide_eq_false_iff_not, decide_eq_false_iff_not] at h
    have h1 : rByte (linkPut (a, b) ++ r, 0) = (1, (fText a ++ (fText b ++ r), 0)) := by
      have := rByte_ok (s := linkPut (a, b) ++ r) (by unfold linkPut; rw [if_neg hb]; simp)
      rw [this]
      unfold linkPut
      rw [if_neg hb]
      simp
    have h2 : rText (fText a ++ (fText b ++ r), 0) 4144 = (a, (fText b ++ r, 0)) := rText_put (m := 4144) (by omega) (by decide) _
    have h3 : rText (fText b ++ r, 0) 4144 = (b, (r, 0)) := rText_put (m := 4144) (by omega) (by decide) _
    unfold linkGet
    rw [h1, if_neg (by show ¬ (1 : UInt8) = 0; decide), if_pos rfl]
    dsimp only
    rw [h2]
    dsimp only
    rw [h3, if_neg hb]
theorem linksGet_put : ∀ (l : List LinkL) (r : List UInt8), l.any longL = false → linksGet l.length (linksPut l ++ r, 0) = (l, (r, 0)) := by
  intro l
  induction l using listSnoc with
  | nil => intro r _; simp [linksGet, linksPut]
  | append_singleton l x ih =>
    intro r h
    rw [List.any_append, Bool.or_eq_false_iff] at h
    rw [List.length_append, List.length_singleton, linksGet, linksPut_append, linksPut_one, List.append_assoc, ih (linkPut x ++ r) h.1]
    dsimp only
    rw [linkGet_put (by simpa using h.2)]
theorem tokGet_put {t : TokL} (h : (tokPutR t).2 = 0) : tokGetR (tokPutR t).1 = (t, 0) := by
  unfold tokPutR at h ⊢
  split at h
  · cases h
  · rename_i hb
    split at h
    · rename_i ht
      rw [if_neg hb, if_pos ht]
      have hb : tokBad t = false := by simpa using hb
      unfold tokBad at hb
      rw [Bool.or_eq_false_iff, Bool.or_eq_false_iff, decide_eq_false_iff_not, decide_eq_false_iff_not] at hb
      obtain ⟨⟨h1, h2⟩, h3⟩ := hb
      dsimp only
      have e1 : rText (tokHead t.id t.links ++ t.tag, 0) 4144 = (t.id, (vput t.links.length ++ (linksPut t.links ++ t.tag), 0)) := by
        unfold tokHead
        rw [List.append_assoc, List.append_assoc]
        exact rText_put (m := 4144) (by omega) (by decide) _
      have e2 : rNum (vput t.links.length ++ (linksPut t.links ++ t.tag), 0) 64 = (t.links.length, (linksPut t.links ++ t.tag, 0)) := rNum_put (by omega) (by omega) _
      have e3 : tokHeadGet (tokHead t.id t.links ++ t.tag) = (t.id, t.links, (t.tag, 0)) := by
        unfold tokHeadGet
        rw [e1]
        dsimp only
        rw [e2]
        dsimp only
        rw [linksGet_put _ _ h3]
      unfold tokGetR
      rw [e3]
      dsimp only
      rw [if_neg (by simp), if_neg (by omega), if_neg (by omega)]
    · cases h

/-! ### what is got was put -/
theorem linkGet_good {x : RS} (h : (linkGet x).2.2 = 0) : x.2 = 0 ∧ x.1 = linkPut (linkGet x).1 ++ (linkGet x).2.1 ∧ longL (linkGet x).1 = false := by
  unfold linkGet at h ⊢
  by_cases h0 : (rByte x).1 = 0
  · rw [if_pos h0] at h ⊢
    dsimp only at h ⊢
    obtain ⟨a, b, c⟩ := rText_good (m := 2048) h
    obtain ⟨d, e⟩ := rByte_good a
    refine ⟨d, ?_, ?_⟩
    · rw [e, h0]
      unfold linkPut
      rw [if_pos rfl, List.cons_append]
      congr 1
    · unfold longL
      rw [if_pos rfl, decide_eq_false_iff_not]
      have c := c
      exact Nat.not_lt.2 c
  · rw [if_neg h0] at h ⊢
    by_cases h1 : (rByte x).1 = 1
    · rw [if_pos h1] at h ⊢
      dsimp only at h ⊢
      by_cases h2 : (rText (rText (rByte x).2 4144).2 4144).1 = []
      · rw [if_pos h2] at h
        exact (rFail_good (by decide) h).elim
      · rw [if_neg h2] at h ⊢
        obtain ⟨a, b, c⟩ := rText_good (m := 4144) h
        obtain ⟨a', b', c'⟩ := rText_good (m := 4144) a
        obtain ⟨d, e⟩ := rByte_good a'
        refine ⟨d, ?_, ?_⟩
        · rw [e, h1]
          unfold linkPut
          rw [if_neg h2, List.cons_append, List.append_assoc]
          congr 1
          rw [b']
          congr 1
        · unfold longL
          rw [if_neg h2, Bool.or_eq_false_iff, decide_eq_false_iff_not, decide_eq_false_iff_not]
          exact ⟨Nat.not_lt.2 c', Nat.not_lt.2 c⟩
    · rw [if_neg h1] at h
      exact (rFail_good (by decide) h).elim
theorem linksGet_good : ∀ (n : Nat) (x : RS), (linksGet n x).2.2 = 0 → x.2 = 0 ∧ x.1 = linksPut (linksGet n x).1 ++ (linksGet n x).2.1 ∧ (linksGet n x).1.any longL = false
  | 0, x, h => ⟨h, by simp [linksGet, linksPut], rfl⟩
  | n + 1, x, h => by
    rw [linksGet] at h ⊢
    dsimp only at h ⊢
    obtain ⟨a, b, c⟩ := linkGet_good h
    obtain ⟨d, e, f⟩ := linksGet_good n x a
    refine ⟨d, ?_, ?_⟩
    · rw [linksPut_append, linksPut_one, List.append_assoc, ← b]; exact e
    · rw [List.any_append, f]; simp [c]
theorem tokPut_get {s : List UInt8} (h : (tokGetR s).2 = 0) : tokPutR (tokGetR s).1 = (s, 0) := by
  unfold tokGetR at h ⊢
  split at h
  · rename_i h0; exact absurd h h0
  · rename_i h0
    rw [if_neg h0]
    split at h
    · cases h
    · rename_i h1
      rw [if_neg h1]
      split at h
      · cases h
      · rename_i h2
        rw [if_neg h2]
        have h0 : (tokHeadGet s).2.2.2 = 0 := by simpa using h0
        obtain ⟨a, b, c⟩ := linksGet_good _ _ h0
        obtain ⟨a2, b2, c2, c3⟩ := rNum_good a
        obtain ⟨_, b3, c4⟩ := rText_good (m := 4144) a2
        have hl : (tokHeadGet s).2.1.length = (rNum (rText (s, 0) 4144).2 64).1 := length_linksGet _ _
        have hbad : tokBad ⟨(tokHeadGet s).1, (tokHeadGet s).2.1, (tokHeadGet s).2.2.1⟩ = false := by
          unfold tokBad
          dsimp only
          rw [Bool.or_eq_false_iff, Bool.or_eq_false_iff, decide_eq_false_iff_not, decide_eq_false_iff_not, hl]
          exact ⟨⟨Nat.not_lt.2 c4, Nat.not_lt.2 c2⟩, c⟩
        unfold tokPutR
        rw [hbad, if_neg (by simp), if_pos (by dsimp only; omega)]
        dsimp only
        congr 1
        unfold tokHead
        rw [hl, List.append_assoc, List.append_assoc]
        refine Eq.trans ?_ b3.symm
        congr 1
        refine Eq.trans ?_ b2.symm
        congr 1
        exact b.symm

end Go.Proofs.YtmnpbpfeoackiaaDoor
