/-
  Package bundle in plain words over lists: what is got, and that putting and getting undo each other; how many bytes. No program in sight.
-/
import Derived.Test.YtmnpbpfeoackiaaDoorTkPlain
namespace Go.Proofs.YtmnpbpfeoackiaaDoor
open Go.RowKit

def takeGet (x : RS) : TokL × RS :=
  if (rText x 65536).2.2 ≠ 0 then (tok0, (rText x 65536).2) else ((tokGetR (rText x 65536).1).1, rFail (rText x 65536).2 (tokGetR (rText x 65536).1).2)
def takesGet : Nat → RS → List TokL × RS
  | 0, x => ([], x)
  | n + 1, x => ((takesGet n x).1 ++ [(takeGet (takesGet n x).2).1], (takeGet (takesGet n x).2).2)
def bunHeadGet (s : List UInt8) : TokL × List TokL × RS :=
  ((takeGet (s, 0)).1, (takesGet (rNum (takeGet (s, 0)).2 8).1 (rNum (takeGet (s, 0)).2 8).2).1, rEnd (takesGet (rNum (takeGet (s, 0)).2 8).1 (rNum (takeGet (s, 0)).2 8).2).2)
def bunGetR (s : List UInt8) : (TokL × List TokL) × Int :=
  if 65536 < s.length then ((tok0, []), 3) else if (bunHeadGet s).2.2.2 ≠ 0 then ((tok0, []), (bunHeadGet s).2.2.2) else (((bunHeadGet s).1, (bunHeadGet s).2.1), 0)

theorem length_takesGet : ∀ (n : Nat) (x : RS), (takesGet n x).1.length = n
  | 0, _ => rfl
  | n + 1, x => by rw [takesGet, List.length_append, length_takesGet n x]; rfl
theorem takeGet_len (x : RS) : (takeGet x).2.1.length ≤ x.1.length := by
  have h := rText_len x 65536
  unfold takeGet
  split
  · exact h
  · exact Nat.le_trans (rFail_le _ _) h
theorem takesGet_len : ∀ (n : Nat) (x : RS), (takesGet n x).2.1.length ≤ x.1.length
  | 0, _ => Nat.le_refl _
  | n + 1, x => Nat.le_trans (takeGet_len _) (takesGet_len n x)
theorem moresPut_snoc : ∀ (m : List TokL) (d : TokL), (moresPut m).2 = 0 → (tokPutR d).2 = 0 → moresPut (m ++ [d]) = ((moresPut m).1 ++ fText (tokPutR d).1, 0)
  | [], d, _, h => by simp [moresPut, h]
  | x :: m, d, h, hd => by
    unfold moresPut at h
    split at h
    · rename_i h1
      split at h
      · rename_i h2
        have ih := moresPut_snoc m d h2 hd
        rw [List.cons_append]
        simp only [moresPut, if_pos h1, ih, h2, if_true, List.append_assoc]
      · rename_i h2; exact absurd h h2
    · rename_i h1; exact absurd h h1
theorem takeGet_put {t : TokL} (h : (tokPutR t).2 = 0) (hl : (tokPutR t).1.length ≤ 65536) (r : List UInt8) : takeGet (fText (tokPutR t).1 ++ r, 0) = (t, (r, 0)) := by
  have h1 : rText (fText (tokPutR t).1 ++ r, 0) 65536 = ((tokPutR t).1, (r, 0)) := rText_put (m := 65536) hl (by decide) r
  unfold takeGet
  rw [h1, if_neg (by simp), tokGet_put h]
  rfl
theorem moresPut_each : ∀ (m : List TokL), (moresPut m).2 = 0 → ∀ d ∈ m, (tokPutR d).2 = 0 ∧ (tokPutR d).1.length ≤ (moresPut m).1.length
  | [], _, d, hd => by cases hd
  | x :: m, h, d, hd => by
    unfold moresPut at h ⊢
    split at h
    · rename_i h1
      rw [if_pos h1]
      split at h
      · rename_i h2
        rw [if_pos h2]
        have e := len_fText (tokPutR x).1
        rcases List.mem_cons.1 hd with rfl | hd
        · exact ⟨h1, by dsimp only; rw [List.length_append]; omega⟩
        · obtain ⟨a, b⟩ := moresPut_each m h2 d hd
          exact ⟨a, by dsimp only; rw [List.length_append]; omega⟩
      · rename_i h2; exact absurd h h2
    · rename_i h1; exact absurd h h1
theorem moresPut_all : ∀ (m : List TokL), (∀ d ∈ m, (tokPutR d).2 = 0) → (moresPut m).2 = 0 ∧ (moresPut m).1 = (m.map fun d => fText (tokPutR d).1).flatten
  | [], _ => ⟨rfl, rfl⟩
  | x :: m, h => by
    obtain ⟨a, b⟩ := moresPut_all m (fun d hd => h d (by simp [hd]))
    unfold moresPut
    rw [if_pos (h x (by simp)), if_pos a]
    exact ⟨rfl, by rw [b]; rfl⟩
theorem takesGet_put : ∀ (m : List TokL) (r : List UInt8), (∀ d ∈ m, (tokPutR d).2 = 0 ∧ (tokPutR d).1.length ≤ 65536) → takesGet m.length ((m.map fun d => fText (tokPutR d).1).flatten ++ r, 0) = (m, (r, 0)) := by
  intro m
  induction m using listSnoc with
  | nil => intro r _; simp [takesGet]
  | append_singleton m d ih =>
    intro r h
    obtain ⟨h1, h2⟩ := h d (by simp)
    rw [List.length_append, List.length_singleton, takesGet, List.map_append, List.flatten_append, List.append_assoc, List.map_singleton, List.flatten_singleton, ih _ (fun e he => h e (by simp [he]))]
    dsimp only
    rw [takeGet_put h1 h2]
theorem bunPut_len {t : TokL} {m : List TokL} (h : (bunPutR t m).2 = 0) : (bunPutR t m).1.length ≤ 65536 ∧ bunPutR t m = bunPut0 t m ∧ (bunPut0 t m).2 = 0 := by
  unfold bunPutR at h ⊢
  split at h
  · cases h
  · rename_i h0
    rw [if_neg h0]
    exact ⟨by omega, rfl, h⟩
theorem bunPut0_ok {t : TokL} {m : List TokL} (h : (bunPut0 t m).2 = 0) : m.length ≤ 8 ∧ (tokPutR t).2 = 0 ∧ (moresPut m).2 = 0 ∧ (bunPut0 t m).1 = fText (tokPutR t).1 ++ (vput m.length ++ (moresPut m).1) := by
  unfold bunPut0 at h ⊢
  split at h
  · cases h
  · rename_i h1
    rw [if_neg h1]
    split at h
    · rename_i h2
      rw [if_pos h2]
      split at h
      · rename_i h3
        rw [if_pos h3]
        exact ⟨by omega, h2, h3, by dsimp only; rw [List.append_assoc]⟩
      · rename_i h3; exact absurd h h3
    · rename_i h2; exact absurd h h2
theorem bunGet_put {t : TokL} {m : List TokL} (h : (bunPutR t m).2 = 0) : bunGetR (bunPutR t m).1 = ((t, m), 0) := by
  obtain ⟨a, b, c⟩ := bunPut_len h
  obtain ⟨d, e, f, g⟩ := bunPut0_ok c
  rw [b] at a ⊢
  have hsz : (fText (tokPutR t).1).length + (moresPut m).1.length ≤ 65536 := by rw [g] at a; simp only [List.length_append] at a; omega
  have hT := len_fText (tokPutR t).1
  have hall : ∀ x ∈ m, (tokPutR x).2 = 0 ∧ (tokPutR x).1.length ≤ 65536 := fun x hx => by have := moresPut_each m f x hx; exact ⟨this.1, by omega⟩
  have e1 := takeGet_put e (by omega) (vput m.length ++ (moresPut m).1)
  have e2 : rNum (vput m.length ++ (moresPut m).1, 0) 8 = (m.length, ((moresPut m).1, 0)) := rNum_put (by omega) (by omega) _
  have e3 := takesGet_put m [] hall
  rw [List.append_nil, ← (moresPut_all m (fun x hx => (hall x hx).1)).2] at e3
  have e4 : bunHeadGet (bunPut0 t m).1 = (t, m, ([], 0)) := by
    unfold bunHeadGet
    rw [g, e1]
    dsimp only
    rw [e2]
    dsimp only
    rw [e3]
    rfl
  unfold bunGetR
  rw [if_neg (by omega), e4]
  dsimp only
  rw [if_neg (by simp)]
theorem takeGet_good {x : RS} (h : (takeGet x).2.2 = 0) : x.2 = 0 ∧ (tokPutR (takeGet x).1).2 = 0 ∧ x.1 = fText (tokPutR (takeGet x).1).1 ++ (takeGet x).2.1 := by
  unfold takeGet at h ⊢
  by_cases h0 : (rText x 65536).2.2 ≠ 0
  · rw [if_pos h0] at h; exact absurd h h0
  · rw [if_neg h0] at h ⊢
    dsimp only at h ⊢
    have h0 : (rText x 65536).2.2 = 0 := by simpa using h0
    obtain ⟨a, b, c⟩ := rText_good (m := 65536) h0
    have h1 : (tokGetR (rText x 65536).1).2 = 0 := by
      apply Classical.byContradiction
      intro h2
      exact rFail_good h2 h
    have h2 := tokPut_get h1
    rw [h1]
    refine ⟨a, by rw [h2], ?_⟩
    rw [h2]
    dsimp only
    rw [show rFail (rText x 65536).2 0 = (rText x 65536).2 from by unfold rFail; rw [if_pos (.inr rfl)]]
    exact b
theorem takesGet_good : ∀ (n : Nat) (x : RS), (takesGet n x).2.2 = 0 → x.2 = 0 ∧ (moresPut (takesGet n x).1).2 = 0 ∧ x.1 = (moresPut (takesGet n x).1).1 ++ (takesGet n x).2.1
  | 0, x, h => ⟨h, rfl, by simp [takesGet, moresPut]⟩
  | n + 1, x, h => by
    rw [takesGet] at h ⊢
    dsimp only at h ⊢
    obtain ⟨a, b, c⟩ := takeGet_good h
    obtain ⟨d, e, f⟩ := takesGet_good n x a
    rw [moresPut_snoc _ _ e b]
    exact ⟨d, rfl, by dsimp only; rw [List.append_assoc, ← c]; exact f⟩
theorem bunPut_get {s : List UInt8} (h : (bunGetR s).2 = 0) : bunPutR (bunGetR s).1.1 (bunGetR s).1.2 = (s, 0) := by
  unfold bunGetR at h ⊢
  split at h
  · cases h
  · rename_i h1
    rw [if_neg h1]
    split at h
    · rename_i h2; exact absurd h h2
    · rename_i h2
      rw [if_neg h2]
      dsimp only
      have h2 : (bunHeadGet s).2.2.2 = 0 := by simpa using h2
      have h3 : (takesGet (rNum (takeGet (s, 0)).2 8).1 (rNum (takeGet (s, 0)).2 8).2).2 = ([], 0) := rEnd_good h2
      obtain ⟨a, b, c⟩ := takesGet_good _ _ (by rw [h3])
      rw [h3, List.append_nil] at c
      obtain ⟨a2, b2, c2, _⟩ := rNum_good a
      obtain ⟨_, b3, c3⟩ := takeGet_good a2
      have hl : (bunHeadGet s).2.1.length = (rNum (takeGet (s, 0)).2 8).1 := length_takesGet _ _
      have hT : (bunHeadGet s).1 = (takeGet (s, 0)).1 := rfl
      have hM : (bunHeadGet s).2.1 = (takesGet (rNum (takeGet (s, 0)).2 8).1 (rNum (takeGet (s, 0)).2 8).2).1 := rfl
      rw [hM] at hl
      have hp : bunPut0 (bunHeadGet s).1 (bunHeadGet s).2.1 = (s, 0) := by
        rw [hT, hM]
        unfold bunPut0
        rw [if_neg (by omega), if_pos b3, if_pos b, hl, ← c, List.append_assoc, ← b2]
        dsimp only at c3
        rw [← c3]
      unfold bunPutR
      rw [hp, if_neg (by dsimp only; omega)]

/-! ### how many bytes -/
def bunSize (t : TokL) (m : List TokL) : Nat :=
  if 8 < m.length ∨ tokSize t = 0 ∨ (m.any fun d => tokSize d == 0) = true then 0
  else (vput m.length).length + ((vput (tokSize t)).length + tokSize t) + (m.map fun d => (vput (tokSize d)).length + tokSize d).sum
end Go.Proofs.YtmnpbpfeoackiaaDoor
