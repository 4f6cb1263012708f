/-
  Package bundle in plain words: what is put, token by token. No program in sight.
-/
import Derived.Test.YtejhiekikblbiaaGreatDoorTk2
namespace Go.Proofs.YtejhiekikblbiaaGreatDoor
open Go.RowKit

def pAt (l : List TokL) (k : Nat) : List UInt8 := ((l.take k).map fun d => fText (tokPutR d).1).flatten
/-- What is written behind k tokens. -/
def bunAcc (t : TokL) (more : List TokL) : Nat → List UInt8
  | 0 => []
  | k + 1 => fText (tokPutR t).1 ++ vput more.length ++ pAt more k
/-- The k-th of all tokens. -/
def bunTok (t : TokL) (more : List TokL) : Nat → TokL
  | 0 => t
  | k + 1 => more.getD k t
theorem pAt_step (l : List TokL) (k : Nat) (h : k < l.length) : pAt l (k + 1) = pAt l k ++ fText (tokPutR l[k]).1 := by
  unfold pAt
  rw [List.take_succ_eq_append_getElem h, List.map_append, List.flatten_append]
  simp
theorem moresPut_fail : ∀ (m : List TokL) (k : Nat) (h : k < m.length), (∀ j (hj : j < m.length), j < k → (tokPutR m[j]).2 = 0) → (tokPutR m[k]).2 ≠ 0 → (moresPut m).2 = (tokPutR m[k]).2
  | [], k, h, _, _ => by simp at h
  | d :: r, 0, h, _, h0 => by
    unfold moresPut
    have h0' : (tokPutR d).2 ≠ 0 := h0
    rw [if_neg h0']
    rfl
  | d :: r, k + 1, h, ha, h0 => by
    have hd : (tokPutR d).2 = 0 := ha 0 (by simp) (by omega)
    have ih := moresPut_fail r k (by simpa using h) (fun j hj hlt => by
      have := ha (j + 1) (by simpa using hj) (by omega)
      simpa using this) (by simpa using h0)
    have hk' : k < r.length := by simpa using h
    have h0' : (tokPutR (r[k]'hk')).2 ≠ 0 := by simpa using h0
    unfold moresPut
    rw [if_pos hd, if_neg (by rw [ih]; exact h0')]
    simp only [List.getElem_cons_succ]
    exact ih
theorem moresPut_ok : ∀ (m : List TokL), (∀ j (hj : j < m.length), (tokPutR m[j]).2 = 0) → moresPut m = (pAt m m.length, 0)
  | [], _ => rfl
  | d :: r, h => by
    have hd : (tokPutR d).2 = 0 := h 0 (by simp)
    have ih := moresPut_ok r (fun j hj => by
      have := h (j + 1) (by simpa using hj)
      simpa using this)
    unfold moresPut
    rw [if_pos hd, ih]
    simp [pAt]
theorem bunTok_get (t : TokL) (more : List TokL) (j : Nat) (hj : j < more.length) : bunTok t more (j + 1) = more[j] := by
  show more.getD j t = _
  rw [List.getD_eq_getElem?_getD, List.getElem?_eq_getElem hj]; rfl
/-- The k-th fails, the earlier ones do not. -/
theorem bunPut0_fail (t : TokL) (more : List TokL) (k : Nat) (h8 : more.length ≤ 8) (hk : k < 1 + more.length) (ha : ∀ j, j < k → (tokPutR (bunTok t more j)).2 = 0) (h0 : (tokPutR (bunTok t more k)).2 ≠ 0) : bunPut0 t more = ([], (tokPutR (bunTok t more k)).2) := by
  unfold bunPut0
  rw [if_neg (by omega)]
  cases k with
  | zero =>
    have h0' : (tokPutR t).2 ≠ 0 := h0
    rw [if_neg h0']; rfl
  | succ k =>
    have ht : (tokPutR t).2 = 0 := ha 0 (by omega)
    rw [bunTok_get t more k (by omega)] at h0 ⊢
    have hf := moresPut_fail more k (by omega) (fun j hj hlt => by
      have := ha (j + 1) (by omega)
      rw [bunTok_get t more j hj] at this
      exact this) h0
    rw [if_pos ht, if_neg (by rw [hf]; exact h0), hf]
theorem bunPut_fail (t : TokL) (more : List TokL) (k : Nat) (h8 : more.length ≤ 8) (hk : k < 1 + more.length) (ha : ∀ j, j < k → (tokPutR (bunTok t more j)).2 = 0) (h0 : (tokPutR (bunTok t more k)).2 ≠ 0) : bunPutR t more = ([], (tokPutR (bunTok t more k)).2) := by
  unfold bunPutR
  rw [bunPut0_fail t more k h8 hk ha h0, if_neg (fun h => h0 h.1)]
/-- None fails. -/
theorem bunPut0_all (t : TokL) (more : List TokL) (h8 : more.length ≤ 8) (ha : ∀ j, j < 1 + more.length → (tokPutR (bunTok t more j)).2 = 0) : bunPut0 t more = (bunAcc t more (1 + more.length), 0) := by
  have ht : (tokPutR t).2 = 0 := ha 0 (by omega)
  have hm := moresPut_ok more (fun j hj => by
    have := ha (j + 1) (by omega)
    rw [bunTok_get t more j hj] at this
    exact this)
  unfold bunPut0
  rw [if_neg (by omega), if_pos ht, hm, if_pos rfl, show 1 + more.length = more.length + 1 by omega]
  rfl
theorem bunPut_all (t : TokL) (more : List TokL) (h8 : more.length ≤ 8) (ha : ∀ j, j < 1 + more.length → (tokPutR (bunTok t more j)).2 = 0) :
    bunPutR t more = if 65536 < (bunAcc t more (1 + more.length)).length then ([], 3) else (bunAcc t more (1 + more.length), 0) := by
  unfold bunPutR
  rw [bunPut0_all t more h8 ha]
  by_cases h : 65536 < (bunAcc t more (1 + more.length)).length
  · rw [if_pos ⟨rfl, h⟩, if_pos h]
  · rw [if_neg (fun h2 => h h2.2), if_neg h]
theorem bunAcc_step (t : TokL) (more : List TokL) (k : Nat) (hk : k < 1 + more.length) : bunAcc t more (k + 1) = bunAcc t more k ++ fText (tokPutR (bunTok t more k)).1 ++ (if k = 0 then vput more.length else []) := by
  cases k with
  | zero => simp [bunAcc, bunTok, pAt]
  | succ k =>
    rw [bunTok_get t more k (by omega), if_neg (by omega), List.append_nil]
    show fText (tokPutR t).1 ++ vput more.length ++ pAt more (k + 1) = fText (tokPutR t).1 ++ vput more.length ++ pAt more k ++ _
    rw [pAt_step more k (by omega)]
    simp only [List.append_assoc]
/-- A token that is put well is short. -/
theorem put_ok_len {t : TokL} (h : (tokPutR t).2 = 0) : (tokPutR t).1.length ≤ 600000 := by
  unfold tokPutR at h ⊢
  split at h
  · cases h
  · rename_i hb
    rw [if_neg hb]
    have hb : tokBad t = false := by simpa using hb
    split at h
    · rename_i ht
      rw [if_pos ht]
      unfold tokBad at hb
      rw [Bool.or_eq_false_iff, Bool.or_eq_false_iff, decide_eq_false_iff_not, decide_eq_false_iff_not] at hb
      obtain ⟨⟨h1, h2⟩, h3⟩ := hb
      have hl : ∀ l : List LinkL, l.any longL = false → (linksPut l).length ≤ 8309 * l.length := by
        intro l
        induction l with
        | nil => intro _; simp [linksPut]
        | cons x l ih =>
          intro h
          rw [List.any_cons, Bool.or_eq_false_iff] at h
          have ih := ih h.2
          have hx := h.1
          have e1 := fText_len x.1; have e2 := fText_len x.2
          have e3 : (linkPut x).length ≤ 8309 := by
            unfold longL at hx
            unfold linkPut
            split
            · rename_i hn
              rw [if_pos hn, decide_eq_false_iff_not] at hx
              rw [List.length_cons]; omega
            · rename_i hn
              rw [if_neg hn, Bool.or_eq_false_iff, decide_eq_false_iff_not, decide_eq_false_iff_not] at hx
              rw [List.length_cons, List.length_append]; omega
          rw [show linksPut (x :: l) = linkPut x ++ linksPut l from rfl, List.length_append, List.length_cons]
          omega
      have := hl _ h3
      have := fText_len t.id; have := length_vput t.links.length
      unfold tokHead
      simp only [List.length_append]
      omega
    · cases h
theorem bunAcc_len (t : TokL) (more : List TokL) (k : Nat) (hk : k ≤ 1 + more.length) (ha : ∀ j, j < k → (tokPutR (bunTok t more j)).2 = 0) : (bunAcc t more k).length ≤ 700000 * k := by
  induction k with
  | zero => simp [bunAcc]
  | succ k ih =>
    rw [bunAcc_step t more k (by omega), List.length_append, List.length_append]
    have := ih (by omega) (fun j hj => ha j (by omega))
    have := put_ok_len (ha k (by omega))
    have := fText_len (tokPutR (bunTok t more k)).1
    have := length_vput more.length
    split
    · omega
    · simp; omega
end Go.Proofs.YtejhiekikblbiaaGreatDoor
