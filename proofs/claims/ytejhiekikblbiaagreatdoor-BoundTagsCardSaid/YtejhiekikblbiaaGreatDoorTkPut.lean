/-
  A bundle's text has room for the tags that its proof reckons. No program in sight.
-/
import Derived.Test.YtejhiekikblbiaaGreatDoorTkDef
import Derived.Test.YtejhiekikblbiaaGreatDoorMgL
namespace Go.Proofs.YtejhiekikblbiaaGreatDoor
open Go.RowKit

/-! ### a text has room for the tags that its proof reckons -/
theorem len_linkPut (x : LinkL) : 2 + (if x.2 = [] then 0 else 2) ≤ (linkPut x).length := by
  unfold linkPut
  have h1 := len_fText x.1
  have h2 := len_fText x.2
  split
  · rw [List.length_cons]; omega
  · rename_i h
    have h3 : 0 < x.2.length := List.length_pos_iff.2 h
    rw [List.length_cons, List.length_append]; omega
theorem len_linksPut : ∀ l : List LinkL, 2 * (l.length + sealed l) ≤ (linksPut l).length
  | [] => by simp [sealed, linksPut]
  | x :: l => by
    have h1 := len_linkPut x
    have h2 := len_linksPut l
    rw [show linksPut (x :: l) = linkPut x ++ linksPut l from rfl, List.length_append, sealed_cons, List.length_cons]
    split <;> simp_all <;> omega
theorem len_tokPut {t : TokL} (h : (tokPutR t).2 = 0) : 2 * (mostT t + 1) ≤ (tokPutR t).1.length := by
  unfold tokPutR at h ⊢
  split at h
  · cases h
  · rename_i h1
    rw [if_neg h1]
    split at h
    · rename_i h2
      rw [if_pos h2]
      have := len_linksPut t.links
      unfold tokHead mostT
      simp only [List.length_append]
      omega
    · cases h
theorem len_moresPut : ∀ m : List TokL, (moresPut m).2 = 0 → 2 * (m.map fun d => mostT d + 1).sum ≤ (moresPut m).1.length
  | [], _ => by simp
  | d :: r, h => by
    unfold moresPut at h ⊢
    split at h
    · rename_i h1
      rw [if_pos h1]
      split at h
      · rename_i h2
        rw [if_pos h2]
        have e1 := len_tokPut h1
        have e2 := len_moresPut r h2
        have e3 := len_fText (tokPutR d).1
        simp only [List.map_cons, List.sum_cons, List.length_append]
        omega
      · rename_i h2; exact absurd h h2
    · rename_i h1; exact absurd h h1
theorem bunPut_most {t : TokL} {more : List TokL} (h : (bunPutR t more).2 = 0) : mostL t more ≤ (bunPutR t more).1.length / 2 := by
  unfold bunPutR at h ⊢
  split at h
  · cases h
  · rename_i h0
    rw [if_neg h0]
    unfold bunPut0 at h ⊢
    split at h
    · cases h
    · rename_i h1
      rw [if_neg h1]
      split at h
      · rename_i h2
        rw [if_pos h2]
        split at h
        · rename_i h3
          rw [if_pos h3]
          have e1 := len_tokPut h2
          have e2 := len_moresPut more h3
          have e3 := len_fText (tokPutR t).1
          unfold mostL
          simp only [List.length_append]
          omega
        · rename_i h3; exact absurd h h3
      · rename_i h2; exact absurd h h2
end Go.Proofs.YtejhiekikblbiaaGreatDoor
