/-
  Chapter 6's examples hold; BoxSeals and BoxOpens return true. Condition: the package's table holds the constants.
-/
import Derived.Test.YtejhiekikblbiaaDoorMgH
namespace Go.Proofs.YtejhiekikblbiaaDoor
open Go.RowKit

def nonce0 : List UInt8 := [48, 49, 50, 51, 52, 53, 54, 55, 56, 57, 97, 98, 99, 100, 101, 102]
def text0 : List UInt8 := [116, 101, 120, 116]
set_option maxRecDepth 100000 in
set_option maxHeartbeats 4000000 in
theorem bxworks_any (w : World) (hT : Tab w) : Calls Tryd.prog 19 #[] w fun e w' => e = .returned (.bool true) ∧ Ext w w' := by
  obtain ⟨B, hB⟩ : ∃ B, boxL [107] nonce0 text0 = B := ⟨_, rfl⟩
  have lB : B.length = 52 := by rw [← hB, length_boxL]; rfl
  have h1 : openR [107] B = (text0, 0) := by rw [← hB]; exact open_box _ _ _ rfl (by decide)
  have h2 : openR [106] B = ([], 8) := by rw [← hB]; exact j_opens
  have h3 : nonceL B = nonce0 := by unfold nonceL; rw [if_neg (by omega), ← hB]; unfold boxL boxBody; rw [List.append_assoc]; exact List.take_left' rfl
  have c1 := Kp.mk (show ∀ W, Tab W → Calls Tryd.prog 20 #[.string ⟨#[107]⟩, .string ⟨#[48, 49, 50, 51, 52, 53, 54, 55, 56, 57, 97, 98, 99, 100, 101, 102]⟩, .string ⟨#[116, 101, 120, 116]⟩] W fun e w' => e = .returned (.tuple #[.string (ofL B), .int .i64 0]) ∧ Ext W w' from fun W h => by
    have q := seal_box [107] nonce0 text0 W h (by decide)
    rw [sealR_ok rfl (by decide), hB] at q
    exact q)
  have c2 := Kp.mk (show ∀ W, Tab W → Calls Tryd.prog 21 #[.string ⟨#[107]⟩, .string (ofL B)] W fun e w' => e = .returned (.tuple #[.string ⟨#[116, 101, 120, 116]⟩, .int .i64 0]) ∧ Ext W w' from fun W h => by
    have q := open_any [107] B W h (by decide)
    rw [h1] at q
    exact q)
  have c3 := Kp.mk (show ∀ W, Tab W → Calls Tryd.prog 21 #[.string ⟨#[106]⟩, .string (ofL B)] W fun e w' => e = .returned (.tuple #[.string ⟨#[]⟩, .int .i64 8]) ∧ Ext W w' from fun W h => by
    have q := open_any [106] B W h (by decide)
    rw [h2] at q
    exact q)
  have c4 := Kp.mk (show ∀ W, Tab W → Calls Tryd.prog 20 #[.string ⟨#[107]⟩, .string ⟨#[115, 104, 111, 114, 116]⟩, .string ⟨#[116, 101, 120, 116]⟩] W fun e w' => e = .returned (.tuple #[.string ⟨#[]⟩, .int .i64 7]) ∧ Ext W w' from fun W h => by
    have q := seal_box [107] [115, 104, 111, 114, 116] text0 W h (by decide)
    rw [sealR_arg (by decide)] at q
    exact q)
  have c5 := Kp.mk (show ∀ W, Calls Tryd.prog 48 #[.string (ofL B)] W fun e w' => e = .returned (.string ⟨#[48, 49, 50, 51, 52, 53, 54, 55, 56, 57, 97, 98, 99, 100, 101, 102]⟩) ∧ Ext W w' from fun W => by
    have q := nonce_any B W
    rw [h3] at q
    exact q)
  have zB : (ofL B).size = 52 := by rw [size_ofL, lB]
  clear hB h1 h2 h3
  go_enter Tryd.func19, Tryd.ntmps19
  go_wp2_with fail
  refine (c1.out _ hT).mono ?_
  rintro e w1 ⟨rfl, E1⟩
  go_wp2_with fail
  refine (c2.out _ (hT.ext E1)).mono ?_
  rintro e w2 ⟨rfl, E2⟩
  have F2 := E1.tr E2
  go_wp2_with fail
  refine (c3.out _ (hT.ext F2)).mono ?_
  rintro e w3 ⟨rfl, E3⟩
  have F3 := F2.tr E3
  go_wp2_with fail
  refine (c4.out _ (hT.ext F3)).mono ?_
  rintro e w4 ⟨rfl, E4⟩
  have F4 := F3.tr E4
  go_wp2_with fail
  refine (c5.out _).mono ?_
  rintro e w5 ⟨rfl, E5⟩
  have F5 := F4.tr E5
  go_wp2
  go_ret
  exact ⟨rfl, F5⟩

end Go.Proofs.YtejhiekikblbiaaDoor
