/-
  Package hmac: a hidden key, a tag, the tag of parts, two tags held against each other. Conditions: the package's table holds the constants; at most 800000 bytes.
-/
import Derived.Test.YteffocenfkcofaaDoorHm4
import Derived.Test.YteffocenfkcofaaDoorSha14
namespace Go.Proofs.YteffocenfkcofaaDoor
open Go.RowKit

theorem padk (k : List UInt8) (w : World) (hk : k.length ≤ 64) : Calls Tryd.prog 77 #[.string (ofL k), .int .i64 64] w fun e w' => e = .returned (.string (ofL (padL k 64))) ∧ Ext w w' := by
  have h := pad_any (ofL k) 64 w (by rw [size_ofL]; omega)
  rw [toL_ofL] at h
  exact h
theorem repeatL_one (b : UInt8) : ∀ n, Lib.repeatL [b] n = List.replicate n b
  | 0 => rfl
  | n + 1 => by rw [Lib.repeatL, repeatL_one b n, List.replicate_succ]; rfl
theorem rep64 (b : UInt8) (w : World) : Calls Tryd.prog 78 #[.string (ofL [b]), .int .i64 64] w fun e w' => e = .returned (.string (ofL (List.replicate 64 b))) ∧ Ext w w' := by
  have h := Tryd.strings_Repeat (ofL [b]) 64 w (by omega) (by rw [size_ofL]; simp)
  refine h.mono ?_
  rintro e w' ⟨rfl, hE⟩
  refine ⟨?_, hE⟩
  rw [show (ofL [b]).data.toList = [b] from rfl, repeatL_one]
  rfl
theorem xork (a c : List UInt8) (w : World) (ha : a.length ≤ 1000000) (hc : c.length ≤ 1000000) : Calls Tryd.prog 66 #[.string (ofL a), .string (ofL c)] w fun e w' => e = .returned (.string (ofL (xorL a c))) ∧ Ext w w' := by
  have h := xor_any (ofL a) (ofL c) w (by rw [size_ofL]; omega) (by rw [size_ofL]; omega)
  rw [toL_ofL, toL_ofL] at h
  exact h
theorem length_pad64 (k : List UInt8) (hk : k.length ≤ 64) : (padL k 64).length = 64 := by rw [padL_64]; simp; omega
theorem str_one {w : World} {g : Nat} {b : UInt8} (h : w.cell? ⟨g, 0, none⟩ = some (.int .u8 b.toNat)) : (convert 77 9 (.slice (some ⟨g, 0, none⟩) 1 1)).run Tryd.prog w = .ok (.string (ofL [b])) w :=
  run_str_cells w _ _ _ Tryd.underlying77 Tryd.underlying5 Tryd.underlying9 ⟨g, 0, none⟩ 1 1 [b] rfl (fun j u hu => by
    match j, hu with
    | 0, hu => rw [← Option.some.inj hu]; exact h)

set_option maxRecDepth 100000 in
set_option maxHeartbeats 2000000 in
theorem hide_any (k : List UInt8) (b : UInt8) (w : World) (hk : k.length ≤ 64) : Calls Tryd.prog 52 #[.string (ofL k), .int .u8 b.toNat] w fun e w' => e = .returned (.string (ofL (hideL k b))) ∧ Ext w w' := by
  have hb := b.toNat_lt
  obtain ⟨P, hP⟩ : ∃ P, padL k 64 = P := ⟨_, rfl⟩
  obtain ⟨R, hR⟩ : ∃ R, List.replicate 64 b = R := ⟨_, rfl⟩
  obtain ⟨X, hX⟩ : ∃ X, hideL k b = X := ⟨_, rfl⟩
  have cp : ∀ w, Calls Tryd.prog 77 #[.string (ofL k), .int .i64 64] w fun e w' => e = .returned (.string (ofL P)) ∧ Ext w w' := fun w => by rw [← hP]; exact padk k w hk
  have cr : ∀ w, Calls Tryd.prog 78 #[.string (ofL [b]), .int .i64 64] w fun e w' => e = .returned (.string (ofL R)) ∧ Ext w w' := fun w => by rw [← hR]; exact rep64 b w
  have cx : ∀ w, Calls Tryd.prog 66 #[.string (ofL P), .string (ofL R)] w fun e w' => e = .returned (.string (ofL X)) ∧ Ext w w' := fun w => by
    have h := xork P R w (by rw [← hP, length_pad64 k hk]; omega) (by rw [← hR]; simp)
    rw [← hP, ← hR] at h
    rw [← hP, ← hR, ← hX]
    exact h
  rw [hX]
  have CP := Lib.hid cp; have CR := Lib.hid cr; have CX := Lib.hid cx
  clear cp cr cx hP hR hX
  go_enter Tryd.func52, Tryd.ntmps52
  go_upto_region 1 with fail
  refine wp_region_locals (fun i v W => match i with
    | 0 => v = .string (ofL k)
    | 1 => v = .string (ofL P)
    | 2 => v = .int .u8 b.toNat
    | 3 => ∃ g, v = .slice (some ⟨g, 0, none⟩) 1 1 ∧ W.cell? ⟨g, 0, none⟩ = some (.int .u8 b.toNat)
    | 4 => v = .string (ofL [b])
    | 5 => v = .string (ofL R)
    | 6 => v = .string (ofL X)
    | 7 => v = .string (ofL X)
    | _ => True) (by kernel_rfl) (by kernel_rfl) (by kernel_rfl) ?_ ?_ ?_
  · intro i v W1 W2 e1 e2 h
    match i, h with
    | 0, h => exact h
    | 1, h => exact h
    | 2, h => exact h
    | 3, ⟨b, h1, h2⟩ => exact ⟨b, h1, ((bcell e2).1 b 0 (World.block_lt_of_cell? _ _ h2)).trans h2⟩
    | 4, h => exact h
    | 5, h => exact h
    | 6, h => exact h
    | 7, h => exact h
    | (i + 8), h => exact h
  · refine locals_cons (fun u W hW hd => leaves_val rfl (v := .string (ofL k)) (by go_simp) rfl) ?_
    refine locals_cons (fun u W hW hd => ?_) ?_
    · have h0 : u 0 = _ := hd 0 (by kernel_rfl)
      exact leaves_call rfl (f := 77) (args := #[.string (ofL k), .int .i64 64]) (by go_simp) ((CP.out W).mono (by rintro e9 W9 ⟨rfl, h9⟩; exact ⟨_, rfl, h9, rfl⟩))
    refine locals_cons (fun u W hW hd => leaves_val rfl (v := .int .u8 b.toNat) (by go_simp) rfl) ?_
    refine locals_cons (fun u W hW hd => ?_) ?_
    · have h2 : u 2 = _ := hd 2 (by kernel_rfl)
      exact leaves_new rfl (v := .slice (some ⟨W.heap.size, 0, none⟩) 1 1) (by go_simp; rfl) ((Ext.rfl' W).al _) ⟨_, rfl, by simp [go_sem]⟩
    refine locals_cons (fun u W hW hd => ?_) ?_
    · obtain ⟨b3, h3, k3_0⟩ := hd 3 (by kernel_rfl)
      have hc := str_one k3_0
      exact leaves_val rfl (v := .string (ofL [b])) (by go_simp) rfl
    refine locals_cons (fun u W hW hd => ?_) ?_
    · have h4 : u 4 = _ := hd 4 (by kernel_rfl)
      exact leaves_call rfl (f := 78) (args := #[.string (ofL [b]), .int .i64 64]) (by go_simp) ((CR.out W).mono (by rintro e9 W9 ⟨rfl, h9⟩; exact ⟨_, rfl, h9, rfl⟩))
    refine locals_cons (fun u W hW hd => ?_) ?_
    · have h1 : u 1 = _ := hd 1 (by kernel_rfl)
      have h5 : u 5 = _ := hd 5 (by kernel_rfl)
      exact leaves_call rfl (f := 66) (args := #[.string (ofL P), .string (ofL R)]) (by go_simp) ((CX.out W).mono (by rintro e9 W9 ⟨rfl, h9⟩; exact ⟨_, rfl, h9, rfl⟩))
    refine locals_cons (fun u W hW hd => ?_) locals_nil
    · have h6 : u 6 = _ := hd 6 (by kernel_rfl)
      exact leaves_val rfl (v := .string (ofL X)) (by go_simp) rfl
  · intro u W hW hV
    have h7 : u 7 = .string (ofL X) := hV 7 (by decide)
    clear hV CP CR CX
    go_wp2
    exact bodyPost_ret (v := .string (ofL X)) (by simp [results, Tryd.results52, go_sem, h7]) rfl ⟨rfl, hW⟩

theorem append0 (I : List UInt8) : ([] : List UInt8) ++ I = I := rfl
set_option maxRecDepth 100000 in
set_option maxHeartbeats 2000000 in
theorem hmac_any (k s : List UInt8) (w : World) (hT : Tab w) (hk : k.length ≤ 800000) (hs : s.length ≤ 800000) : Calls Tryd.prog 14 #[.string (ofL k), .string (ofL s)] w fun e w' => e = .returned (.string (ofL (hmacL k s))) ∧ Ext w w' := by
  obtain ⟨K, hK⟩ : ∃ K, keyL k = K := ⟨_, rfl⟩
  have hK64 : K.length ≤ 64 := by
    rw [← hK]; unfold keyL
    split
    · rw [length_sumL]; omega
    · omega
  obtain ⟨I, hI⟩ : ∃ I, hideL K 54 = I := ⟨_, rfl⟩
  obtain ⟨D, hD⟩ : ∃ D, hideL K 92 = D := ⟨_, rfl⟩
  obtain ⟨U, hU⟩ : ∃ U, sumL (I ++ s) = U := ⟨_, rfl⟩
  have lI : I.length = 64 := by rw [← hI, length_hideL]
  have lD : D.length = 64 := by rw [← hD, length_hideL]
  have lU : U.length = 32 := by rw [← hU, length_sumL]
  obtain ⟨V, hV⟩ : ∃ V, sumL (D ++ U) = V := ⟨_, rfl⟩
  have hR : hmacL k s = V := by
    unfold hmacL outerL innerL
    rw [hK, hI, hD, hU, hV]
  rw [hR]
  have c54 := Kp.mk (show ∀ w, Calls Tryd.prog 52 #[.string (ofL K), .int .u8 54] w fun e w' => e = .returned (.string (ofL I)) ∧ Ext w w' from fun w => by rw [← hI]; exact hide_any K 54 w hK64)
  have c92 := Kp.mk (show ∀ w, Calls Tryd.prog 52 #[.string (ofL K), .int .u8 92] w fun e w' => e = .returned (.string (ofL D)) ∧ Ext w w' from fun w => by rw [← hD]; exact hide_any K 92 w hK64)
  have cS := Kp.mk (show ∀ w p, Tab w → HashAt w p (I ++ s) → Calls Tryd.prog 53 #[.pointer (some ⟨p, 0, none⟩)] w fun e w' => e = .returned (.string (ofL U)) ∧ Ext w w' from fun w p h1 h2 => by rw [← hU]; exact hsum_any p _ w h1 h2 (by rw [List.length_append]; omega))
  have cV := Kp.mk (show ∀ w, Tab w → Calls Tryd.prog 49 #[.string (ofL (D ++ U))] w fun e w' => e = .returned (.string (ofL V)) ∧ Ext w w' from fun w h1 => by rw [← hV]; exact sum_any _ w h1 (by rw [List.length_append]; omega))
  have a1 := Kp.mk (ofL_append D U)
  have z1 : (ofL D).size = 64 := by rw [size_ofL, lD]
  have z2 : (ofL U).size = 32 := by rw [size_ofL, lU]
  have hTw := hT.1
  clear hI hD hU hV hR
  by_cases h64 : 64 < k.length
  · have hk2 : K = sumL k := by rw [← hK]; unfold keyL; rw [if_pos h64]
    have cK := Kp.mk (show ∀ w, Tab w → Calls Tryd.prog 49 #[.string (ofL k)] w fun e w' => e = .returned (.string (ofL K)) ∧ Ext w w' from fun w h1 => by rw [hk2]; exact sum_any k w h1 (by omega))
    clear hk2 hK
    go_enter Tryd.func14, Tryd.ntmps14
    go_wp2_with fail
    refine (cK.out _ hT).mono ?_
    rintro e w1 ⟨rfl, E1⟩
    go_wp2_with fail
    refine (new_any _).mono ?_
    rintro e w2 ⟨p, rfl, hp, H2, E2⟩
    have hp' : w.heap.size ≤ p := by have := E1.size; omega
    have E2' := E1.tr E2
    clear E1 E2 hp
    go_wp2_with fail
    refine (c54.out _).mono ?_
    rintro e w3 ⟨rfl, E3⟩
    have H3 : HashAt w3 p [] := H2.ext E3 H2.lt
    have E3' := E2'.tr E3
    clear H2 E2' E3
    go_wp2_with fail
    refine (add_any p [] I _ (hT.ext E3') (by omega) H3 (by rw [lI]; simp)).mono ?_
    rintro e w4 ⟨rfl, H4, G4⟩
    rw [append0] at H4
    have E4 := E3'.gr G4 (fun j e => by cases e; exact hp')
    clear H3 E3' G4
    go_wp2_with fail
    refine (add_any p I s _ (hT.ext E4) (by omega) H4 (by rw [lI]; omega)).mono ?_
    rintro e w5 ⟨rfl, H5, G5⟩
    have E5 := E4.gr G5 (fun j e => by cases e; exact hp')
    clear H4 E4 G5
    go_wp2_with fail
    refine (c92.out _).mono ?_
    rintro e w6 ⟨rfl, E6⟩
    have H6 : HashAt w6 p (I ++ s) := H5.ext E6 H5.lt
    have E6' := E5.tr E6
    clear H5 E5 E6
    go_wp2_with fail
    refine (cS.out _ _ (hT.ext E6') H6).mono ?_
    rintro e w7 ⟨rfl, E7⟩
    have E7' := E6'.tr E7
    have b1 := a1.out
    clear H6 E6' E7
    go_wp2_with fail
    refine (cV.out _ (hT.ext E7')).mono ?_
    rintro e w8 ⟨rfl, E8⟩
    clear b1
    go_wp2
    go_ret
    exact ⟨rfl, E7'.tr E8⟩
  · have hk2 : K = k := by rw [← hK]; unfold keyL; rw [if_neg h64]
    clear hK
    subst hk2
    go_enter Tryd.func14, Tryd.ntmps14
    go_wp2_with fail
    refine (new_any _).mono ?_
    rintro e w2 ⟨p, rfl, hp', H2, E2'⟩
    go_wp2_with fail
    refine (c54.out _).mono ?_
    rintro e w3 ⟨rfl, E3⟩
    have H3 : HashAt w3 p [] := H2.ext E3 H2.lt
    have E3' := E2'.tr E3
    clear H2 E2' E3
    go_wp2_with fail
    refine (add_any p [] I _ (hT.ext E3') (by omega) H3 (by rw [lI]; simp)).mono ?_
    rintro e w4 ⟨rfl, H4, G4⟩
    rw [append0] at H4
    have E4 := E3'.gr G4 (fun j e => by cases e; exact hp')
    clear H3 E3' G4
    go_wp2_with fail
    refine (add_any p I s _ (hT.ext E4) (by omega) H4 (by rw [lI]; omega)).mono ?_
    rintro e w5 ⟨rfl, H5, G5⟩
    have E5 := E4.gr G5 (fun j e => by cases e; exact hp')
    clear H4 E4 G5
    go_wp2_with fail
    refine (c92.out _).mono ?_
    rintro e w6 ⟨rfl, E6⟩
    have H6 : HashAt w6 p (I ++ s) := H5.ext E6 H5.lt
    have E6' := E5.tr E6
    clear H5 E5 E6
    go_wp2_with fail
    refine (cS.out _ _ (hT.ext E6') H6).mono ?_
    rintro e w7 ⟨rfl, E7⟩
    have E7' := E6'.tr E7
    have b1 := a1.out
    clear H6 E6' E7
    go_wp2_with fail
    refine (cV.out _ (hT.ext E7')).mono ?_
    rintro e w8 ⟨rfl, E8⟩
    clear b1
    go_wp2
    go_ret
    exact ⟨rfl, E7'.tr E8⟩

theorem parts_any (k : List UInt8) (l : List (List UInt8)) (v : Value) (w : World) (hT : Tab w) (hk : k.length ≤ 800000) (h : Rd w w.heap.size 1 v l.length (l.map Str)) (hlen : (frameL l).length ≤ 800000) :
    Calls Tryd.prog 47 #[.string (ofL k), v] w fun e w' => e = .returned (.string (ofL (hmacL k (frameL l)))) ∧ Ext w w' := by
  obtain ⟨X, hX⟩ : ∃ X, hmacL k (frameL l) = X := ⟨_, rfl⟩
  have cH := Kp.mk (show ∀ w, Tab w → Calls Tryd.prog 14 #[.string (ofL k), .string (ofL (frameL l))] w fun e w' => e = .returned (.string (ofL X)) ∧ Ext w w' from fun w h1 => by rw [← hX]; exact hmac_any k _ w h1 hk hlen)
  have cF := Kp.mk (frame_any l v w h (by omega))
  rw [hX]
  clear hX h hlen
  go_enter Tryd.func47, Tryd.ntmps47
  go_wp2_with fail
  refine cF.out.mono ?_
  rintro e w1 ⟨rfl, E1⟩
  go_wp2_with fail
  refine (cH.out _ (hT.ext E1)).mono ?_
  rintro e w2 ⟨rfl, E2⟩
  go_wp2
  go_ret
  exact ⟨rfl, E1.tr E2⟩

theorem same_any (a b : List UInt8) (w : World) (ha : a.length ≤ 1000000) (hb : b.length ≤ 1000000) : Calls Tryd.prog 48 #[.string (ofL a), .string (ofL b)] w fun e w' => e = .returned (.bool (decide (a.length = 32) && (a == b))) ∧ Ext w w' := by
  have h := equal_any (ofL a) (ofL b)
  have cE := Kp.mk (show ∀ w, Calls Tryd.prog 71 #[.string (ofL a), .string (ofL b)] w fun e w' => e = .returned (.bool (a == b)) ∧ Ext w w' from fun w => by
    have h := equal_any (ofL a) (ofL b) w (by rw [size_ofL]; unfold maxLen; omega) (by rw [size_ofL]; unfold maxLen; omega)
    rw [toL_ofL, toL_ofL] at h
    exact h)
  obtain ⟨q, hq⟩ : ∃ q, (a == b) = q := ⟨_, rfl⟩
  rw [hq] at cE ⊢
  clear hq h
  by_cases h32 : a.length = 32
  · have d : ((a.length : Int) == 32) = true := by simp; omega
    rw [decide_eq_true h32, Bool.true_and]
    clear h32
    go_enter Tryd.func48, Tryd.ntmps48
    go_wp2_with fail
    refine (cE.out _).mono ?_
    rintro e w1 ⟨rfl, E1⟩
    go_wp2
    go_ret
    exact ⟨rfl, E1⟩
  · have d : ((a.length : Int) == 32) = false := by simp; omega
    rw [decide_eq_false h32, Bool.false_and]
    clear h32
    go_enter Tryd.func48, Tryd.ntmps48
    go_wp2
    go_ret
    exact ⟨rfl, Ext.rfl' _⟩
end Go.Proofs.YteffocenfkcofaaDoor
