/-
  Package hmac: a hidden key, a tag, the tag of parts, two tags held against each other. Conditions: the package's table holds the constants; at most 800000 bytes. · Package hmac's reference: keys, texts, tags, parts. Condition: at most 800000 bytes. · Package hmac's reference: tags of texts and of parts; the parts of a frame. Condition: at most 800000 bytes. · Chapter 4's helpers: are the texts few and short; do two unlike texts have one sum. Conditions: texts of at most 800000 bytes for the second.
-/
import Derived.Test.YtejhiekikblbiaaGreatDoorMgD
import Derived.Test.YtejhiekikblbiaaGreatDoorSha14
namespace Go.Proofs.YtejhiekikblbiaaGreatDoor
open Go.RowKit

theorem padk (k : List UInt8) (w : World) (hk : k.length ≤ 64) : Calls Tryz.prog 140 #[.string (ofL k), .int .i64 64] w fun e w' => e = .returned (.string (ofL (padL k 64))) ∧ Ext w w' := by
  have h := pad_any (ofL k) 64 w (by rw [size_ofL]; omega)
  rw [toL_ofL] at h
  exact h
theorem repeatL_one (b : UInt8) : ∀ n, Lib.repeatL [b] n = List.replicate n b
  | 0 => rfl
  | n + 1 => by rw [Lib.repeatL, repeatL_one b n, List.replicate_succ]; rfl
theorem rep64 (b : UInt8) (w : World) : Calls Tryz.prog 141 #[.string (ofL [b]), .int .i64 64] w fun e w' => e = .returned (.string (ofL (List.replicate 64 b))) ∧ Ext w w' := by
  have h := Tryz.strings_Repeat (ofL [b]) 64 w (by omega) (by rw [size_ofL]; simp)
  refine h.mono ?_
  rintro e w' ⟨rfl, hE⟩
  refine ⟨?_, hE⟩
  rw [show (ofL [b]).data.toList = [b] from rfl, repeatL_one]
  rfl
theorem xork (a c : List UInt8) (w : World) (ha : a.length ≤ 1000000) (hc : c.length ≤ 1000000) : Calls Tryz.prog 110 #[.string (ofL a), .string (ofL c)] w fun e w' => e = .returned (.string (ofL (xorL a c))) ∧ Ext w w' := by
  have h := xor_any (ofL a) (ofL c) w (by rw [size_ofL]; omega) (by rw [size_ofL]; omega)
  rw [toL_ofL, toL_ofL] at h
  exact h
theorem length_pad64 (k : List UInt8) (hk : k.length ≤ 64) : (padL k 64).length = 64 := by rw [padL_64]; simp; omega
theorem str_one {w : World} {g : Nat} {b : UInt8} (h : w.cell? ⟨g, 0, none⟩ = some (.int .u8 b.toNat)) : (convert 99 9 (.slice (some ⟨g, 0, none⟩) 1 1)).run Tryz.prog w = .ok (.string (ofL [b])) w :=
  run_str_cells w _ _ _ Tryz.underlying99 Tryz.underlying5 Tryz.underlying9 ⟨g, 0, none⟩ 1 1 [b] rfl (fun j u hu => by
    match j, hu with
    | 0, hu => rw [← Option.some.inj hu]; exact h)

set_option maxRecDepth 100000 in
set_option maxHeartbeats 2000000 in
theorem hide_any (k : List UInt8) (b : UInt8) (w : World) (hk : k.length ≤ 64) : Calls Tryz.prog 115 #[.string (ofL k), .int .u8 b.toNat] w fun e w' => e = .returned (.string (ofL (hideL k b))) ∧ Ext w w' := by
  have hb := b.toNat_lt
  obtain ⟨P, hP⟩ : ∃ P, padL k 64 = P := ⟨_, rfl⟩
  obtain ⟨R, hR⟩ : ∃ R, List.replicate 64 b = R := ⟨_, rfl⟩
  obtain ⟨X, hX⟩ : ∃ X, hideL k b = X := ⟨_, rfl⟩
  have cp : ∀ w, Calls Tryz.prog 140 #[.string (ofL k), .int .i64 64] w fun e w' => e = .returned (.string (ofL P)) ∧ Ext w w' := fun w => by rw [← hP]; exact padk k w hk
  have cr : ∀ w, Calls Tryz.prog 141 #[.string (ofL [b]), .int .i64 64] w fun e w' => e = .returned (.string (ofL R)) ∧ Ext w w' := fun w => by rw [← hR]; exact rep64 b w
  have cx : ∀ w, Calls Tryz.prog 110 #[.string (ofL P), .string (ofL R)] w fun e w' => e = .returned (.string (ofL X)) ∧ Ext w w' := fun w => by
    have h := xork P R w (by rw [← hP, length_pad64 k hk]; omega) (by rw [← hR]; simp)
    rw [← hP, ← hR] at h
    rw [← hP, ← hR, ← hX]
    exact h
  rw [hX]
  have CP := Lib.hid cp; have CR := Lib.hid cr; have CX := Lib.hid cx
  clear cp cr cx hP hR hX
  go_enter Tryz.func115, Tryz.ntmps115
  go_upto_region 1 with fail
  refine wp_region_locals (fun i v W => match i with
    | 0 => v = .string (ofL k)
    | 1 => v = .string (ofL P)
    | 2 => v = .int .u8 b.toNat
    | 3 => ∃ g, v = .slice (some ⟨g, 0, none⟩) 1 1 ∧ W.cell? ⟨g, 0, none⟩ = some (.int .u8 b.toNat)
    | 4 => v = .string (ofL [b])
    | 5 => v = .string (ofL R)
    | 6 => v = .string (ofL X)
    | 7 => v = .string (ofL X)
    | _ => True) (by kernel_rfl) (by kernel_rfl) (by kernel_rfl) ?_ ?_ ?_
  · intro i v W1 W2 e1 e2 h
    match i, h with
    | 0, h => exact h
    | 1, h => exact h
    | 2, h => exact h
    | 3, ⟨b, h1, h2⟩ => exact ⟨b, h1, ((bcell e2).1 b 0 (World.block_lt_of_cell? _ _ h2)).trans h2⟩
    | 4, h => exact h
    | 5, h => exact h
    | 6, h => exact h
    | 7, h => exact h
    | (i + 8), h => exact h
  · refine locals_cons (fun u W hW hd => leaves_val rfl (v := .string (ofL k)) (by go_simp) rfl) ?_
    refine locals_cons (fun u W hW hd => ?_) ?_
    · have h0 : u 0 = _ := hd 0 (by kernel_rfl)
      exact leaves_call rfl (f := 140) (args := #[.string (ofL k), .int .i64 64]) (by go_simp) ((CP.out W).mono (by rintro e9 W9 ⟨rfl, h9⟩; exact ⟨_, rfl, h9, rfl⟩))
    refine locals_cons (fun u W hW hd => leaves_val rfl (v := .int .u8 b.toNat) (by go_simp) rfl) ?_
    refine locals_cons (fun u W hW hd => ?_) ?_
    · have h2 : u 2 = _ := hd 2 (by kernel_rfl)
      exact leaves_new rfl (v := .slice (some ⟨W.heap.size, 0, none⟩) 1 1) (by go_simp; rfl) ((Ext.rfl' W).al _) ⟨_, rfl, by simp [go_sem]⟩
    refine locals_cons (fun u W hW hd => ?_) ?_
    · obtain ⟨b3, h3, k3_0⟩ := hd 3 (by kernel_rfl)
      have hc := str_one k3_0
      exact leaves_val rfl (v := .string (ofL [b])) (by go_simp) rfl
    refine locals_cons (fun u W hW hd => ?_) ?_
    · have h4 : u 4 = _ := hd 4 (by kernel_rfl)
      exact leaves_call rfl (f := 141) (args := #[.string (ofL [b]), .int .i64 64]) (by go_simp) ((CR.out W).mono (by rintro e9 W9 ⟨rfl, h9⟩; exact ⟨_, rfl, h9, rfl⟩))
    refine locals_cons (fun u W hW hd => ?_) ?_
    · have h1 : u 1 = _ := hd 1 (by kernel_rfl)
      have h5 : u 5 = _ := hd 5 (by kernel_rfl)
      exact leaves_call rfl (f := 110) (args := #[.string (ofL P), .string (ofL R)]) (by go_simp) ((CX.out W).mono (by rintro e9 W9 ⟨rfl, h9⟩; exact ⟨_, rfl, h9, rfl⟩))
    refine locals_cons (fun u W hW hd => ?_) locals_nil
    · have h6 : u 6 = _ := hd 6 (by kernel_rfl)
      exact leaves_val rfl (v := .string (ofL X)) (by go_simp) rfl
  · intro u W hW hV
    have h7 : u 7 = .string (ofL X) := hV 7 (by decide)
    clear hV CP CR CX
    go_wp2
    exact bodyPost_ret (v := .string (ofL X)) (by simp [results, Tryz.results115, go_sem, h7]) rfl ⟨rfl, hW⟩

theorem append0 (I : List UInt8) : ([] : List UInt8) ++ I = I := rfl
set_option maxRecDepth 100000 in
set_option maxHeartbeats 2000000 in
theorem hmac_any (k s : List UInt8) (w : World) (hT : Tab w) (hk : k.length ≤ 800000) (hs : s.length ≤ 800000) : Calls Tryz.prog 76 #[.string (ofL k), .string (ofL s)] w fun e w' => e = .returned (.string (ofL (hmacL k s))) ∧ Ext w w' := by
  obtain ⟨K, hK⟩ : ∃ K, keyL k = K := ⟨_, rfl⟩
  have hK64 : K.length ≤ 64 := by
    rw [← hK]; unfold keyL
    split
    · rw [length_sumL]; omega
    · omega
  obtain ⟨I, hI⟩ : ∃ I, hideL K 54 = I := ⟨_, rfl⟩
  obtain ⟨D, hD⟩ : ∃ D, hideL K 92 = D := ⟨_, rfl⟩
  obtain ⟨U, hU⟩ : ∃ U, sumL (I ++ s) = U := ⟨_, rfl⟩
  have lI : I.length = 64 := by rw [← hI, length_hideL]
  have lD : D.length = 64 := by rw [← hD, length_hideL]
  have lU : U.length = 32 := by rw [← hU, length_sumL]
  obtain ⟨V, hV⟩ : ∃ V, sumL (D ++ U) = V := ⟨_, rfl⟩
  have hR : hmacL k s = V := by
    unfold hmacL outerL innerL
    rw [hK, hI, hD, hU, hV]
  rw [hR]
  have c54 := Kp.mk (show ∀ w, Calls Tryz.prog 115 #[.string (ofL K), .int .u8 54] w fun e w' => e = .returned (.string (ofL I)) ∧ Ext w w' from fun w => by rw [← hI]; exact hide_any K 54 w hK64)
  have c92 := Kp.mk (show ∀ w, Calls Tryz.prog 115 #[.string (ofL K), .int .u8 92] w fun e w' => e = .returned (.string (ofL D)) ∧ Ext w w' from fun w => by rw [← hD]; exact hide_any K 92 w hK64)
  have cS := Kp.mk (show ∀ w p, Tab w → HashAt w p (I ++ s) → Calls Tryz.prog 116 #[.pointer (some ⟨p, 0, none⟩)] w fun e w' => e = .returned (.string (ofL U)) ∧ Ext w w' from fun w p h1 h2 => by rw [← hU]; exact hsum_any p _ w h1 h2 (by rw [List.length_append]; omega))
  have cV := Kp.mk (show ∀ w, Tab w → Calls Tryz.prog 112 #[.string (ofL (D ++ U))] w fun e w' => e = .returned (.string (ofL V)) ∧ Ext w w' from fun w h1 => by rw [← hV]; exact sum_any _ w h1 (by rw [List.length_append]; omega))
  have a1 := Kp.mk (ofL_append D U)
  have z1 : (ofL D).size = 64 := by rw [size_ofL, lD]
  have z2 : (ofL U).size = 32 := by rw [size_ofL, lU]
  have hTw := hT.1
  clear hI hD hU hV hR
  by_cases h64 : 64 < k.length
  · have hk2 : K = sumL k := by rw [← hK]; unfold keyL; rw [if_pos h64]
    have cK := Kp.mk (show ∀ w, Tab w → Calls Tryz.prog 112 #[.string (ofL k)] w fun e w' => e = .returned (.string (ofL K)) ∧ Ext w w' from fun w h1 => by rw [hk2]; exact sum_any k w h1 (by omega))
    clear hk2 hK
    go_enter Tryz.func76, Tryz.ntmps76
    go_wp2_with fail
    refine (cK.out _ hT).mono ?_
    rintro e w1 ⟨rfl, E1⟩
    go_wp2_with fail
    refine (new_any _).mono ?_
    rintro e w2 ⟨p, rfl, hp, H2, E2⟩
    have hp' : w.heap.size ≤ p := by have := E1.size; omega
    have E2' := E1.tr E2
    clear E1 E2 hp
    go_wp2_with fail
    refine (c54.out _).mono ?_
    rintro e w3 ⟨rfl, E3⟩
    have H3 : HashAt w3 p [] := H2.ext E3 H2.lt
    have E3' := E2'.tr E3
    clear H2 E2' E3
    go_wp2_with fail
    refine (add_any p [] I _ (hT.ext E3') (by omega) H3 (by rw [lI]; simp)).mono ?_
    rintro e w4 ⟨rfl, H4, G4⟩
    rw [append0] at H4
    have E4 := E3'.gr G4 (fun j e => by cases e; exact hp')
    clear H3 E3' G4
    go_wp2_with fail
    refine (add_any p I s _ (hT.ext E4) (by omega) H4 (by rw [lI]; omega)).mono ?_
    rintro e w5 ⟨rfl, H5, G5⟩
    have E5 := E4.gr G5 (fun j e => by cases e; exact hp')
    clear H4 E4 G5
    go_wp2_with fail
    refine (c92.out _).mono ?_
    rintro e w6 ⟨rfl, E6⟩
    have H6 : HashAt w6 p (I ++ s) := H5.ext E6 H5.lt
    have E6' := E5.tr E6
    clear H5 E5 E6
    go_wp2_with fail
    refine (cS.out _ _ (hT.ext E6') H6).mono ?_
    rintro e w7 ⟨rfl, E7⟩
    have E7' := E6'.tr E7
    have b1 := a1.out
    clear H6 E6' E7
    go_wp2_with fail
    refine (cV.out _ (hT.ext E7')).mono ?_
    rintro e w8 ⟨rfl, E8⟩
    clear b1
    go_wp2
    go_ret
    exact ⟨rfl, E7'.tr E8⟩
  · have hk2 : K = k := by rw [← hK]; unfold keyL; rw [if_neg h64]
    clear hK
    subst hk2
    go_enter Tryz.func76, Tryz.ntmps76
    go_wp2_with fail
    refine (new_any _).mono ?_
    rintro e w2 ⟨p, rfl, hp', H2, E2'⟩
    go_wp2_with fail
    refine (c54.out _).mono ?_
    rintro e w3 ⟨rfl, E3⟩
    have H3 : HashAt w3 p [] := H2.ext E3 H2.lt
    have E3' := E2'.tr E3
    clear H2 E2' E3
    go_wp2_with fail
    refine (add_any p [] I _ (hT.ext E3') (by omega) H3 (by rw [lI]; simp)).mono ?_
    rintro e w4 ⟨rfl, H4, G4⟩
    rw [append0] at H4
    have E4 := E3'.gr G4 (fun j e => by cases e; exact hp')
    clear H3 E3' G4
    go_wp2_with fail
    refine (add_any p I s _ (hT.ext E4) (by omega) H4 (by rw [lI]; omega)).mono ?_
    rintro e w5 ⟨rfl, H5, G5⟩
    have E5 := E4.gr G5 (fun j e => by cases e; exact hp')
    clear H4 E4 G5
    go_wp2_with fail
    refine (c92.out _).mono ?_
    rintro e w6 ⟨rfl, E6⟩
    have H6 : HashAt w6 p (I ++ s) := H5.ext E6 H5.lt
    have E6' := E5.tr E6
    clear H5 E5 E6
    go_wp2_with fail
    refine (cS.out _ _ (hT.ext E6') H6).mono ?_
    rintro e w7 ⟨rfl, E7⟩
    have E7' := E6'.tr E7
    have b1 := a1.out
    clear H6 E6' E7
    go_wp2_with fail
    refine (cV.out _ (hT.ext E7')).mono ?_
    rintro e w8 ⟨rfl, E8⟩
    clear b1
    go_wp2
    go_ret
    exact ⟨rfl, E7'.tr E8⟩

theorem parts_any (k : List UInt8) (l : List (List UInt8)) (v : Value) (w : World) (hT : Tab w) (hk : k.length ≤ 800000) (h : Rd w w.heap.size 1 v l.length (l.map Str)) (hlen : (frameL l).length ≤ 800000) :
    Calls Tryz.prog 56 #[.string (ofL k), v] w fun e w' => e = .returned (.string (ofL (hmacL k (frameL l)))) ∧ Ext w w' := by
  obtain ⟨X, hX⟩ : ∃ X, hmacL k (frameL l) = X := ⟨_, rfl⟩
  have cH := Kp.mk (show ∀ w, Tab w → Calls Tryz.prog 76 #[.string (ofL k), .string (ofL (frameL l))] w fun e w' => e = .returned (.string (ofL X)) ∧ Ext w w' from fun w h1 => by rw [← hX]; exact hmac_any k _ w h1 hk hlen)
  have cF := Kp.mk (frame_any l v w h (by omega))
  rw [hX]
  clear hX h hlen
  go_enter Tryz.func56, Tryz.ntmps56
  go_wp2_with fail
  refine cF.out.mono ?_
  rintro e w1 ⟨rfl, E1⟩
  go_wp2_with fail
  refine (cH.out _ (hT.ext E1)).mono ?_
  rintro e w2 ⟨rfl, E2⟩
  go_wp2
  go_ret
  exact ⟨rfl, E1.tr E2⟩

theorem same_any (a b : List UInt8) (w : World) (ha : a.length ≤ 1000000) (hb : b.length ≤ 1000000) : Calls Tryz.prog 82 #[.string (ofL a), .string (ofL b)] w fun e w' => e = .returned (.bool (decide (a.length = 32) && (a == b))) ∧ Ext w w' := by
  have h := equal_any (ofL a) (ofL b)
  have cE := Kp.mk (show ∀ w, Calls Tryz.prog 120 #[.string (ofL a), .string (ofL b)] w fun e w' => e = .returned (.bool (a == b)) ∧ Ext w w' from fun w => by
    have h := equal_any (ofL a) (ofL b) w (by rw [size_ofL]; unfold maxLen; omega) (by rw [size_ofL]; unfold maxLen; omega)
    rw [toL_ofL, toL_ofL] at h
    exact h)
  obtain ⟨q, hq⟩ : ∃ q, (a == b) = q := ⟨_, rfl⟩
  rw [hq] at cE ⊢
  clear hq h
  by_cases h32 : a.length = 32
  · have d : ((a.length : Int) == 32) = true := by simp; omega
    rw [decide_eq_true h32, Bool.true_and]
    clear h32
    go_enter Tryz.func82, Tryz.ntmps82
    go_wp2_with fail
    refine (cE.out _).mono ?_
    rintro e w1 ⟨rfl, E1⟩
    go_wp2
    go_ret
    exact ⟨rfl, E1⟩
  · have d : ((a.length : Int) == 32) = false := by simp; omega
    rw [decide_eq_false h32, Bool.false_and]
    clear h32
    go_enter Tryz.func82, Tryz.ntmps82
    go_wp2
    go_ret
    exact ⟨rfl, Ext.rfl' _⟩
end Go.Proofs.YtejhiekikblbiaaGreatDoor

namespace Go.Proofs.YtejhiekikblbiaaGreatDoor
open Go.RowKit

theorem rbyteU (b : UInt8) (w : World) : Calls Tryz.prog 119 #[.int .i64 b.toNat] w fun e w' => e = .returned (.string (ofL [b])) ∧ Ext w w' := by
  have h := rbyte_any (b.toNat : Int) w
  rw [byte_of_nat] at h
  exact h
theorem rep_snoc (b : UInt8) (j : Nat) : ofL (List.replicate j b) ++ ofL [b] = ofL (List.replicate (j + 1) b) := by rw [ofL_append, ← List.replicate_succ']
theorem rxork (a c : List UInt8) (w : World) (ha : a.length ≤ 1000000) (hc : c.length ≤ 1000000) : Calls Tryz.prog 117 #[.string (ofL a), .string (ofL c)] w fun e w' => e = .returned (.string (ofL (xorL a c))) ∧ Ext w w' := by
  have h := rxor_any (ofL a) (ofL c) w (by rw [size_ofL]; omega) (by rw [size_ofL]; omega)
  rw [toL_ofL, toL_ofL] at h
  exact h
theorem rpadk (k : List UInt8) (w : World) (hk : k.length ≤ 1000000) : Calls Tryz.prog 123 #[.string (ofL k), .int .i64 64] w fun e w' => e = .returned (.string (ofL (padL k 64))) ∧ Ext w w' := by
  have h := rpad_any (ofL k) 64 w (by rw [size_ofL]; omega)
  rw [toL_ofL] at h
  exact h

set_option maxHeartbeats 1000000 in
theorem rwith_any (k : List UInt8) (b : UInt8) (w : World) (hk : k.length ≤ 1000000) : Calls Tryz.prog 90 #[.string (ofL k), .int .i64 b.toNat] w fun e w' => e = .returned (.string (ofL (xorL k (List.replicate 64 b)))) ∧ Ext w w' := by
  obtain ⟨X, hX⟩ : ∃ X, xorL k (List.replicate 64 b) = X := ⟨_, rfl⟩
  have cX := Kp.mk (show ∀ w, Calls Tryz.prog 117 #[.string (ofL k), .string (ofL (List.replicate 64 b))] w fun e w' => e = .returned (.string (ofL X)) ∧ Ext w w' from fun w => by rw [← hX]; exact rxork k _ w hk (by simp))
  have hb := b.toNat_lt
  rw [hX]
  clear hX
  go_enter Tryz.func90, Tryz.ntmps90
  go_wp2
  go_loopw [5] (fun o wr => ∃ j : Nat, j ≤ 64 ∧ o = .string (ofL (List.replicate j b)) ∧ Ext w wr) (fun o _ => 64 - strSz o)
  case atStart => exact ⟨0, by omega, rfl, Ext.rfl' _⟩
  case round =>
    obtain ⟨j, hj, rfl, hE⟩ := hrel
    have hsz : (ofL (List.replicate j b)).size = j := by rw [size_ofL, List.length_replicate]
    by_cases hlt : j < 64
    · have hap := rep_snoc b j
      have hsz2 : (ofL (List.replicate (j + 1) b)).size = j + 1 := by rw [size_ofL, List.length_replicate]
      go_wp2_with ((with_reducible refine (rbyteU b _).mono ?_); rintro e w2 ⟨rfl, hE2⟩)
      go_roundw
      case rel => exact ⟨j + 1, by omega, rfl, hE.tr hE2⟩
      case measure =>
        rw [show ∀ r : ByteArray, strSz (.string r) = r.size from fun _ => rfl, show ∀ r : ByteArray, strSz (.string r) = r.size from fun _ => rfl, hsz, hsz2]
        omega
    · obtain rfl : j = 64 := by omega
      clear hj hlt
      go_wp2_with fail
      refine (cX.out _).mono ?_
      rintro e w2 ⟨rfl, hE2⟩
      go_wp2
      go_ret
      exact ⟨rfl, hE.tr hE2⟩

/-- A key as 64 bytes. -/
theorem rkey_any (k : List UInt8) (w : World) (hk : k.length ≤ 800000) : Calls Tryz.prog 91 #[.string (ofL k)] w fun e w' => e = .returned (.string (ofL (padL (keyL k) 64))) ∧ Ext w w' := by
  obtain ⟨K, hK⟩ : ∃ K, keyL k = K := ⟨_, rfl⟩
  have hKl : K.length ≤ 64 := by
    rw [← hK]; unfold keyL
    split
    · rw [length_sumL]; omega
    · omega
  have cP := Kp.mk (fun w => rpadk K w (by omega))
  obtain ⟨X, hX⟩ : ∃ X, padL K 64 = X := ⟨_, rfl⟩
  rw [hX] at cP
  rw [hK, hX]
  clear hX
  by_cases h64 : 64 < k.length
  · have cS := Kp.mk (show ∀ w, Calls Tryz.prog 62 #[.string (ofL k)] w fun e w' => e = .returned (.string (ofL K)) ∧ Ext w w' from fun w => by
      rw [← hK]; unfold keyL; rw [if_pos h64]; exact rsum_any k w (by omega))
    clear hK
    go_enter Tryz.func91, Tryz.ntmps91
    go_wp2_with fail
    refine (cS.out _).mono ?_
    rintro e w1 ⟨rfl, E1⟩
    go_wp2_with fail
    refine (cP.out _).mono ?_
    rintro e w2 ⟨rfl, E2⟩
    go_wp2
    go_ret
    exact ⟨rfl, E1.tr E2⟩
  · obtain rfl : K = k := by rw [← hK]; unfold keyL; rw [if_neg h64]
    clear hK
    go_enter Tryz.func91, Tryz.ntmps91
    go_wp2_with fail
    refine (cP.out _).mono ?_
    rintro e w2 ⟨rfl, E2⟩
    go_wp2
    go_ret
    exact ⟨rfl, E2⟩

set_option maxHeartbeats 2000000 in
theorem rtexts_any (k s : List UInt8) (w : World) (hk : k.length ≤ 800000) (hs : s.length ≤ 800000) : Calls Tryz.prog 52 #[.string (ofL k), .string (ofL s)] w (RetOwn w 9 1 2 [Str (innerL k s), Str (outerL k s)]) := by
  obtain ⟨P, hP⟩ : ∃ P, padL (keyL k) 64 = P := ⟨_, rfl⟩
  have hKl : (keyL k).length ≤ 64 := by
    unfold keyL
    split
    · rw [length_sumL]; omega
    · omega
  have lP : P.length = 64 := by rw [← hP, length_pad64 _ hKl]
  obtain ⟨I, hI⟩ : ∃ I, xorL P (List.replicate 64 54) = I := ⟨_, rfl⟩
  obtain ⟨D, hD⟩ : ∃ D, xorL P (List.replicate 64 92) = D := ⟨_, rfl⟩
  have lI : I.length = 64 := by rw [← hI, length_xorL, lP]; rfl
  have lD : D.length = 64 := by rw [← hD, length_xorL, lP]; rfl
  obtain ⟨U, hU⟩ : ∃ U, sumL (I ++ s) = U := ⟨_, rfl⟩
  have lU : U.length = 32 := by rw [← hU, length_sumL]
  have e1 : innerL k s = I ++ s := by unfold innerL hideL; rw [hP, hI]
  have e2 : outerL k s = D ++ U := by unfold outerL hideL; rw [e1, hP, hD, hU]
  have cK := Kp.mk (show ∀ w, Calls Tryz.prog 91 #[.string (ofL k)] w fun e w' => e = .returned (.string (ofL P)) ∧ Ext w w' from fun w => by rw [← hP]; exact rkey_any k w hk)
  have c54 := Kp.mk (show ∀ w, Calls Tryz.prog 90 #[.string (ofL P), .int .i64 54] w fun e w' => e = .returned (.string (ofL I)) ∧ Ext w w' from fun w => by rw [← hI]; exact rwith_any P 54 w (by omega))
  have c92 := Kp.mk (show ∀ w, Calls Tryz.prog 90 #[.string (ofL P), .int .i64 92] w fun e w' => e = .returned (.string (ofL D)) ∧ Ext w w' from fun w => by rw [← hD]; exact rwith_any P 92 w (by omega))
  have cU := Kp.mk (show ∀ w, Calls Tryz.prog 62 #[.string (ofL (I ++ s))] w fun e w' => e = .returned (.string (ofL U)) ∧ Ext w w' from fun w => by rw [← hU]; exact rsum_any _ w (by rw [List.length_append]; omega))
  have a1 := ofL_append I s
  have a2 := ofL_append D U
  have z1 : (ofL I).size = 64 := by rw [size_ofL, lI]
  have z2 : (ofL D).size = 64 := by rw [size_ofL, lD]
  have z3 : (ofL U).size = 32 := by rw [size_ofL, lU]
  rw [e1, e2]
  clear hP hI hD hU e1 e2 hKl
  go_enter Tryz.func52, Tryz.ntmps52
  go_wp2_with fail
  refine (cK.out _).mono ?_
  rintro e w1 ⟨rfl, E1⟩
  go_wp2_with fail
  refine (c54.out _).mono ?_
  rintro e w2 ⟨rfl, E2⟩
  have F2 := E1.tr E2
  clear E1 E2
  go_wp2_with fail
  refine (cK.out _).mono ?_
  rintro e w3 ⟨rfl, E3⟩
  go_wp2_with fail
  refine (c92.out _).mono ?_
  rintro e w4 ⟨rfl, E4⟩
  have F4 := (F2.tr E3).tr E4
  clear F2 E3 E4
  go_wp2_with fail
  refine (cU.out _).mono ?_
  rintro e w5 ⟨rfl, E5⟩
  have F5 := F4.tr E5
  clear F4 E5
  go_wp2
  go_ret
  exact ⟨_, rfl, own_more (World.ownsRow_lit w5 #[Str (I ++ s), Str (D ++ U)] 2 (Nat.le_refl _) (by decide) rfl) F5.size, F5.al _⟩
end Go.Proofs.YtejhiekikblbiaaGreatDoor

namespace Go.Proofs.YtejhiekikblbiaaGreatDoor
open Go.RowKit

set_option maxHeartbeats 1000000 in
theorem rhmac_any (k s : List UInt8) (w : World) (hk : k.length ≤ 800000) (hs : s.length ≤ 800000) : Calls Tryz.prog 79 #[.string (ofL k), .string (ofL s)] w fun e w' => e = .returned (.string (ofL (hmacL k s))) ∧ Ext w w' := by
  have cT := Kp.mk (rtexts_any k s w hk hs)
  have lO : (outerL k s).length = 96 := by unfold outerL; rw [List.length_append, length_hideL, length_sumL]
  obtain ⟨I, hI⟩ : ∃ I, innerL k s = I := ⟨_, rfl⟩
  obtain ⟨O, hO⟩ : ∃ O, outerL k s = O := ⟨_, rfl⟩
  obtain ⟨X, hX⟩ : ∃ X, sumL O = X := ⟨_, rfl⟩
  have cS := Kp.mk (show ∀ w, Calls Tryz.prog 62 #[.string (ofL O)] w fun e w' => e = .returned (.string (ofL X)) ∧ Ext w w' from fun w => by rw [← hX]; exact rsum_any O w (by rw [← hO, lO]; omega))
  have hR : hmacL k s = X := by unfold hmacL; rw [hO, hX]
  rw [hI, hO] at cT
  rw [hR]
  clear hX hR hI hO lO
  go_enter Tryz.func79, Tryz.ntmps79
  go_wp2_with fail
  refine cT.out.mono ?_
  rintro e w1 ⟨v, rfl, hown, E1⟩
  obtain ⟨g, cap, rfl⟩ := ownsRow_succ hown
  have c1 : w1.cell? ⟨g, 1, none⟩ = some (.string (ofL O)) := (own_cell hown 1 (by decide)).1
  go_wp2_with fail
  refine (cS.out _).mono ?_
  rintro e w2 ⟨rfl, E2⟩
  go_wp2
  go_ret
  exact ⟨rfl, E1.tr E2⟩

theorem rparts_any (k : List UInt8) (l : List (List UInt8)) (v : Value) (w : World) (hk : k.length ≤ 800000) (h : Rd w w.heap.size 1 v l.length (l.map Str)) (hlen : (frameL l).length ≤ 800000) :
    Calls Tryz.prog 43 #[.string (ofL k), v] w fun e w' => e = .returned (.string (ofL (hmacL k (frameL l)))) ∧ Ext w w' := by
  obtain ⟨X, hX⟩ : ∃ X, hmacL k (frameL l) = X := ⟨_, rfl⟩
  have cH := Kp.mk (show ∀ w, Calls Tryz.prog 79 #[.string (ofL k), .string (ofL (frameL l))] w fun e w' => e = .returned (.string (ofL X)) ∧ Ext w w' from fun w => by rw [← hX]; exact rhmac_any k _ w hk hlen)
  have cF := Kp.mk (rframe_any l v w h (by omega))
  rw [hX]
  clear hX h hlen
  go_enter Tryz.func43, Tryz.ntmps43
  go_wp2_with fail
  refine cF.out.mono ?_
  rintro e w1 ⟨rfl, E1⟩
  go_wp2_with fail
  refine (cH.out _).mono ?_
  rintro e w2 ⟨rfl, E2⟩
  go_wp2
  go_ret
  exact ⟨rfl, E1.tr E2⟩

theorem beN_take_le (l : List UInt8) (k j : Nat) (h : k ≤ j) (hj : j ≤ l.length) : beN (l.take k) ≤ beN (l.take j) := by
  induction j with
  | zero =>
    have h0 : k = 0 := by omega
    rw [h0]; exact Nat.le_refl _
  | succ j ih =>
    by_cases he : k = j + 1
    · rw [he]; exact Nat.le_refl _
    · have h1 := ih (by omega) (by omega)
      rw [List.take_succ_eq_append_getElem (show j < l.length by omega), beN_snoc]
      omega
/-- What the outer loop holds. -/
def RSp (w wr : World) (s : List UInt8) (at_ out : Value) : Prop :=
  ∃ (j : Nat) (pre : List (List UInt8)) (v : Value), v = out ∧ j ≤ s.length ∧ at_ = .int .i64 j ∧ pre.length ≤ j ∧ splitL s = (splitL (s.drop j)).map (pre ++ ·) ∧ wr.ownsRow w.heap.size 9 1 v pre.length (pre.map Str) ∧ Ext w wr

set_option maxRecDepth 100000 in
set_option maxHeartbeats 4000000 in
theorem rsplit_any (s : List UInt8) (w : World) (hs : s.length ≤ 1000000) : Calls Tryz.prog 42 #[.string (ofL s)] w (SplitPost w s) := by
  have hsz : (ofL s).size = s.length := size_ofL _
  go_enter Tryz.func42, Tryz.ntmps42
  go_wp2
  go_loopw [5, 4] (fun a o wr => RSp w wr s a o) (fun a _ _ => s.length - (intOf a).toNat)
  case atStart => exact ⟨0, [], _, rfl, Nat.zero_le _, rfl, by simp, by simp, World.ownsRow_nil _ _ _ _, Ext.rfl' _⟩
  case round =>
    obtain ⟨j, pre, v, rfl, hj, rfl, hpl, hsp0, hown, hE⟩ := hrel
    have hsp := Kp.mk hsp0; clear hsp0
    have d1 : IntKind.i64.wrap ((s.length : Int) - j) = (s.length : Int) - j := IntWalk.i64_in _ (by omega)
    have none_case : splitL (s.drop j) = none → ∀ W, Ext w W → SplitPost w s (.returned (.tuple #[.slice none 0 0, .bool false])) W := fun hn W hW => by
      have h : splitL s = none := by rw [hsp.out, hn]; rfl
      exact ⟨fun l hl => (by rw [h] at hl; cases hl), fun _ => rfl, hW⟩
    have NC := Kp.mk none_case; clear none_case
    by_cases h0 : j < s.length
    · by_cases h8 : s.length - j < 8
      · have hn := Kp.mk (splitL_short (s := s.drop j) (by rw [List.length_drop]; omega) (by rw [List.length_drop]; exact h8))
        have d2 : decide ((s.length : Int) - j < 8) = true := by simp; omega
        go_wp2
        refine bodyPost_ret (v := .tuple #[.slice none 0 0, .bool false]) (by simp [results, Tryz.results42, go_sem]) rfl ?_
        exact NC.out hn.out _ hE
      · have d2 : decide ((s.length : Int) - j < 8) = false := by simp; omega
        go_wp2
        go_loop [7, 6] (fun i n => ∃ k p m : Nat, k ≤ 8 ∧ p = j + k ∧ i = .int .i64 p ∧ n = .int .i64 m ∧ m = beN ((s.drop j).take k) ∧ m ≤ 1099511628032) (fun i _ => j + 8 - (intOf i).toNat)
        case atStart => exact ⟨0, j, 0, by omega, rfl, rfl, rfl, rfl, by omega⟩
        case round =>
          obtain ⟨k, p, m, hk, hp0, rfl, rfl, hm0, hml⟩ := hrel
          have hp := Kp.mk hp0; have hm := Kp.mk hm0
          have hps : p ≤ s.length := by omega
          by_cases hlt : k < 8
          · have d3 : decide ((p : Int) < (j : Int) + 8) = true := by simp; omega
            have hpl2 : p < s.length := by omega
            clear hp0 hm0
            by_cases hbig : 4294967296 < m
            · have hn := Kp.mk (splitL_far (s := s.drop j) (by rw [List.length_drop]; omega) (by
                have h1 := beN_take_le (s.drop j) k 8 (by omega) (by rw [List.length_drop]; omega)
                rw [← hm.out] at h1
                rw [List.length_drop, List.length_drop]
                omega))
              have d4 : decide ((4294967296 : Int) < (m : Int)) = true := by simp; omega
              go_wp2
              refine bodyPost_ret (v := .tuple #[.slice none 0 0, .bool false]) (by simp [results, Tryz.results42, go_sem]) rfl ?_
              exact NC.out hn.out _ hE
            · have d4 : decide ((4294967296 : Int) < (m : Int)) = false := by simp; omega
              obtain ⟨c, hcc⟩ : ∃ c, (s[p]).toNat = c := ⟨_, rfl⟩
              have hc256 : c < 256 := by rw [← hcc]; exact (s[p]).toNat_lt
              have e0 : ((ofL s)[p]'(by rw [hsz]; exact hpl2)).toNat = c := by rw [toL_get]; simp only [toL_ofL]; exact hcc
              have hm2 := Kp.mk (show m * 256 + c = beN ((s.drop j).take (k + 1)) from by
                have h1 := hp.out
                subst h1
                rw [List.take_succ_eq_append_getElem (by rw [List.length_drop]; omega), beN_snoc, ← hm.out, List.getElem_drop, hcc])
              clear hcc
              go_wp2
              go_round
              case rel => exact ⟨k + 1, p + 1, m * 256 + c, by omega, by have := hp.out; omega, by go_num, by go_num, hm2.out, by omega⟩
              case measure => simp [intOf]; have := hp.out; omega
          · obtain rfl : k = 8 := by omega
            subst hp0
            clear hm0 hp hlt hk
            obtain ⟨R, hR0⟩ : ∃ R, (s.drop j).drop 8 = R := ⟨_, rfl⟩
            have hRs := Kp.mk (show R = s.drop (j + 8) by rw [← hR0, List.drop_drop])
            have hRl : R.length = s.length - (j + 8) := by rw [hRs.out, List.length_drop]
            have hj8 : j + 8 ≤ s.length := by omega
            have d3 : decide ((j : Int) + 8 < (j : Int) + 8) = false := by simp
            have w1 : IntKind.i64.wrap ((s.length : Int) - ((j : Int) + 8)) = (s.length : Int) - ((j : Int) + 8) := IntWalk.i64_in _ (by omega)
            by_cases hfar : R.length < m
            · have hn := Kp.mk (splitL_far (s := s.drop j) (by rw [List.length_drop]; omega) (by rw [hR0, ← hm.out]; exact hfar))
              have d4 : decide ((s.length : Int) - ((j : Int) + 8) < (m : Int)) = true := by simp; omega
              clear hR0 hRl
              go_wp2
              refine bodyPost_ret (v := .tuple #[.slice none 0 0, .bool false]) (by simp [results, Tryz.results42, go_sem]) rfl ?_
              exact NC.out hn.out _ hE
            · have hn := Kp.mk (splitL_cons (s := s.drop j) (by rw [List.length_drop]; omega) (by rw [hR0, ← hm.out]; omega))
              rw [hR0, ← hm.out] at hn
              have d4 : decide ((s.length : Int) - ((j : Int) + 8) < (m : Int)) = false := by simp; omega
              have hml2 : j + 8 + m ≤ s.length := by omega
              obtain ⟨P, hP⟩ : ∃ P, R.take m = P := ⟨_, rfl⟩
              have ex : (ofL s).extract (j + 8) (j + 8 + m) = ofL P := by
                rw [ofL_extract, ← hP, hRs.out, show j + 8 + m - (j + 8) = m by omega]
              have t1 : ((j : Int) + 8).toNat = j + 8 := by omega
              have t2 : ((j : Int) + 8 + m).toNat = j + 8 + m := by omega
              have hs2 := Kp.mk (show splitL s = (splitL (s.drop (j + 8 + m))).map ((pre ++ [P]) ++ ·) from by
                rw [hsp.out, hn.out, hP, hRs.out, List.drop_drop, Option.map_map]
                congr 1
                funext x
                simp)
              have hszw := hE.size
              clear hR0 hRl hP hRs hn NC hsp hfar
              go_wp2_with (at_builtin; refine wpl_app Tryz.elemStr rfl _ _ rfl hown 1 rfl rfl rfl (by intro u hu; simp at hu; rw [hu]; rfl) (by omega) (by omega) (by omega) ?_; intro v2 w2 hown2 hg2; have hE2 := hE.own hg2 hown (Nat.le_refl _); clear hown hg2)
              go_roundw
              case rel => exact ⟨j + 8 + m, pre ++ [P], v2, rfl, hml2, by go_num, by rw [List.length_append]; simp; omega, hs2.out, own_eq hown2 (by simp [Str]) (by simp), hE2⟩
              case measure => simp [intOf]; omega
    · have hn := Kp.mk (splitL_nil (s := s.drop j) (by rw [List.length_drop]; omega))
      have hs2 := Kp.mk (show splitL s = some pre from by rw [hsp.out, hn.out]; simp)
      clear hsp NC hn
      go_wp2
      refine bodyPost_ret (v := .tuple #[v, .bool true]) (by simp [results, Tryz.results42, go_sem]) rfl ?_
      refine ⟨fun l hl => ?_, fun hn => ?_, hE⟩
      · rw [hs2.out] at hl; cases hl
        exact ⟨v, rfl, hown⟩
      · rw [hs2.out] at hn; cases hn
end Go.Proofs.YtejhiekikblbiaaGreatDoor

namespace Go.Proofs.YtejhiekikblbiaaGreatDoor
open Go.RowKit

def lenSum (xs : List (List UInt8)) : Nat := (xs.map List.length).sum
theorem lenSum_take (xs : List (List UInt8)) (k : Nat) (h : k < xs.length) : lenSum (xs.take (k + 1)) = lenSum (xs.take k) + xs[k].length := by
  unfold lenSum
  rw [List.take_succ_eq_append_getElem h, List.map_append, List.sum_append]
  simp
theorem lenSum_le (xs : List (List UInt8)) (k : Nat) : lenSum (xs.take k) ≤ lenSum xs := by
  have h : lenSum xs = lenSum (xs.take k) + lenSum (xs.drop k) := by
    unfold lenSum
    rw [← List.sum_append, ← List.map_append, List.take_append_drop]
  omega
theorem length_frameL : ∀ l : List (List UInt8), (frameL l).length = 8 * l.length + lenSum l
  | [] => rfl
  | p :: l => by
    rw [frameL, List.length_append, List.length_append, length_be8, length_frameL l]
    unfold lenSum
    simp
    omega
theorem mem_lenSum : ∀ (l : List (List UInt8)) (p : List UInt8), p ∈ l → p.length ≤ lenSum l
  | [], p, h => by cases h
  | q :: l, p, h => by
    unfold lenSum
    simp only [List.map_cons, List.sum_cons]
    rcases List.mem_cons.1 h with rfl | h
    · omega
    · have := mem_lenSum l p h
      unfold lenSum at this
      omega
def shortL (xs : List (List UInt8)) (n t : Nat) : Bool := decide (xs.length ≤ n) && decide (lenSum xs ≤ t)

set_option maxRecDepth 100000 in
set_option maxHeartbeats 2000000 in
theorem short_any (xs : List (List UInt8)) (n t : Nat) (v : Value) (w : World) (h : Rd w w.heap.size 1 v xs.length (xs.map Str)) (ht : t ≤ 1000000) :
    Calls Tryz.prog 7 #[v, .int .i64 n, .int .i64 t] w fun e w' => e = .returned (.bool (shortL xs n t)) ∧ Ext w w' := by
  obtain ⟨A, c, rfl, hn, hl, hca⟩ := h
  have Hca := Lib.hid hca; clear hca hl
  by_cases hmany : n < xs.length
  · have hb : shortL xs n t = false := by unfold shortL; rw [decide_eq_false (by omega), Bool.false_and]
    rw [hb]; clear hb
    go_enter Tryz.func7, Tryz.ntmps7
    go_wp2
    go_ret
    exact ⟨rfl, Ext.rfl' _⟩
  · obtain ⟨b0, hb⟩ : ∃ b0, shortL xs n t = b0 := ⟨_, rfl⟩
    have hb2 := Kp.mk (show b0 = decide (lenSum xs ≤ t) by rw [← hb]; unfold shortL; rw [decide_eq_true (by omega), Bool.true_and])
    rw [hb]; clear hb
    go_enter Tryz.func7, Tryz.ntmps7
    go_wp2
    go_loop [8, 7] (fun i r => ∃ k left : Nat, k ≤ xs.length ∧ i = .int .i64 k ∧ r = .int .i64 left ∧ left + lenSum (xs.take k) = t) (fun i _ => xs.length - (intOf i).toNat)
    case atStart => exact ⟨0, t, by omega, rfl, rfl, rfl⟩
    case round =>
      obtain ⟨k, left, hk, rfl, rfl, hs0⟩ := hrel
      have hs := Kp.mk hs0
      have hlt' : left ≤ t := by omega
      clear hs0
      by_cases hlt : k < xs.length
      · obtain ⟨b, off, rfl, hbb, hc⟩ := Hca.out (by omega)
        obtain ⟨p, hp⟩ : ∃ p, xs[k] = p := ⟨_, rfl⟩
        have f1 : w.cell? ⟨b, off + k, none⟩ = some (.string (ofL p)) := hc k _ (by simp [List.getElem?_eq_getElem hlt, hp, Str])
        clear hc Hca
        have hsz : (ofL p).size = p.length := size_ofL p
        by_cases hbig : left < p.length
        · have hb3 := Kp.mk (show b0 = false by
            rw [hb2.out]
            have h1 := lenSum_take xs k hlt
            have h2 := lenSum_le xs (k + 1)
            have h3 := hs.out
            rw [hp] at h1
            exact decide_eq_false (by omega))
          clear hb2 hp
          go_wp2
          go_ret
          exact ⟨ret_bool hb3.out.symm, Ext.rfl' _⟩
        · have hs2 := Kp.mk (show (left - p.length) + lenSum (xs.take (k + 1)) = t by
            rw [lenSum_take xs k hlt, hp]; have := hs.out; omega)
          have w1 : IntKind.i64.wrap ((left : Int) - p.length) = (left : Int) - p.length := IntWalk.i64_in _ (by omega)
          clear hp hs
          go_wp2
          go_round
          case rel => exact ⟨k + 1, left - p.length, by omega, by go_num, by go_num, hs2.out⟩
          case measure => simp [intOf]; omega
      · have hb3 := Kp.mk (show b0 = true by
          rw [hb2.out]
          have h3 := hs.out
          rw [List.take_of_length_le (by omega)] at h3
          exact decide_eq_true (by omega))
        clear hb2 hs
        go_wp2
        go_ret
        exact ⟨ret_bool hb3.out.symm, Ext.rfl' _⟩

/-- Two texts, unlike, of one sum. -/
def ClashAt (xs : List (List UInt8)) (i j : Nat) : Prop := sumL (xs.getD j []) = sumL (xs.getD i []) ∧ xs.getD j [] ≠ xs.getD i []
def ClashPost (xs : List (List UInt8)) (w : World) (e : Ending) (w' : World) : Prop := ∃ b, e = .returned (.bool b) ∧ (∀ i j, j < i → i < xs.length → ClashAt xs i j → b = true) ∧ Ext w w'
theorem getD_at {α : Type} (l : List α) (k : Nat) (d : α) (h : k < l.length) : l.getD k d = l[k] := by
  rw [List.getD_eq_getElem?_getD, List.getElem?_eq_getElem h]; rfl

set_option maxRecDepth 100000 in
set_option maxHeartbeats 2000000 in
theorem clash_any (xs : List (List UInt8)) (v : Value) (w : World) (h : Rd w w.heap.size 1 v xs.length (xs.map Str)) (hall : ∀ p ∈ xs, p.length ≤ 900000) (hmax : xs.length ≤ 1000000) :
    Calls Tryz.prog 29 #[v] w (ClashPost xs w) := by
  obtain ⟨A, c, rfl, hn, hl, hca⟩ := h
  have Hca := Lib.hid hca; clear hca hl
  have HA := Lib.hid hall; clear hall
  go_enter Tryz.func29, Tryz.ntmps29
  go_wp2
  go_loopw [4, 3] (fun i o wr => ∃ (k : Nat) (vo : Value), vo = o ∧ k ≤ xs.length ∧ i = .int .i64 k ∧ Ext w wr ∧ wr.ownsRow w.heap.size 9 1 vo k (((xs.take k).map sumL).map Str) ∧ ∀ i j, j < i → i < k → ¬ ClashAt xs i j) (fun i _ _ => xs.length - (intOf i).toNat)
  case atStart => exact ⟨0, _, rfl, by omega, rfl, Ext.rfl' _, World.ownsRow_nil _ _ _ _, fun i j _ h => by omega⟩
  case round =>
    obtain ⟨k, vo, rfl, hk, rfl, hE, hown, hno0⟩ := hrel
    have hno := Kp.mk hno0; clear hno0
    by_cases hlt : k < xs.length
    · obtain ⟨b, off, rfl, hbb, hc⟩ := Hca.out (by omega)
      obtain ⟨p, hp⟩ : ∃ p, xs[k] = p := ⟨_, rfl⟩
      have hcell := Lib.hid (show ∀ W, Ext w W → ∀ j (hj : j < xs.length), W.cell? ⟨b, off + j, none⟩ = some (.string (ofL xs[j])) from fun W hW j hj => ((bcell hW).1 b _ hbb).trans (hc j _ (by simp [List.getElem?_eq_getElem hj, Str])))
      have f1 := hcell.out wr hE k hlt
      rw [hp] at f1
      clear hc Hca
      have hpl : p.length ≤ 900000 := by rw [← hp]; exact HA.out _ (List.getElem_mem _)
      obtain ⟨S, hS⟩ : ∃ S, sumL p = S := ⟨_, rfl⟩
      have cS := Kp.mk (show ∀ w, Calls Tryz.prog 62 #[.string (ofL p)] w fun e w' => e = .returned (.string (ofL S)) ∧ Ext w w' from fun w => by rw [← hS]; exact rsum_any p w hpl)
      have hszw := hE.size
      have HSum := Kp.mk (show ((xs.take (k + 1)).map sumL).map Str = ((xs.take k).map sumL).map Str ++ [.string (ofL S)] from by
        rw [List.take_succ_eq_append_getElem hlt, hp, List.map_append, List.map_append, ← hS]; rfl)
      have HSk := Kp.mk (show sumL (xs[k]) = S from by rw [hp, hS])
      clear hp hS
      go_wp2_with (first
        | ((with_reducible refine (cS.out _).mono ?_); rintro e w1 ⟨rfl, E1⟩; have own1 := own_ext hown (fun j _ hj => E1.block j hj); have hE1 := hE.tr E1; have hsz1 := E1.size; clear hown E1)
        | (at_builtin; refine wpl_app Tryz.elemStr rfl _ _ rfl own1 1 rfl rfl rfl (by intro u hu; simp at hu; rw [hu]; rfl) (by omega) (by omega) (by omega) ?_; intro v2 w2 hown2 hg2; have hE2 := hE1.own hg2 own1 (Nat.le_refl _); clear own1 hg2 hE1))
      have hown3 := own_eq hown2 (HSum.out.symm) rfl
      obtain ⟨g, cap, rfl⟩ := ownsRow_succ hown2
      clear hown2 HSum cS f1 hsz1 hszw hpl
      obtain ⟨wo, hwo⟩ : ∃ wo, wo = wr := ⟨_, rfl⟩
      subst hwo
      go_loopw [5] (fun x wr => ∃ j : Nat, j ≤ k ∧ x = .int .i64 j ∧ Ext w wr ∧ wr.ownsRow w.heap.size 9 1 (.slice (some ⟨g, 0, none⟩) (k + 1) cap) (k + 1) (((xs.take (k + 1)).map sumL).map Str) ∧ ∀ j', j' < j → ¬ ClashAt xs k j') (fun x _ => k - (intOf x).toNat)
      case atStart => exact ⟨0, by omega, rfl, hE2, hown3, fun j h => by omega⟩
      case round =>
        clear hE2 hown3 hE
        obtain ⟨j, hj, rfl, hE3, hown4, hnj0⟩ := hrel
        have hnj := Kp.mk hnj0; clear hnj0
        by_cases hjk : j < k
        · have hjx : j < xs.length := by omega
          have c1 : wr.cell? ⟨g, j, none⟩ = some (.string (ofL (sumL xs[j]))) := by
            rw [(own_cell hown4 j (by omega)).1]
            simp [Str]
          have c2 : wr.cell? ⟨g, k, none⟩ = some (.string (ofL (sumL xs[k]))) := by
            rw [(own_cell hown4 k (by omega)).1]
            simp [Str]
          have c3 := hcell.out wr hE3 j hjx
          have c4 := hcell.out wr hE3 k hlt
          have hcl := Kp.mk (show ClashAt xs k j ↔ sumL xs[j] = sumL xs[k] ∧ xs[j] ≠ xs[k] from by unfold ClashAt; rw [getD_at xs j [] hjx, getD_at xs k [] hlt])
          obtain ⟨Sj, hSj⟩ : ∃ Sj, sumL xs[j] = Sj := ⟨_, rfl⟩
          obtain ⟨Sk, hSk⟩ : ∃ Sk, sumL xs[k] = Sk := ⟨_, rfl⟩
          obtain ⟨pj, hpj⟩ : ∃ pj, xs[j] = pj := ⟨_, rfl⟩
          obtain ⟨pk, hpk⟩ : ∃ pk, xs[k] = pk := ⟨_, rfl⟩
          rw [hSj] at c1 hcl; rw [hSk] at c2 hcl; rw [hpj] at c3 hcl; rw [hpk] at c4 hcl
          clear hSj hSk hpj hpk
          by_cases q1 : Sj = Sk
          · have t1 : (Sj == Sk) = true := by simp [q1]
            by_cases q2 : pj = pk
            · have hc' := Kp.mk (show ¬ ClashAt xs k j from fun h => (hcl.out.1 h).2 q2)
              have t2 : (pj == pk) = true := by simp [q2]
              clear q1 q2 hcl
              go_wp2
              go_quiet (fail)
              go_wp2
              go_roundw
              case rel => exact ⟨j + 1, by omega, by go_num, hE3.drN _, hown4, fun j' h => by
                rcases Nat.lt_or_ge j' j with h1 | h1
                · exact hnj.out j' h1
                · obtain rfl : j' = j := by omega
                  exact hc'.out⟩
              case measure => simp [intOf]; omega
            · have t2 : (pj == pk) = false := by simp [q2]
              clear q1 q2 hcl
              go_wp2
              go_quiet (fail)
              go_wp2
              go_ret
              exact ⟨true, rfl, fun _ _ _ _ _ => rfl, hE3.drN _⟩
          · have hc' := Kp.mk (show ¬ ClashAt xs k j from fun h => q1 (hcl.out.1 h).1)
            have t1 : (Sj == Sk) = false := by simp [q1]
            clear q1 hcl
            go_wp2
            go_quiet (fail)
            go_wp2
            go_roundw
            case rel => exact ⟨j + 1, by omega, by go_num, hE3.drN _, hown4, fun j' h => by
              rcases Nat.lt_or_ge j' j with h1 | h1
              · exact hnj.out j' h1
              · obtain rfl : j' = j := by omega
                exact hc'.out⟩
            case measure => simp [intOf]; omega
        · go_wp2
          go_roundw
          case rel => exact ⟨k + 1, _, rfl, by omega, by go_num, hE3, hown4, fun i j' h1 h2 => by
            rcases Nat.lt_or_ge i k with h3 | h3
            · exact hno.out i j' h1 h3
            · obtain rfl : i = k := by omega
              exact hnj.out j' (by omega)⟩
          case measure => simp [intOf]; omega
    · clear hown Hca HA
      go_wp2
      go_ret
      exact ⟨false, rfl, fun i j h1 h2 h3 => absurd h3 (hno.out i j h1 (by omega)), hE⟩
end Go.Proofs.YtejhiekikblbiaaGreatDoor
