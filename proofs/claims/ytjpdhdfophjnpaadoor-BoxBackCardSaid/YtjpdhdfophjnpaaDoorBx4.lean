/-
  Package box: Open, Nonce; the reference's Texts; chapter 6's examples hold. Conditions: the package's table holds the constants; texts of at most 100000 bytes.
-/
import Derived.Test.YtjpdhdfophjnpaaDoorBx2
import Derived.Test.YtjpdhdfophjnpaaDoorBx3
import Derived.Test.YtjpdhdfophjnpaaDoorMgE
namespace Go.Proofs.YtjpdhdfophjnpaaDoor
open Go.RowKit

theorem open_any (k s : List UInt8) (w : World) (hT : Tab w) (hk : k.length ≤ 100000) : Calls Tryd.prog 23 #[.string (ofL k), .string (ofL s)] w fun e w' => e = .returned (resV (openR k s)) ∧ Ext w w' := by
  by_cases g1 : s.length < 48
  · rw [openR_end g1]; exact open_end k s w g1
  · by_cases g2 : 4144 < s.length
    · rw [openR_limit g2]; exact open_limit k s w g2
    · have hN : (s.take (s.length - 32)).take 16 = s.take 16 := by rw [List.take_take, Nat.min_eq_left (by omega)]
      have lB : (s.take (s.length - 32)).length = s.length - 32 := by rw [List.length_take]; omega
      have lC : ((s.take (s.length - 32)).drop 16).length ≤ 5000 := by rw [List.length_drop, lB]; omega
      have lN : (s.take 16).length ≤ 16 := by rw [List.length_take]; omega
      have lH : (hideKL k).length = 32 := length_partsL _ _
      have lTK : (tagKL k).length = 32 := length_partsL _ _
      have lS : (hmacL (tagKL k) (s.take (s.length - 32))).length = 32 := length_hmacL _ _
      have c1 : ∀ W v, Tab W → Rd W W.heap.size 1 v 1 ([([104, 105, 100, 101] : List UInt8)].map Str) → Calls Tryd.prog 48 #[.string (ofL k), v] W fun e w' => e = .returned (.string (ofL (hideKL k))) ∧ Ext W w' :=
        fun W v h1 h2 => parts_any k [hideS] v W h1 (by omega) h2 (by rw [len_hide]; omega)
      have c2 : ∀ W, Tab W → Calls Tryd.prog 47 #[.string (ofL (hideKL k)), .string (ofL (s.take 16)), .string (ofL ((s.take (s.length - 32)).drop 16))] W fun e w' => e = .returned (.string (ofL (smixL (hideKL k) (s.take 16) ((s.take (s.length - 32)).drop 16)))) ∧ Ext W w' :=
        fun W h => mix_any _ _ _ W h (by omega) (by omega) (by omega)
      have c3 : ∀ W, Tab W → Calls Tryd.prog 48 #[.string (ofL k), .slice (some ⟨W.heap.size, 0, none⟩) 1 1] (W.alloc (.cells #[.string ⟨#[116, 97, 103]⟩] 9)) fun e w' => e = .returned (.string (ofL (tagKL k))) ∧ Ext W w' :=
        fun W h => parts_lit k [tagS] #[.string ⟨#[116, 97, 103]⟩] rfl 1 rfl W h (by omega) (by rw [len_tag]; omega) (by omega)
      have c4 : ∀ W, Tab W → Calls Tryd.prog 49 #[.string (ofL (tagKL k)), .string (ofL (s.take (s.length - 32)))] W fun e w' => e = .returned (.string (ofL (hmacL (tagKL k) (s.take (s.length - 32))))) ∧ Ext W w' :=
        fun W h => hmac_any _ _ W h (by omega) (by omega)
      have c5 : ∀ W, _ := fun W => same_any (hmacL (tagKL k) (s.take (s.length - 32))) (s.drop (s.length - 32)) W (by omega) (by rw [List.length_drop]; omega)
      rw [openR_mid (by omega) (by omega)]
      by_cases he : hmacL (tagKL k) (s.take (s.length - 32)) = s.drop (s.length - 32)
      · rw [if_pos he]
        exact open_good k s w hT _ rfl (by omega) (by omega) _ _ _ _ _ _ _ _ rfl rfl hN rfl c1 c2 c3 c4 (fun W => (c5 W).mono fun e w' h => ⟨h.1.trans (by rw [decide_eq_true lS, ← he]; simp), h.2⟩)
      · rw [if_neg he]
        exact open_bad k s w hT _ rfl (by omega) (by omega) _ _ _ _ _ _ _ _ rfl rfl hN rfl c1 c2 c3 c4 (fun W => (c5 W).mono fun e w' h => ⟨h.1.trans (by rw [beq_eq_false_iff_ne.2 he, Bool.and_false]), h.2⟩)

def nonceL (s : List UInt8) : List UInt8 := if s.length < 16 then [] else s.take 16
theorem nonce_any (s : List UInt8) (w : World) : Calls Tryd.prog 25 #[.string (ofL s)] w fun e w' => e = .returned (.string (ofL (nonceL s))) ∧ Ext w w' := by
  have zs : (ofL s).size = s.length := size_ofL _
  have x1 : (ofL s).extract 0 16 = ofL (s.take 16) := by rw [extract_to, toL_ofL]
  unfold nonceL
  by_cases g : s.length < 16
  · rw [if_pos g]
    go_enter Tryd.func25, Tryd.ntmps25
    go_wp2
    go_ret
    exact ⟨rfl, Ext.rfl' _⟩
  · rw [if_neg g]
    have g2 : ¬ ((s.length : Int) < 16) := by omega
    go_enter Tryd.func25, Tryd.ntmps25
    go_wp2
    go_ret
    exact ⟨rfl, Ext.rfl' _⟩

set_option maxRecDepth 100000 in
set_option maxHeartbeats 2000000 in
theorem rboxTexts_any (k s : List UInt8) (w : World) (hk : k.length ≤ 100000) (h1 : 48 ≤ s.length) (h2 : s.length ≤ 4144) : Calls Tryd.prog 27 #[.string (ofL k), .string (ofL s)] w (RetOwn w 9 1 4 ((boxT k s).map Str)) := by
  have zs : (ofL s).size = s.length := size_ofL _
  obtain ⟨nn, hnn⟩ : ∃ nn, s.length - 32 = nn := ⟨_, rfl⟩
  have hni : (s.length : Int) - 32 = nn := by omega
  have hw1 : IntKind.i64.wrap (nn : Int) = nn := IntWalk.i64_in _ (by omega)
  have hn2 : nn ≤ s.length := by omega
  obtain ⟨Bd, hB⟩ : ∃ Bd, s.take nn = Bd := ⟨_, rfl⟩
  have lB : Bd.length = nn := by rw [← hB, List.length_take]; omega
  have x1 : (ofL s).extract 0 nn = ofL Bd := by rw [extract_to, toL_ofL, hB]
  obtain ⟨T, hT⟩ : ∃ T, tagKL k = T := ⟨_, rfl⟩
  have lT : T.length = 32 := by rw [← hT]; exact length_partsL _ _
  obtain ⟨F, hF⟩ : ∃ F, frameL [tagS] = F := ⟨_, rfl⟩
  have lF : F.length = 11 := by rw [← hF]; exact len_tag
  have cF := Kp.mk (show ∀ W, Calls Tryd.prog 56 #[.slice (some ⟨W.heap.size, 0, none⟩) 1 1] (W.alloc (.cells #[.string ⟨#[116, 97, 103]⟩] 9)) fun e w' => e = .returned (.string (ofL F)) ∧ Ext W w' from fun W => by
    rw [← hF]
    exact (rframe_any [tagS] _ _ (rd_lit W 9 #[.string ⟨#[116, 97, 103]⟩] 1 rfl (by decide)) (by rw [len_tag]; omega)).mono fun e w' h => ⟨h.1, ((Ext.rfl' W).al _).tr h.2⟩)
  have cX := Kp.mk (show ∀ W : World, _ from fun W => rtexts_any k F W (by omega) (by omega))
  have cP := Kp.mk (show ∀ W v, Rd W W.heap.size 1 v 1 ([tagS].map Str) → Calls Tryd.prog 45 #[.string (ofL k), v] W fun e w' => e = .returned (.string (ofL T)) ∧ Ext W w' from fun W v h => by rw [← hT]; exact rparts_any k [tagS] v W (by omega) h (by rw [len_tag]; omega))
  have cY := Kp.mk (show ∀ W, Calls Tryd.prog 55 #[.string (ofL T), .string (ofL Bd)] W fun e w' => ∃ v, e = .returned v ∧ Ext W w' ∧ Rd w' w'.heap.size 1 v 2 [Str (innerL T Bd), Str (outerL T Bd)] from fun W => (rtexts_any T Bd W (by omega) (by omega)).mono fun e w' ⟨v, h1, h2, h3⟩ => ⟨v, h1, h3, Rd.own h2 (by decide)⟩)
  have hb := Kp.mk (show boxT k s = [innerL k F, outerL k F] ++ [innerL T Bd, outerL T Bd] by unfold boxT pairT; rw [hF, hT, hnn, hB])
  clear hnn hB hT hF
  go_enter Tryd.func27, Tryd.ntmps27
  go_wp2_with fail
  refine (cF.out _).mono ?_
  rintro e w1 ⟨rfl, E1⟩
  go_wp2_with fail
  refine (cX.out _).mono ?_
  rintro e w2 ⟨v2, rfl, own2, E2⟩
  have F2 := E1.tr E2
  have hs1 := E1.size
  have hs12 := E2.size
  clear E2
  go_upto_region 4 with fail
  refine wp_region_tails (fun i v W => match i with
    | 0 => v = v2
    | 1 => v = .string (ofL k)
    | 2 => Rd W W.heap.size 1 v 1 ([tagS].map Str)
    | 3 => v = .string (ofL T)
    | 4 => v = .string (ofL s)
    | 5 => v = .string (ofL s)
    | 6 => v = .int .i64 s.length
    | 7 => v = .int .i64 nn
    | 8 => v = .string (ofL Bd)
    | 9 => Rd W W.heap.size 1 v 2 ([Str (innerL T Bd), Str (outerL T Bd)])
    | _ => True) 10 (by kernel_rfl) (by kernel_rfl) (by kernel_rfl) (by decide) (by kernel_rfl) (by kernel_rfl) (by kernel_rfl) ?_ ?_ ?_
  · intro i v W1 W2 e1 e2 h
    match i, h with
    | 0, h => exact h
    | 1, h => exact h
    | 2, h => exact rd_at h e2
    | 3, h => exact h
    | 4, h => exact h
    | 5, h => exact h
    | 6, h => exact h
    | 7, h => exact h
    | 8, h => exact h
    | 9, h => exact rd_at h e2
    | (i + 10), h => exact h
  · refine localsR_cons (fun u W hW hd => leaves_val rfl (v := v2) (by go_simp) rfl) ?_
    refine localsR_cons (fun u W hW hd => leaves_val rfl (v := .string (ofL k)) (by go_simp) rfl) ?_
    refine localsR_cons (fun u W hW hd => ?_) ?_
    · exact leaves_new rfl (v := .slice (some ⟨W.heap.size, 0, none⟩) 1 1) (by go_simp) ((Ext.rfl' W).al _) (rd_lit W 9 #[.string ⟨#[116, 97, 103]⟩] 1 rfl (by decide))
    refine localsR_cons (fun u W hW hd => ?_) ?_
    · have h1 : u 1 = _ := hd 1 (by kernel_rfl)
      have h2 := hd 2 (by kernel_rfl)
      exact leaves_call rfl (f := 45) (args := #[.string (ofL k), u 2]) (by go_simp) ((cP.out W _ h2).mono (by rintro e9 W9 ⟨rfl, h9⟩; exact ⟨_, rfl, h9, rfl⟩))
    refine localsR_cons (fun u W hW hd => leaves_val rfl (v := .string (ofL s)) (by go_simp) rfl) ?_
    refine localsR_cons (fun u W hW hd => leaves_val rfl (v := .string (ofL s)) (by go_simp) rfl) ?_
    refine localsR_cons (fun u W hW hd => ?_) ?_
    · have h5 : u 5 = _ := hd 5 (by kernel_rfl)
      exact leaves_val rfl (v := .int .i64 s.length) (by go_simp) rfl
    refine localsR_cons (fun u W hW hd => ?_) ?_
    · have h6 : u 6 = _ := hd 6 (by kernel_rfl)
      exact leaves_val rfl (v := .int .i64 nn) (by go_simp) rfl
    refine localsR_cons (fun u W hW hd => ?_) ?_
    · have h4 : u 4 = _ := hd 4 (by kernel_rfl)
      have h7 : u 7 = _ := hd 7 (by kernel_rfl)
      exact leaves_val rfl (v := .string (ofL Bd)) (by go_simp) rfl
    refine localsR_cons (fun u W hW hd => ?_) localsR_nil
    · have h3 : u 3 = _ := hd 3 (by kernel_rfl)
      have h8 : u 8 = _ := hd 8 (by kernel_rfl)
      exact leaves_call rfl (f := 55) (args := #[.string (ofL T), .string (ofL Bd)]) (by go_simp) (cY.out W)
  · intro u W hW hV
    have h0 : u 0 = v2 := hV 0 (by decide)
    obtain ⟨Ax, cx, h9, _, _, hcx⟩ := hV 9 (by decide)
    clear hV
    obtain ⟨bx, ox, rfl, hbx, hcx⟩ := hcx (by omega)
    have hown2 := own_ext own2 (fun j _ hj => hW.block j hj)
    have F3 := F2.tr hW
    have hs2 := F2.size
    have hs3 := F3.size
    have hsW := hW.size
    refine wpl_app_at Tryd.elemStr rfl _ _ rfl hown2 2 (by go_simp) (by go_simp; exact ⟨rfl, rfl⟩) rfl (fun j u hu => by rw [WideShapes.add_plain]; exact hcx j u hu) (by intro u hu; simp at hu; rcases hu with rfl | rfl <;> rfl) (by omega) (by omega) (by omega) ?_
    intro v3 w3 hown3 hg3
    have F4 := F3.own hg3 hown2 (by omega)
    clear hown2 own2 F3 hg3 F2 E1 hW hcx
    go_wp2
    refine bodyPost_ret (v := v3) (by simp [results, Tryd.results27, go_sem]) rfl ⟨v3, rfl, ?_, F4⟩
    exact own_eq (own_more hown3 (by omega)) (by rw [hb.out]; rfl) (by omega)

theorem j_opens : openR [106] (boxL [107] [48, 49, 50, 51, 52, 53, 54, 55, 56, 57, 97, 98, 99, 100, 101, 102] [116, 101, 120, 116]) = ([], 8) := by decide +kernel
end Go.Proofs.YtjpdhdfophjnpaaDoor
