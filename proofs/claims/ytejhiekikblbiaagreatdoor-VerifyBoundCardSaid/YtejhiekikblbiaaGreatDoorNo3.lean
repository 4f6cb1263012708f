/-
  Chapter 36's examples hold. Condition: the package's table holds the constants.
-/
import Derived.Test.YtejhiekikblbiaaGreatDoorNo2
namespace Go.Proofs.YtejhiekikblbiaaGreatDoor
open Go.RowKit

def nonceN : List UInt8 := [48, 49, 50, 51, 52, 53, 54, 55, 56, 57, 97, 98, 99, 100, 101, 102]
def mondayS : List UInt8 := [105, 115, 32, 105, 116, 32, 109, 111, 110, 100, 97, 121]
def beforeS : List UInt8 := [98, 101, 102, 111, 114, 101, 32, 57]
theorem ticketR_ok {m n k t : List UInt8} (h1 : n.length = 16) (h2 : k.length + t.length ≤ 4000) : ticketR m n k t = (boxL m n (frameL [k, t]), 0) := by
  unfold ticketR; exact sealR_ok h1 (by rw [len_two]; omega)
theorem read_ticket {m n k t : List UInt8} (h1 : n.length = 16) (h2 : k.length + t.length ≤ 4000) : readR m (boxL m n (frameL [k, t])) = (k, t, 0) := by
  have h := open_box m n (frameL [k, t]) h1 (by rw [len_two]; omega)
  refine readR_ok (by rw [h]) ?_
  rw [h]
  exact split_frame _ (by intro p hp; simp at hp; rcases hp with rfl | rfl <;> omega)
theorem m_reads : (openR [109] (boxL [110] nonceN (frameL [[107], mondayS]))).2 = 8 := by decide +kernel
set_option maxRecDepth 100000 in
set_option maxHeartbeats 4000000 in
theorem noworks_any (w : World) (hT : Tab w) : Calls Tryz.prog 8 #[] w fun e w' => e = .returned (.bool true) ∧ Ext w w' := by
  obtain ⟨S, hS⟩ : ∃ S, boxL [110] nonceN (frameL [[107], mondayS]) = S := ⟨_, rfl⟩
  have lS : S.length = 77 := by rw [← hS, length_boxL, len_two]; rfl
  obtain ⟨R, hR⟩ : ∃ R, rootL [107] S = R := ⟨_, rfl⟩
  have lR : R.length = 32 := by rw [← hR]; exact length_partsL _ _
  obtain ⟨X, hX⟩ : ∃ X, nextL R (beforeS, []) = X := ⟨_, rfl⟩
  have lX : X.length = 32 := by rw [← hX]; exact length_partsL _ _
  have hrd : readR [110] S = ([107], mondayS, 0) := by rw [← hS]; exact read_ticket rfl (by decide)
  have hdis : dischargeR [110] S [beforeS] = (⟨S, [(beforeS, [])], X⟩, 0) := by
    rw [dischargeR_ok (by rw [hrd]), hrd]
    dsimp only
    rw [hR, addsL_cons, addL_ok (by simp) (by decide), if_pos rfl]
    unfold addsL withL
    dsimp only
    rw [hX]; rfl
  have cT := Kp.mk (show Calls Tryz.prog 9 #[.string ⟨#[110]⟩, .string ⟨#[48, 49, 50, 51, 52, 53, 54, 55, 56, 57, 97, 98, 99, 100, 101, 102]⟩, .string ⟨#[107]⟩, .string ⟨#[105, 115, 32, 105, 116, 32, 109, 111, 110, 100, 97, 121]⟩] w fun e w' => e = .returned (.tuple #[.string (ofL S), .int .i64 0]) ∧ Ext w w' from by
    have h := ticket_any [110] nonceN [107] mondayS w hT (by decide) (by decide) (by decide)
    rw [ticketR_ok rfl (by decide), hS] at h
    exact h)
  have cR := Kp.mk (show ∀ W, Tab W → Calls Tryz.prog 11 #[.string ⟨#[110]⟩, .string (ofL S)] W fun e w' => e = .returned (.tuple #[.string ⟨#[107]⟩, .string ⟨#[105, 115, 32, 105, 116, 32, 109, 111, 110, 100, 97, 121]⟩, .int .i64 0]) ∧ Ext W w' from fun W h => by
    have h := read_any [110] S W h (by decide) (by omega)
    rw [hrd] at h
    exact h)
  have cM := Kp.mk (show ∀ W, Tab W → Calls Tryz.prog 11 #[.string ⟨#[109]⟩, .string (ofL S)] W fun e w' => e = .returned (.tuple #[.string ⟨#[]⟩, .string ⟨#[]⟩, .int .i64 8]) ∧ Ext W w' from fun W h => by
    have h := read_any [109] S W h (by decide) (by omega)
    have h8 : (openR [109] S).2 = 8 := by rw [← hS]; exact m_reads
    rw [readR_err (by rw [h8]; decide), h8] at h
    exact h)
  have cD := Kp.mk (show ∀ W, Tab W → Calls Tryz.prog 13 #[.string ⟨#[110]⟩, .string (ofL S), .slice (some ⟨W.heap.size, 0, none⟩) 1 1] (W.alloc (.cells #[.string ⟨#[98, 101, 102, 111, 114, 101, 32, 57]⟩] 9)) fun e w' => ∃ v, e = .returned (.tuple #[.agg #[.string (ofL S), v, .string (ofL X)], .int .i64 0]) ∧ w'.ownsRow W.heap.size 72 2 v 1 (linkCells [(beforeS, [])]) ∧ Ext W w' from fun W h => by
    have h2 := discharge_any [110] S (some ⟨W.heap.size, 0, none⟩) 1 [beforeS] _ (h.ext ((Ext.rfl' W).al _)) (by decide) (by omega) (rd_lit W 9 #[.string ⟨#[98, 101, 102, 111, 114, 101, 32, 57]⟩] 1 rfl (by decide)) (by intro x hx; simp at hx; rw [hx]; decide)
    rw [hdis] at h2
    exact h2.mono fun e w' ⟨v, h3, h4, h5⟩ => ⟨v, h3, own_more h4 (by simp), ((Ext.rfl' W).al _).tr h5⟩)
  have cL := Kp.mk (show ∀ (A : Option Addr) (c : Nat) (W : World), Tab W → RdLinks W W.heap.size (.slice A 1 c) [(beforeS, [])] → Calls Tryz.prog 34 #[.string ⟨#[107]⟩, .agg #[.string (ofL S), .slice A 1 c, .string (ofL X)]] W fun e w' => e = .returned (.string (ofL X)) ∧ Ext W w' from fun A c W h1 h2 => by
    have h := last_any [107] S X (.slice A 1 c) [(beforeS, [])] W h1 (by decide) (by omega) h2 (by intro x hx; simp at hx; rw [hx]; decide) (by decide)
    have h9 : lastL [107] S [(beforeS, [])] = X := by rw [← hX, ← hR]; rfl
    rw [h9] at h
    exact h)
  clear hS hR hX hrd hdis
  go_enter Tryz.func8, Tryz.ntmps8
  go_wp2_with fail
  refine cT.out.mono ?_
  rintro e w1 ⟨rfl, E1⟩
  go_wp2_with fail
  refine (cR.out _ (hT.ext E1)).mono ?_
  rintro e w2 ⟨rfl, E2⟩
  have F2 := E1.tr E2
  go_wp2_with fail
  refine (cD.out _ (hT.ext F2)).mono ?_
  rintro e w3 ⟨v, rfl, own, E3⟩
  obtain ⟨g, c9, rfl⟩ := ownsRow_succ own
  have F3 := F2.tr E3
  have hown := Kp.mk own
  clear own E1 E2 F2 cT cR cD
  obtain ⟨W4, hW4, G4, B4⟩ := tokbox w3 (.string (ofL S)) (.slice (some ⟨g, 0, none⟩) 1 c9) (.string (ofL X))
  have HW4 := Kp.mk hW4
  have hL : RdLinks W4 W4.heap.size (.slice (some ⟨g, 0, none⟩) 1 c9) [(beforeS, [])] := rd_at (own_links (l := [(beforeS, [])]) hown.out rfl) G4
  have F4 := F3.tr G4
  clear hW4 G4 F3 E3 hown
  go_wp2_with fail
  rw [HW4.out]
  refine (cM.out _ (hT.ext F4)).mono ?_
  rintro e w5 ⟨rfl, E5⟩
  have F5 := F4.tr E5
  have A5 := B4.ext E5 B4.lt
  have L5 := rd_at hL E5
  clear F4 E5 B4 hL HW4 cM
  go_upto_region 5 with fail
  refine wp_region_stage [] (fun bs W => Ext w5 W) (fun bs i v W => match i with
    | 0 => v = .int .i64 0
    | 1 => v = .bool true
    | 2 => v = .bool true
    | 3 => v = .string ⟨#[107]⟩
    | 4 => v = .bool true
    | 5 => v = .bool true
    | 6 => v = .bool true
    | 7 => v = .string ⟨#[105, 115, 32, 105, 116, 32, 109, 111, 110, 100, 97, 121]⟩
    | 8 => v = .bool true
    | 9 => v = .bool true
    | 10 => v = .bool true
    | 11 => v = .int .i64 0
    | 12 => v = .bool true
    | 13 => v = .bool true
    | 14 => v = .bool true
    | 15 => v = .int .i64 0
    | 16 => v = .bool true
    | 17 => v = .bool true
    | 18 => v = .bool true
    | 19 => v = .pointer (some ⟨w3.heap.size, 0, none⟩)
    | 20 => v = .string (ofL S)
    | 21 => v = .string (ofL S)
    | 22 => v = .bool true
    | 23 => v = .bool true
    | 24 => v = .bool true
    | 25 => v = .pointer (some ⟨w3.heap.size, 1, none⟩)
    | 26 => v = .slice (some ⟨g, 0, none⟩) 1 c9
    | 27 => v = .int .i64 1
    | 28 => v = .bool true
    | 29 => v = .bool true
    | 30 => v = .bool true
    | 31 => v = .pointer (some ⟨w3.heap.size, 2, none⟩)
    | 32 => v = .string (ofL X)
    | 33 => v = .agg #[.string (ofL S), .slice (some ⟨g, 0, none⟩) 1 c9, .string (ofL X)]
    | 34 => v = .string (ofL X)
    | 35 => v = .bool true
    | 36 => v = .bool true
    | 37 => v = .bool true
    | 38 => v = .int .i64 8
    | 39 => v = .bool true
    | 40 => v = .bool true
    | 41 => v = .bool true
    | _ => True) (cs_inj (by decide)) (by decide) (by kernel_rfl) (by kernel_rfl) (by kernel_rfl) ((Ext.rfl' w5).dr) (fun bs W1 W2 h e => h.tr e) ?_ ?_ ?_
  · intro bs i v W1 W2 e1 e2 h
    match i, h with
    | 0, h => exact h
    | 1, h => exact h
    | 2, h => exact h
    | 3, h => exact h
    | 4, h => exact h
    | 5, h => exact h
    | 6, h => exact h
    | 7, h => exact h
    | 8, h => exact h
    | 9, h => exact h
    | 10, h => exact h
    | 11, h => exact h
    | 12, h => exact h
    | 13, h => exact h
    | 14, h => exact h
    | 15, h => exact h
    | 16, h => exact h
    | 17, h => exact h
    | 18, h => exact h
    | 19, h => exact h
    | 20, h => exact h
    | 21, h => exact h
    | 22, h => exact h
    | 23, h => exact h
    | 24, h => exact h
    | 25, h => exact h
    | 26, h => exact h
    | 27, h => exact h
    | 28, h => exact h
    | 29, h => exact h
    | 30, h => exact h
    | 31, h => exact h
    | 32, h => exact h
    | 33, h => exact h
    | 34, h => exact h
    | 35, h => exact h
    | 36, h => exact h
    | 37, h => exact h
    | 38, h => exact h
    | 39, h => exact h
    | 40, h => exact h
    | 41, h => exact h
    | (i + 42), h => exact h
  · refine localsQ_ord (by decide) (fun bs u W hbs hW hno hd => leaves_val rfl (v := .int .i64 0) (by go_simp) rfl) ?_
    refine localsQ_ord (by decide) (fun bs u W hbs hW hno hd => ?_) ?_
    · have h0 : u 0 = _ := hd 0 (by kernel_rfl)
      exact leaves_val rfl (v := .bool true) (by go_simp) rfl
    refine localsQ_ord (by decide) (fun bs u W hbs hW hno hd => ?_) ?_
    · have h1 : u 1 = _ := hd 1 (by kernel_rfl)
      exact leaves_val rfl (v := .bool true) (by go_simp) rfl
    refine localsQ_ord (by decide) (fun bs u W hbs hW hno hd => ?_) ?_
    · have h2 : u 2 = _ := hd 2 (by kernel_rfl)
      exact leaves_val (by simp [Region.wanted, yielded, go_sem, h2]) (v := .string ⟨#[107]⟩) (by go_simp) rfl
    refine localsQ_ord (by decide) (fun bs u W hbs hW hno hd => ?_) ?_
    · have h2 : u 2 = _ := hd 2 (by kernel_rfl)
      have h3 : u 3 = _ := hd 3 (by kernel_rfl)
      exact leaves_val (by simp [Region.wanted, yielded, go_sem, h2]) (v := .bool true) (by go_simp) rfl
    refine localsQ_ord (by decide) (fun bs u W hbs hW hno hd => ?_) ?_
    · have h2 : u 2 = _ := hd 2 (by kernel_rfl)
      have h4 : u 4 = _ := hd 4 (by kernel_rfl)
      exact leaves_val rfl (v := .bool true) (by go_simp) rfl
    refine localsQ_ord (by decide) (fun bs u W hbs hW hno hd => ?_) ?_
    · have h5 : u 5 = _ := hd 5 (by kernel_rfl)
      exact leaves_val rfl (v := .bool true) (by go_simp) rfl
    refine localsQ_ord (by decide) (fun bs u W hbs hW hno hd => ?_) ?_
    · have h6 : u 6 = _ := hd 6 (by kernel_rfl)
      exact leaves_val (by simp [Region.wanted, yielded, go_sem, h6]) (v := .string ⟨#[105, 115, 32, 105, 116, 32, 109, 111, 110, 100, 97, 121]⟩) (by go_simp) rfl
    refine localsQ_ord (by decide) (fun bs u W hbs hW hno hd => ?_) ?_
    · have h6 : u 6 = _ := hd 6 (by kernel_rfl)
      have h7 : u 7 = _ := hd 7 (by kernel_rfl)
      exact leaves_val (by simp [Region.wanted, yielded, go_sem, h6]) (v := .bool true) (by go_simp) rfl
    refine localsQ_ord (by decide) (fun bs u W hbs hW hno hd => ?_) ?_
    · have h6 : u 6 = _ := hd 6 (by kernel_rfl)
      have h8 : u 8 = _ := hd 8 (by kernel_rfl)
      exact leaves_val rfl (v := .bool true) (by go_simp) rfl
    refine localsQ_ord (by decide) (fun bs u W hbs hW hno hd => ?_) ?_
    · have h9 : u 9 = _ := hd 9 (by kernel_rfl)
      exact leaves_val rfl (v := .bool true) (by go_simp) rfl
    refine localsQ_ord (by decide) (fun bs u W hbs hW hno hd => ?_) ?_
    · have h10 : u 10 = _ := hd 10 (by kernel_rfl)
      exact leaves_val (by simp [Region.wanted, yielded, go_sem, h10]) (v := .int .i64 0) (by go_simp) rfl
    refine localsQ_ord (by decide) (fun bs u W hbs hW hno hd => ?_) ?_
    · have h10 : u 10 = _ := hd 10 (by kernel_rfl)
      have h11 : u 11 = _ := hd 11 (by kernel_rfl)
      exact leaves_val (by simp [Region.wanted, yielded, go_sem, h10]) (v := .bool true) (by go_simp) rfl
    refine localsQ_ord (by decide) (fun bs u W hbs hW hno hd => ?_) ?_
    · have h10 : u 10 = _ := hd 10 (by kernel_rfl)
      have h12 : u 12 = _ := hd 12 (by kernel_rfl)
      exact leaves_val rfl (v := .bool true) (by go_simp) rfl
    refine localsQ_ord (by decide) (fun bs u W hbs hW hno hd => ?_) ?_
    · have h13 : u 13 = _ := hd 13 (by kernel_rfl)
      exact leaves_val rfl (v := .bool true) (by go_simp) rfl
    refine localsQ_ord (by decide) (fun bs u W hbs hW hno hd => ?_) ?_
    · have h14 : u 14 = _ := hd 14 (by kernel_rfl)
      exact leaves_val (by simp [Region.wanted, yielded, go_sem, h14]) (v := .int .i64 0) (by go_simp) rfl
    refine localsQ_ord (by decide) (fun bs u W hbs hW hno hd => ?_) ?_
    · have h14 : u 14 = _ := hd 14 (by kernel_rfl)
      have h15 : u 15 = _ := hd 15 (by kernel_rfl)
      exact leaves_val (by simp [Region.wanted, yielded, go_sem, h14]) (v := .bool true) (by go_simp) rfl
    refine localsQ_ord (by decide) (fun bs u W hbs hW hno hd => ?_) ?_
    · have h14 : u 14 = _ := hd 14 (by kernel_rfl)
      have h16 : u 16 = _ := hd 16 (by kernel_rfl)
      exact leaves_val rfl (v := .bool true) (by go_simp) rfl
    refine localsQ_ord (by decide) (fun bs u W hbs hW hno hd => ?_) ?_
    · have h17 : u 17 = _ := hd 17 (by kernel_rfl)
      exact leaves_val rfl (v := .bool true) (by go_simp) rfl
    refine localsQ_ord (by decide) (fun bs u W hbs hW hno hd => ?_) ?_
    · have h18 : u 18 = _ := hd 18 (by kernel_rfl)
      exact leaves_val (by simp [Region.wanted, yielded, go_sem, h18]) (v := .pointer (some ⟨w3.heap.size, 0, none⟩)) (by go_simp) rfl
    refine localsQ_ord (by decide) (fun bs u W hbs hW hno hd => ?_) ?_
    · have h18 : u 18 = _ := hd 18 (by kernel_rfl)
      have h19 : u 19 = _ := hd 19 (by kernel_rfl)
      have r1 := (A5.ext hW A5.lt).cell 0
      simp only [List.getElem?_cons_zero] at r1
      exact leaves_val (by simp [Region.wanted, yielded, go_sem, h18]) (v := .string (ofL S)) (by go_simp) rfl
    refine localsQ_ord (by decide) (fun bs u W hbs hW hno hd => ?_) ?_
    · have h18 : u 18 = _ := hd 18 (by kernel_rfl)
      exact leaves_val (by simp [Region.wanted, yielded, go_sem, h18]) (v := .string (ofL S)) (by go_simp) rfl
    refine localsQ_ord (by decide) (fun bs u W hbs hW hno hd => ?_) ?_
    · have h18 : u 18 = _ := hd 18 (by kernel_rfl)
      have h20 : u 20 = _ := hd 20 (by kernel_rfl)
      have h21 : u 21 = _ := hd 21 (by kernel_rfl)
      exact leaves_val (by simp [Region.wanted, yielded, go_sem, h18]) (v := .bool true) (by go_simp) rfl
    refine localsQ_ord (by decide) (fun bs u W hbs hW hno hd => ?_) ?_
    · have h18 : u 18 = _ := hd 18 (by kernel_rfl)
      have h22 : u 22 = _ := hd 22 (by kernel_rfl)
      exact leaves_val rfl (v := .bool true) (by go_simp) rfl
    refine localsQ_ord (by decide) (fun bs u W hbs hW hno hd => ?_) ?_
    · have h23 : u 23 = _ := hd 23 (by kernel_rfl)
      exact leaves_val rfl (v := .bool true) (by go_simp) rfl
    refine localsQ_ord (by decide) (fun bs u W hbs hW hno hd => ?_) ?_
    · have h24 : u 24 = _ := hd 24 (by kernel_rfl)
      exact leaves_val (by simp [Region.wanted, yielded, go_sem, h24]) (v := .pointer (some ⟨w3.heap.size, 1, none⟩)) (by go_simp) rfl
    refine localsQ_ord (by decide) (fun bs u W hbs hW hno hd => ?_) ?_
    · have h24 : u 24 = _ := hd 24 (by kernel_rfl)
      have h25 : u 25 = _ := hd 25 (by kernel_rfl)
      have r1 := (A5.ext hW A5.lt).cell 1
      simp only [List.getElem?_cons_zero, List.getElem?_cons_succ] at r1
      exact leaves_val (by simp [Region.wanted, yielded, go_sem, h24]) (v := .slice (some ⟨g, 0, none⟩) 1 c9) (by go_simp) rfl
    refine localsQ_ord (by decide) (fun bs u W hbs hW hno hd => ?_) ?_
    · have h24 : u 24 = _ := hd 24 (by kernel_rfl)
      have h26 : u 26 = _ := hd 26 (by kernel_rfl)
      exact leaves_val (by simp [Region.wanted, yielded, go_sem, h24]) (v := .int .i64 1) (by go_simp) rfl
    refine localsQ_ord (by decide) (fun bs u W hbs hW hno hd => ?_) ?_
    · have h24 : u 24 = _ := hd 24 (by kernel_rfl)
      have h27 : u 27 = _ := hd 27 (by kernel_rfl)
      exact leaves_val (by simp [Region.wanted, yielded, go_sem, h24]) (v := .bool true) (by go_simp) rfl
    refine localsQ_ord (by decide) (fun bs u W hbs hW hno hd => ?_) ?_
    · have h24 : u 24 = _ := hd 24 (by kernel_rfl)
      have h28 : u 28 = _ := hd 28 (by kernel_rfl)
      exact leaves_val rfl (v := .bool true) (by go_simp) rfl
    refine localsQ_ord (by decide) (fun bs u W hbs hW hno hd => ?_) ?_
    · have h29 : u 29 = _ := hd 29 (by kernel_rfl)
      exact leaves_val rfl (v := .bool true) (by go_simp) rfl
    refine localsQ_ord (by decide) (fun bs u W hbs hW hno hd => ?_) ?_
    · have h30 : u 30 = _ := hd 30 (by kernel_rfl)
      exact leaves_val (by simp [Region.wanted, yielded, go_sem, h30]) (v := .pointer (some ⟨w3.heap.size, 2, none⟩)) (by go_simp) rfl
    refine localsQ_ord (by decide) (fun bs u W hbs hW hno hd => ?_) ?_
    · have h30 : u 30 = _ := hd 30 (by kernel_rfl)
      have h31 : u 31 = _ := hd 31 (by kernel_rfl)
      have r1 := (A5.ext hW A5.lt).cell 2
      simp only [List.getElem?_cons_zero, List.getElem?_cons_succ] at r1
      exact leaves_val (by simp [Region.wanted, yielded, go_sem, h30]) (v := .string (ofL X)) (by go_simp) rfl
    refine localsQ_ord (by decide) (fun bs u W hbs hW hno hd => ?_) ?_
    · have h30 : u 30 = _ := hd 30 (by kernel_rfl)
      have r0 := (A5.ext hW A5.lt).cell 0; have r1 := (A5.ext hW A5.lt).cell 1; have r2 := (A5.ext hW A5.lt).cell 2
      simp only [List.getElem?_cons_zero, List.getElem?_cons_succ] at r0 r1 r2
      exact leaves_val (by simp [Region.wanted, yielded, go_sem, h30]) (v := .agg #[.string (ofL S), .slice (some ⟨g, 0, none⟩) 1 c9, .string (ofL X)]) (by go_simp) rfl
    refine localsQ_ord (by decide) (fun bs u W hbs hW hno hd => ?_) ?_
    · have h30 : u 30 = _ := hd 30 (by kernel_rfl)
      have h33 : u 33 = _ := hd 33 (by kernel_rfl)
      exact leaves_call (by simp [Region.wanted, yielded, go_sem, h30]) (f := 34) (args := #[.string ⟨#[107]⟩, .agg #[.string (ofL S), .slice (some ⟨g, 0, none⟩) 1 c9, .string (ofL X)]]) (by go_simp) ((cL.out _ _ W (hT.ext (F5.tr hW)) (rd_at L5 hW)).mono (by rintro e9 W9 ⟨rfl, h9⟩; exact ⟨_, rfl, h9, rfl⟩))
    refine localsQ_ord (by decide) (fun bs u W hbs hW hno hd => ?_) ?_
    · have h30 : u 30 = _ := hd 30 (by kernel_rfl)
      have h32 : u 32 = _ := hd 32 (by kernel_rfl)
      have h34 : u 34 = _ := hd 34 (by kernel_rfl)
      exact leaves_val (by simp [Region.wanted, yielded, go_sem, h30]) (v := .bool true) (by go_simp) rfl
    refine localsQ_ord (by decide) (fun bs u W hbs hW hno hd => ?_) ?_
    · have h30 : u 30 = _ := hd 30 (by kernel_rfl)
      have h35 : u 35 = _ := hd 35 (by kernel_rfl)
      exact leaves_val rfl (v := .bool true) (by go_simp) rfl
    refine localsQ_ord (by decide) (fun bs u W hbs hW hno hd => ?_) ?_
    · have h36 : u 36 = _ := hd 36 (by kernel_rfl)
      exact leaves_val rfl (v := .bool true) (by go_simp) rfl
    refine localsQ_ord (by decide) (fun bs u W hbs hW hno hd => ?_) ?_
    · have h37 : u 37 = _ := hd 37 (by kernel_rfl)
      exact leaves_val (by simp [Region.wanted, yielded, go_sem, h37]) (v := .int .i64 8) (by go_simp) rfl
    refine localsQ_ord (by decide) (fun bs u W hbs hW hno hd => ?_) ?_
    · have h37 : u 37 = _ := hd 37 (by kernel_rfl)
      have h38 : u 38 = _ := hd 38 (by kernel_rfl)
      exact leaves_val (by simp [Region.wanted, yielded, go_sem, h37]) (v := .bool true) (by go_simp) rfl
    refine localsQ_ord (by decide) (fun bs u W hbs hW hno hd => ?_) ?_
    · have h37 : u 37 = _ := hd 37 (by kernel_rfl)
      have h39 : u 39 = _ := hd 39 (by kernel_rfl)
      exact leaves_val rfl (v := .bool true) (by go_simp) rfl
    refine localsQ_ord (by decide) (fun bs u W hbs hW hno hd => ?_) localsQ_nil
    · have h40 : u 40 = _ := hd 40 (by kernel_rfl)
      exact leaves_val rfl (v := .bool true) (by go_simp) rfl
  · intro u W E hV
    have h41 : u 41 = .bool true := hV 41 (by decide)
    clear hV
    go_wp2
    exact bodyPost_ret (v := .bool true) (by simp [results, Tryz.results8, go_sem, h41]) rfl ⟨rfl, F5.tr E⟩
end Go.Proofs.YtejhiekikblbiaaGreatDoor
