/-
  Package notary: Ticket, Read. Conditions: the package's table holds the constants; texts of at most 100000 bytes.
-/
import Derived.Test.YtejhiekikblbiaaGreatDoorMgJ
import Derived.Test.YtejhiekikblbiaaGreatDoorMgH
namespace Go.Proofs.YtejhiekikblbiaaGreatDoor
open Go.RowKit

theorem len_two (k t : List UInt8) : (frameL [k, t]).length = k.length + t.length + 16 := by simp [frameL, length_be8]; omega
set_option maxRecDepth 100000 in
set_option maxHeartbeats 2000000 in
theorem ticket_any (m n k t : List UInt8) (w : World) (hT : Tab w) (hm : m.length ≤ 100000) (hk : k.length ≤ 100000) (ht : t.length ≤ 100000) : Calls Tryz.prog 9 #[.string (ofL m), .string (ofL n), .string (ofL k), .string (ofL t)] w fun e w' => e = .returned (resV (ticketR m n k t)) ∧ Ext w w' := by
  have hl := len_two k t
  have cF := Kp.mk (show ∀ W, Calls Tryz.prog 36 #[.slice (some ⟨W.heap.size, 0, none⟩) 2 2] (W.alloc (.cells #[.string (ofL k), .string (ofL t)] 9)) fun e w' => e = .returned (.string (ofL (frameL [k, t]))) ∧ Ext W w' from fun W =>
    (frame_any [k, t] _ _ (rd_lit W 9 #[.string (ofL k), .string (ofL t)] 2 rfl (by decide)) (by omega)).mono fun e w' h => ⟨h.1, ((Ext.rfl' W).al _).tr h.2⟩)
  obtain ⟨F, hF⟩ : ∃ F, frameL [k, t] = F := ⟨_, rfl⟩
  have cB := Kp.mk (show ∀ W, Tab W → _ from fun W h => seal_box m n F W h hm)
  unfold ticketR
  rw [hF] at cF ⊢
  obtain ⟨R, hR⟩ : ∃ R, sealR m n F = R := ⟨_, rfl⟩
  rw [hR] at cB ⊢
  obtain ⟨S, x⟩ := R
  unfold resV at *
  dsimp only at cB ⊢
  clear hF hR hl
  go_enter Tryz.func9, Tryz.ntmps9
  go_wp2_with fail
  refine (cF.out _).mono ?_
  rintro e w1 ⟨rfl, E1⟩
  go_wp2_with fail
  refine (cB.out _ (hT.ext E1)).mono ?_
  rintro e w2 ⟨rfl, E2⟩
  go_wp2
  exact bodyPost_ret (v := .tuple #[.string (ofL S), .int .i64 x]) (by simp [results, Tryz.results9, go_sem]) rfl ⟨rfl, E1.tr E2⟩

/-- What a ticket was made of, as values. -/
def readV (r : List UInt8 × List UInt8 × Nat) : Value := .tuple #[.string (ofL r.1), .string (ofL r.2.1), .int .i64 r.2.2]
theorem readR_err {m s : List UInt8} (h : (openR m s).2 ≠ 0) : readR m s = ([], [], (openR m s).2) := by unfold readR; rw [if_neg h]
theorem readR_ok {m s a b : List UInt8} (h : (openR m s).2 = 0) (hl : splitL (openR m s).1 = some [a, b]) : readR m s = (a, b, 0) := by unfold readR; rw [if_pos h, hl]
theorem readR_form {m s : List UInt8} (h : (openR m s).2 = 0) (hl : ∀ a b, splitL (openR m s).1 ≠ some [a, b]) : readR m s = ([], [], 2) := by
  unfold readR
  rw [if_pos h]
  split
  · rename_i a b h2; exact absurd h2 (hl a b)
  · rfl
set_option maxRecDepth 100000 in
set_option maxHeartbeats 4000000 in
theorem read_any (m s : List UInt8) (w : World) (hT : Tab w) (hm : m.length ≤ 100000) (hs : s.length ≤ 100000) : Calls Tryz.prog 11 #[.string (ofL m), .string (ofL s)] w fun e w' => e = .returned (readV (readR m s)) ∧ Ext w w' := by
  have cO := Kp.mk (open_any m s w hT hm)
  have hb := openR_bound m s
  have herr := Kp.mk (fun h => readR_err (m := m) (s := s) h)
  have hok := Kp.mk (fun a b h hl => readR_ok (m := m) (s := s) (a := a) (b := b) h hl)
  have hform := Kp.mk (fun h hl => readR_form (m := m) (s := s) h hl)
  obtain ⟨R, hR⟩ : ∃ R, openR m s = R := ⟨_, rfl⟩
  rw [hR] at cO hb herr hok hform
  obtain ⟨T, x⟩ := R
  unfold resV at cO
  dsimp only at cO hb herr hok hform
  clear hR
  obtain ⟨r, hr⟩ : ∃ r, readR m s = r := ⟨_, rfl⟩
  rw [hr] at herr hok hform ⊢
  clear hr
  by_cases hx : x = 0
  · subst hx
    have cS := Kp.mk (fun W => split_any T W (by omega))
    have hok := Kp.mk (fun a b hl => hok.out a b rfl hl)
    have hform := Kp.mk (fun hl => hform.out rfl hl)
    clear herr
    cases hsp : splitL T with
    | none =>
      have hr2 := Kp.mk (hform.out (fun a b h => by rw [hsp] at h; cases h))
      have cS2 := Kp.mk (fun W => (cS.out W).mono fun e w' (h : SplitPost W T e w') => And.intro (h.2.1 hsp) h.2.2)
      clear hsp hok hform cS
      go_enter Tryz.func11, Tryz.ntmps11
      go_wp2_with fail
      refine cO.out.mono ?_
      rintro e w1 ⟨rfl, E1⟩
      go_wp2_with fail
      refine (cS2.out _).mono ?_
      rintro e w2 ⟨rfl, E2⟩
      go_wp2
      exact bodyPost_ret (v := .tuple #[.string ⟨#[]⟩, .string ⟨#[]⟩, .int .i64 2]) (by simp [results, Tryz.results11, go_sem]) rfl ⟨by rw [hr2.out]; rfl, E1.tr E2⟩
    | some l =>
      have cS2 := Kp.mk (fun W => (cS.out W).mono fun e w' (h : SplitPost W T e w') => And.intro (h.1 l hsp) h.2.2)
      by_cases hl2 : l.length = 2
      · obtain ⟨a, b, rfl⟩ : ∃ a b, l = [a, b] := by
          match l, hl2 with
          | [a, b], _ => exact ⟨a, b, rfl⟩
        have hr2 := Kp.mk (hok.out a b hsp)
        clear hsp hok hform cS hl2
        go_enter Tryz.func11, Tryz.ntmps11
        go_wp2_with fail
        refine cO.out.mono ?_
        rintro e w1 ⟨rfl, E1⟩
        go_wp2_with fail
        refine (cS2.out _).mono ?_
        rintro e w2 ⟨⟨v, rfl, own⟩, E2⟩
        dsimp only [List.length_cons, List.length_nil] at own
        obtain ⟨g, c, rfl⟩ := ownsRow_succ own
        have q0 := Kp.mk (show ∀ W, Ext w2 W → W.cell? ⟨g, 0, none⟩ = some (.string (ofL a)) from fun W hW => ((bcell hW).1 g 0 (own.lt g rfl).2).trans (own.cellAt 0 (by decide)))
        have q1 := Kp.mk (show ∀ W, Ext w2 W → W.cell? ⟨g, 1, none⟩ = some (.string (ofL b)) from fun W hW => ((bcell hW).1 g 1 (own.lt g rfl).2).trans (own.cellAt 1 (by decide)))
        have F2 := E1.tr E2
        clear own E1 E2 cS2 cO
        go_upto_region 7 with fail
        refine wp_region_stage [] (fun bs W => Ext w2 W) (fun bs i v W => match i with
          | 0 => v = .slice (some ⟨g, 0, none⟩) 2 c
          | 1 => v = .pointer (some ⟨g, 0, none⟩)
          | 2 => v = .string (ofL a)
          | 3 => v = .slice (some ⟨g, 0, none⟩) 2 c
          | 4 => v = .pointer (some ⟨g, 1, none⟩)
          | 5 => v = .string (ofL b)
          | 6 => v = .string (ofL a)
          | 7 => v = .string (ofL b)
          | 8 => v = .int .i64 0
          | _ => True) (cs_inj (by decide)) (by decide) (by kernel_rfl) (by kernel_rfl) (by kernel_rfl) ((Ext.rfl' w2).dr) (fun bs W1 W2 h e => h.tr e) ?_ ?_ ?_
        · intro bs i v W1 W2 e1 e2 h
          match i, h with
          | 0, h => exact h
          | 1, h => exact h
          | 2, h => exact h
          | 3, h => exact h
          | 4, h => exact h
          | 5, h => exact h
          | 6, h => exact h
          | 7, h => exact h
          | 8, h => exact h
          | (i + 9), h => exact h
        · refine localsQ_ord (by decide) (fun bs u W hbs hW hno hd => leaves_val rfl (v := .slice (some ⟨g, 0, none⟩) 2 c) (by go_simp) rfl) ?_
          refine localsQ_ord (by decide) (fun bs u W hbs hW hno hd => ?_) ?_
          · have h0 : u 0 = _ := hd 0 (by kernel_rfl)
            exact leaves_val rfl (v := .pointer (some ⟨g, 0, none⟩)) (by go_simp) rfl
          refine localsQ_ord (by decide) (fun bs u W hbs hW hno hd => ?_) ?_
          · have h1 : u 1 = _ := hd 1 (by kernel_rfl)
            have q0 := q0.out W hW
            exact leaves_val rfl (v := .string (ofL a)) (by go_simp) rfl
          refine localsQ_ord (by decide) (fun bs u W hbs hW hno hd => leaves_val rfl (v := .slice (some ⟨g, 0, none⟩) 2 c) (by go_simp) rfl) ?_
          refine localsQ_ord (by decide) (fun bs u W hbs hW hno hd => ?_) ?_
          · have h3 : u 3 = _ := hd 3 (by kernel_rfl)
            exact leaves_val rfl (v := .pointer (some ⟨g, 1, none⟩)) (by go_simp) rfl
          refine localsQ_ord (by decide) (fun bs u W hbs hW hno hd => ?_) ?_
          · have h4 : u 4 = _ := hd 4 (by kernel_rfl)
            have q1 := q1.out W hW
            exact leaves_val rfl (v := .string (ofL b)) (by go_simp) rfl
          refine localsQ_ord (by decide) (fun bs u W hbs hW hno hd => ?_) ?_
          · have h2 : u 2 = _ := hd 2 (by kernel_rfl)
            exact leaves_val rfl (v := .string (ofL a)) (by go_simp) rfl
          refine localsQ_ord (by decide) (fun bs u W hbs hW hno hd => ?_) ?_
          · have h5 : u 5 = _ := hd 5 (by kernel_rfl)
            exact leaves_val rfl (v := .string (ofL b)) (by go_simp) rfl
          exact localsQ_ord (by decide) (fun bs u W hbs hW hno hd => leaves_val rfl (v := .int .i64 0) (by go_simp) rfl) localsQ_nil
        · intro u W E hV
          have h6 : u 6 = _ := hV 6 (by decide)
          have h7 : u 7 = _ := hV 7 (by decide)
          have h8 : u 8 = _ := hV 8 (by decide)
          clear hV
          go_wp2
          exact bodyPost_ret (v := .tuple #[.string (ofL a), .string (ofL b), .int .i64 0]) (by simp [results, Tryz.results11, go_sem, h6, h7, h8]) rfl ⟨by rw [hr2.out]; rfl, F2.tr E⟩
      · have hr2 := Kp.mk (hform.out (fun a b h => by rw [hsp] at h; cases h; exact hl2 rfl))
        have d : ((l.length : Int) != 2) = true := by simp; omega
        clear hsp hok hform cS hl2
        go_enter Tryz.func11, Tryz.ntmps11
        go_wp2_with fail
        refine cO.out.mono ?_
        rintro e w1 ⟨rfl, E1⟩
        go_wp2_with fail
        refine (cS2.out _).mono ?_
        rintro e w2 ⟨⟨v, rfl, own⟩, E2⟩
        obtain ⟨Av, cv, rfl⟩ := own_slice own
        clear own
        go_wp2
        exact bodyPost_ret (v := .tuple #[.string ⟨#[]⟩, .string ⟨#[]⟩, .int .i64 2]) (by simp [results, Tryz.results11, go_sem]) rfl ⟨by rw [hr2.out]; rfl, E1.tr E2⟩
  · have hr2 := Kp.mk (herr.out hx)
    have d : ((x : Int) != 0) = true := by simp; omega
    clear herr hok hform hx
    go_enter Tryz.func11, Tryz.ntmps11
    go_wp2_with fail
    refine cO.out.mono ?_
    rintro e w1 ⟨rfl, E1⟩
    go_wp2
    exact bodyPost_ret (v := .tuple #[.string ⟨#[]⟩, .string ⟨#[]⟩, .int .i64 x]) (by simp [results, Tryz.results11, go_sem]) rfl ⟨by rw [hr2.out]; rfl, E1⟩
end Go.Proofs.YtejhiekikblbiaaGreatDoor
