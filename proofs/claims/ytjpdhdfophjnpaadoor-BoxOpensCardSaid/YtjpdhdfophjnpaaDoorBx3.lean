/-
  Package box: Open, a deferred call that turns a named result. Conditions: the contracts of what it calls.
-/
import Derived.Test.YtjpdhdfophjnpaaDoorSha14
import Derived.Test.YtjpdhdfophjnpaaDoorMgF
import Derived.Test.YtjpdhdfophjnpaaDoorInvR
import Derived.Test.YtjpdhdfophjnpaaDoorMgD
import Derived.Defers
import Derived.Recover
namespace Go.Proofs.YtjpdhdfophjnpaaDoor
open Go.RowKit

theorem shut_ok (e t : Nat) (w : World) (hc : w.cell? ⟨e, 0, none⟩ = some (.int .i64 0)) (u : FrameMode) :
    CallsD Tryd.prog 52 #[.pointer (some ⟨e, 0, none⟩), .pointer (some ⟨t, 0, none⟩)] u w fun en u' w' => u' = u ∧ (en = .returned (.tuple #[]) ∧ w' = w) := by
  go_enter_d Tryd.func52, Tryd.ntmps52
  go_wp2
  go_end0
  exact ⟨rfl, rfl⟩
theorem shut_bad (e t : Nat) (x : Int) (s : ByteArray) (w : World) (hx : x ≠ 0) (hc : w.cell? ⟨e, 0, none⟩ = some (.int .i64 x)) (ht : w.cell? ⟨t, 0, none⟩ = some (.string s)) (hz : w.frozen? ⟨t, 0, none⟩ = false) (u : FrameMode) :
    CallsD Tryd.prog 52 #[.pointer (some ⟨e, 0, none⟩), .pointer (some ⟨t, 0, none⟩)] u w fun en u' w' => u' = u ∧ (en = .returned (.tuple #[]) ∧ w' = w.setCell ⟨t, 0, none⟩ (.string ⟨#[]⟩)) := by
  go_enter_d Tryd.func52, Tryd.ntmps52
  go_wp2
  go_end0
  exact ⟨rfl, rfl⟩

set_option maxRecDepth 100000 in
set_option maxHeartbeats 2000000 in
theorem open_end (k s : List UInt8) (w : World) (g1 : s.length < 48) : Calls Tryd.prog 23 #[.string (ofL k), .string (ofL s)] w fun e w' => e = .returned (.tuple #[.string ⟨#[]⟩, .int .i64 1]) ∧ Ext w w' := by
  have zs : (ofL s).size = s.length := size_ofL _
  have hmf : ∀ (fn : Fn) (first cap : Array Value) (w : World), (Instr.makeFunc fn first cap).run Tryd.prog w = .ok (.func fn first cap) w := fun _ _ _ _ => rfl
  go_enter_defers Tryd.func23, Tryd.ntmps23
  go_wp2
  refine leaves_cons (f := 52) (args := #[.pointer (some ⟨w.heap.size + 1, 0, none⟩), .pointer (some ⟨w.heap.size, 0, none⟩)]) (by simp) (by simp [go_sem]) ?_
  refine (shut_bad (w.heap.size + 1) w.heap.size 1 ⟨#[]⟩ _ (by decide) ?_ ?_ ?_ .returning).mono ?_
  · simp [go_sem]
  · simp [go_sem]
  · simp [go_sem]
  rintro e u' w'' ⟨rfl, rfl, rfl⟩
  refine ⟨.tuple #[.string ⟨#[]⟩, .int .i64 1], ?_, ?_⟩
  · simp [results, Tryd.results23, go_sem]
  · exact ⟨rfl, (((Ext.rfl' w).al _).al _).st (Nat.le_refl _) _⟩
set_option maxRecDepth 100000 in
set_option maxHeartbeats 2000000 in
theorem open_limit (k s : List UInt8) (w : World) (g1 : 4144 < s.length) : Calls Tryd.prog 23 #[.string (ofL k), .string (ofL s)] w fun e w' => e = .returned (.tuple #[.string ⟨#[]⟩, .int .i64 3]) ∧ Ext w w' := by
  have zs : (ofL s).size = s.length := size_ofL _
  have hmf : ∀ (fn : Fn) (first cap : Array Value) (w : World), (Instr.makeFunc fn first cap).run Tryd.prog w = .ok (.func fn first cap) w := fun _ _ _ _ => rfl
  go_enter_defers Tryd.func23, Tryd.ntmps23
  go_wp2
  refine leaves_cons (f := 52) (args := #[.pointer (some ⟨w.heap.size + 1, 0, none⟩), .pointer (some ⟨w.heap.size, 0, none⟩)]) (by simp) (by simp [go_sem]) ?_
  refine (shut_bad (w.heap.size + 1) w.heap.size 3 ⟨#[]⟩ _ (by decide) ?_ ?_ ?_ .returning).mono ?_
  · simp [go_sem]
  · simp [go_sem]
  · simp [go_sem]
  rintro e u' w'' ⟨rfl, rfl, rfl⟩
  clear hmf
  refine ⟨.tuple #[.string ⟨#[]⟩, .int .i64 3], ?_, ?_⟩
  · simp [results, Tryd.results23, go_sem]
  · exact ⟨rfl, (((Ext.rfl' w).al _).al _).st (Nat.le_refl _) _⟩

set_option maxRecDepth 100000 in
set_option maxHeartbeats 4000000 in
theorem open_good (k s : List UInt8) (w : World) (hT : Tab w) (nn : Nat) (hnn : s.length - 32 = nn) (g1 : 48 ≤ s.length) (g2 : s.length ≤ 4144) (H TK S Bd D N C T : List UInt8)
    (hB : s.take nn = Bd) (hD : s.drop nn = D) (hN : Bd.take 16 = N) (hC : Bd.drop 16 = C)
    (c1 : ∀ W v, Tab W → Rd W W.heap.size 1 v 1 ([([104, 105, 100, 101] : List UInt8)].map Str) → Calls Tryd.prog 48 #[.string (ofL k), v] W fun e w' => e = .returned (.string (ofL H)) ∧ Ext W w')
    (c2 : ∀ W, Tab W → Calls Tryd.prog 47 #[.string (ofL H), .string (ofL N), .string (ofL C)] W fun e w' => e = .returned (.string (ofL T)) ∧ Ext W w')
    (c3 : ∀ W, Tab W → Calls Tryd.prog 48 #[.string (ofL k), .slice (some ⟨W.heap.size, 0, none⟩) 1 1] (W.alloc (.cells #[.string ⟨#[116, 97, 103]⟩] 9)) fun e w' => e = .returned (.string (ofL TK)) ∧ Ext W w')
    (c4 : ∀ W, Tab W → Calls Tryd.prog 49 #[.string (ofL TK), .string (ofL Bd)] W fun e w' => e = .returned (.string (ofL S)) ∧ Ext W w')
    (c5 : ∀ W, Calls Tryd.prog 53 #[.string (ofL S), .string (ofL D)] W fun e w' => e = .returned (.bool true) ∧ Ext W w') :
    Calls Tryd.prog 23 #[.string (ofL k), .string (ofL s)] w fun e w' => e = .returned (.tuple #[.string (ofL T), .int .i64 0]) ∧ Ext w w' := by
  have zs : (ofL s).size = s.length := size_ofL _
  have hmf : ∀ (fn : Fn) (first cap : Array Value) (w : World), (Instr.makeFunc fn first cap).run Tryd.prog w = .ok (.func fn first cap) w := fun _ _ _ _ => rfl
  have hni : (s.length : Int) - 32 = nn := by omega
  have hn1 : 16 ≤ nn := by omega
  have hn2 : nn ≤ s.length := by omega
  have hw1 : IntKind.i64.wrap (nn : Int) = nn := IntWalk.i64_in _ (by omega)
  have x1 : (ofL s).extract 0 nn = ofL Bd := by rw [extract_to, toL_ofL, hB]
  have x2 : (ofL s).extract nn s.length = ofL D := by rw [← size_ofL s, extract_from, toL_ofL, hD]
  have lB : Bd.length = nn := by rw [← hB, List.length_take]; omega
  have zB : (ofL Bd).size = Bd.length := size_ofL _
  have x3 : (ofL Bd).extract 0 16 = ofL N := by rw [extract_to, toL_ofL, hN]
  have x4 : (ofL Bd).extract 16 Bd.length = ofL C := by rw [← size_ofL Bd, extract_from, toL_ofL, hC]
  have k1 := Kp.mk c1; have k2 := Kp.mk c2; have k3 := Kp.mk c3; have k4 := Kp.mk c4; have k5 := Kp.mk c5
  clear c1 c2 c3 c4 c5 hB hD hN hC
  go_enter_defers Tryd.func23, Tryd.ntmps23
  go_upto_region 6 with fail
  refine wp_region_locals (fun i v W => match i with
    | 0 => v = .string (ofL s)
    | 1 => v = .string (ofL s)
    | 2 => v = .int .i64 s.length
    | 3 => v = .int .i64 nn
    | 4 => v = .string (ofL Bd)
    | 5 => v = .string (ofL s)
    | 6 => v = .string (ofL s)
    | 7 => v = .int .i64 s.length
    | 8 => v = .int .i64 nn
    | 9 => v = .string (ofL D)
    | 10 => v = .string (ofL Bd)
    | 11 => v = .string (ofL D)
    | _ => True) (by kernel_rfl) (by kernel_rfl) (by kernel_rfl) ?_ ?_ ?_
  · intro i v W1 W2 e1 e2 h
    match i, h with
    | 0, h => exact h
    | 1, h => exact h
    | 2, h => exact h
    | 3, h => exact h
    | 4, h => exact h
    | 5, h => exact h
    | 6, h => exact h
    | 7, h => exact h
    | 8, h => exact h
    | 9, h => exact h
    | 10, h => exact h
    | 11, h => exact h
    | (i + 12), h => exact h
  · refine locals_cons (fun u W hW hd => leaves_val rfl (v := .string (ofL s)) (by go_simp) rfl) ?_
    refine locals_cons (fun u W hW hd => leaves_val rfl (v := .string (ofL s)) (by go_simp) rfl) ?_
    refine locals_cons (fun u W hW hd => ?_) ?_
    · have h1 : u 1 = _ := hd 1 (by kernel_rfl)
      exact leaves_val rfl (v := .int .i64 s.length) (by go_simp) rfl
    refine locals_cons (fun u W hW hd => ?_) ?_
    · have h2 : u 2 = _ := hd 2 (by kernel_rfl)
      exact leaves_val rfl (v := .int .i64 nn) (by go_simp) rfl
    refine locals_cons (fun u W hW hd => ?_) ?_
    · have h0 : u 0 = _ := hd 0 (by kernel_rfl)
      have h3 : u 3 = _ := hd 3 (by kernel_rfl)
      exact leaves_val rfl (v := .string (ofL Bd)) (by go_simp) rfl
    refine locals_cons (fun u W hW hd => leaves_val rfl (v := .string (ofL s)) (by go_simp) rfl) ?_
    refine locals_cons (fun u W hW hd => leaves_val rfl (v := .string (ofL s)) (by go_simp) rfl) ?_
    refine locals_cons (fun u W hW hd => ?_) ?_
    · have h6 : u 6 = _ := hd 6 (by kernel_rfl)
      exact leaves_val rfl (v := .int .i64 s.length) (by go_simp) rfl
    refine locals_cons (fun u W hW hd => ?_) ?_
    · have h7 : u 7 = _ := hd 7 (by kernel_rfl)
      exact leaves_val rfl (v := .int .i64 nn) (by go_simp) rfl
    refine locals_cons (fun u W hW hd => ?_) ?_
    · have h5 : u 5 = _ := hd 5 (by kernel_rfl)
      have h8 : u 8 = _ := hd 8 (by kernel_rfl)
      exact leaves_val rfl (v := .string (ofL D)) (by go_simp) rfl
    refine locals_cons (fun u W hW hd => ?_) ?_
    · have h4 : u 4 = _ := hd 4 (by kernel_rfl)
      exact leaves_val rfl (v := .string (ofL Bd)) (by go_simp) rfl
    refine locals_cons (fun u W hW hd => ?_) locals_nil
    · have h9 : u 9 = _ := hd 9 (by kernel_rfl)
      exact leaves_val rfl (v := .string (ofL D)) (by go_simp) rfl
  · intro u W hW hV
    have h6 : u 10 = .string (ofL Bd) := hV 10 (by decide)
    have h7 : u 11 = .string (ofL D) := hV 11 (by decide)
    clear hV
    have F0 : Ext w W := (((Ext.rfl' w).al _).al _).tr hW
    have ct0 := ((bcell hW).1 w.heap.size 0 (by simp; omega)).trans (show _ = some (Value.string ⟨#[]⟩) by simp [go_sem, World.cell?_alloc_past])
    have ce0 := ((bcell hW).1 (w.heap.size + 1) 0 (by simp)).trans (show _ = some (Value.int .i64 0) by simp [go_sem])
    have zt0 := ((bcell hW).2 w.heap.size 0 (by simp; omega)).trans (show _ = false by simp [go_sem])
    have ze0 := ((bcell hW).2 (w.heap.size + 1) 0 (by simp)).trans (show _ = false by simp [go_sem])
    have hs0 : w.heap.size + 2 ≤ W.heap.size := by have := hW.size; simpa using this
    clear hW
    go_simp
    go_wp2_with fail
    refine (k3.out _ (hT.ext F0)).mono ?_
    rintro e w1 ⟨rfl, E1⟩
    go_wp2_with fail
    refine (k4.out _ (hT.ext (F0.tr E1))).mono ?_
    rintro e w2 ⟨rfl, E2⟩
    have E12 := E1.tr E2
    clear E1 E2
    go_wp2_with fail
    refine (k5.out _).mono ?_
    rintro e w3 ⟨rfl, E3⟩
    have E13 := E12.tr E3
    clear E12 E3
    have F3 := F0.tr E13
    have ct3 := ((bcell E13).1 w.heap.size 0 (by omega)).trans ct0
    have ce3 := ((bcell E13).1 (w.heap.size + 1) 0 (by omega)).trans ce0
    have zt3 := ((bcell E13).2 w.heap.size 0 (by omega)).trans zt0
    have ze3 := ((bcell E13).2 (w.heap.size + 1) 0 (by omega)).trans ze0
    have hs3 : w.heap.size + 2 ≤ w3.heap.size := by have := E13.size; omega
    clear ct0 ce0 zt0 ze0 hs0 F0 E13
    clear k3 k4 k5 x1 x2 h6 h7
    have q1 : ¬ (nn : Int) < 16 := by omega
    have q2 : (16 : Int) ≤ nn := by omega
    rw [lB] at x4
    go_upto_region 9 with fail
    obtain ⟨xx, hxx⟩ : ∃ xx : Int, xx = 0 := ⟨_, rfl⟩
    rw [← hxx] at ce3
    have F4 := F3; have ct4 := ct3; have ce4 := ce3; have zt4 := zt3; have ze4 := ze3; have hs4 := hs3
    clear F3 ct3 ce3 zt3 ze3 hs3
    refine wp_region_locals (fun i v W => match i with
      | 0 => v = .string (ofL Bd)
      | 1 => v = .string (ofL N)
      | 2 => v = .string (ofL Bd)
      | 3 => v = .string (ofL C)
      | 4 => v = .string (ofL N)
      | 5 => v = .string (ofL C)
      | _ => True) (by kernel_rfl) (by kernel_rfl) (by kernel_rfl) ?_ ?_ ?_
    · intro i v W1 W2 e1 e2 h
      match i, h with
      | 0, h => exact h
      | 1, h => exact h
      | 2, h => exact h
      | 3, h => exact h
      | 4, h => exact h
      | 5, h => exact h
      | (i + 6), h => exact h
    · refine locals_cons (fun u W hW hd => leaves_val rfl (v := .string (ofL Bd)) (by go_simp) rfl) ?_
      refine locals_cons (fun u W hW hd => ?_) ?_
      · have h0 : u 0 = _ := hd 0 (by kernel_rfl)
        exact leaves_val rfl (v := .string (ofL N)) (by go_simp) rfl
      refine locals_cons (fun u W hW hd => leaves_val rfl (v := .string (ofL Bd)) (by go_simp) rfl) ?_
      refine locals_cons (fun u W hW hd => ?_) ?_
      · have h2 : u 2 = _ := hd 2 (by kernel_rfl)
        exact leaves_val rfl (v := .string (ofL C)) (by go_simp) rfl
      refine locals_cons (fun u W hW hd => ?_) ?_
      · have h1 : u 1 = _ := hd 1 (by kernel_rfl)
        exact leaves_val rfl (v := .string (ofL N)) (by go_simp) rfl
      refine locals_cons (fun u W hW hd => ?_) locals_nil
      · have h3 : u 3 = _ := hd 3 (by kernel_rfl)
        exact leaves_val rfl (v := .string (ofL C)) (by go_simp) rfl
    · intro u2 W5 E5 hV2
      have h8 : u2 4 = .string (ofL N) := hV2 4 (by decide)
      have h9 : u2 5 = .string (ofL C) := hV2 5 (by decide)
      clear hV2
      have ct5 := ((bcell E5).1 w.heap.size 0 (by omega)).trans ct4
      have ce5 := ((bcell E5).1 (w.heap.size + 1) 0 (by omega)).trans ce4
      have zt5 := ((bcell E5).2 w.heap.size 0 (by omega)).trans zt4
      have ze5 := ((bcell E5).2 (w.heap.size + 1) 0 (by omega)).trans ze4
      have hs5 : w.heap.size + 2 ≤ W5.heap.size := by have := E5.size; omega
      have F5 := F4.tr E5
      clear E5 F4 ct4 ce4 zt4 ze4 hs4
      go_simp
      go_upto_region 10 with fail
      obtain ⟨KS, hKS⟩ : ∃ KS : List (World → Prop), KS = [fun W => ∃ s, Has w.heap.size (.string s) W, fun W => Has w.heap.size (.string (ofL T)) W, fun W => Has (w.heap.size + 1) (.int .i64 xx) W] := ⟨_, rfl⟩
      have hs6 : ∀ W, Moves w.heap.size (w.heap.size + 2) KS W5 W → Ext w W ∧ w.heap.size + 2 ≤ W.heap.size := fun W m => ⟨F5.trans m.below, by have := m.size; omega⟩
      have HR : StepsRel (Moves w.heap.size (w.heap.size + 2) KS) := moves_steps _ _ KS (by rw [hKS]; intro K hK W h; simp at hK; rcases hK with rfl | rfl | rfl <;> exact h)
      have RE : ∀ {a b : World}, Moves w.heap.size (w.heap.size + 2) KS W5 a → Ext a b → Moves w.heap.size (w.heap.size + 2) KS a b := fun {a b} m e => moves_ext (by have := (hs6 _ m).2; omega) e (by
        rw [hKS]; intro K hK h; simp at hK
        rcases hK with rfl | rfl | rfl
        · obtain ⟨s, h⟩ := h; exact ⟨s, h.ext e⟩
        · exact h.ext e
        · exact h.ext e)
      have ht5 : ∃ s, Has w.heap.size (.string s) W5 := ⟨_, ct5, zt5⟩
      have he5 : Has (w.heap.size + 1) (.int .i64 xx) W5 := ⟨ce5, ze5⟩
      have kt : ∀ W, Moves w.heap.size (w.heap.size + 2) KS W5 W → ∃ s, Has w.heap.size (.string s) W := fun W m => m.keeps (fun W => ∃ s, Has w.heap.size (.string s) W) (by rw [hKS]; simp) ht5
      have ke : ∀ W, Moves w.heap.size (w.heap.size + 2) KS W5 W → Has (w.heap.size + 1) (.int .i64 xx) W := fun W m => m.keeps (fun W => Has (w.heap.size + 1) (.int .i64 xx) W) (by rw [hKS]; simp) he5
      clear ct5 ce5 zt5 ze5
      refine wp_region_rel HR (fun i v W => match i with
        | 0 => v = .string (ofL k)
        | 1 => ∃ b, w.heap.size + 2 ≤ b ∧ v = .slice (some ⟨b, 0, none⟩) 1 1 ∧ W.cell? ⟨b, 0, none⟩ = some (.string ⟨#[104, 105, 100, 101]⟩)
        | 2 => v = .string (ofL H)
        | 3 => v = .string (ofL N)
        | 4 => v = .string (ofL C)
        | 5 => v = .string (ofL T)
        | 6 => v = .int .i64 xx
        | 7 => Has w.heap.size (.string (ofL T)) W
        | _ => True) (by kernel_rfl) (by kernel_rfl) (by kernel_rfl) ?_ ?_ ?_
      · intro i v W1 W2 e1 e2 h
        match i, h with
        | 0, h => exact h
        | 1, ⟨b, h1, h2, h3⟩ => exact ⟨b, h1, h2, e2.cell h1 h3⟩
        | 2, h => exact h
        | 3, h => exact h
        | 4, h => exact h
        | 5, h => exact h
        | 6, h => exact h
        | 7, h => exact e2.keeps (fun W => Has w.heap.size (.string (ofL T)) W) (by rw [hKS]; simp) h
        | (i + 8), h => trivial
      · refine localsG_cons (fun u W hW hd => rel_val HR rfl (v := .string (ofL k)) (by go_simp) rfl) ?_
        refine localsG_cons (fun u W hW hd => ?_) ?_
        · exact rel_new rfl (v := .slice (some ⟨W.heap.size, 0, none⟩) 1 1) (w' := W.alloc (.cells #[.string ⟨#[104, 105, 100, 101]⟩] 9)) (by go_simp) (RE hW ((Ext.rfl' W).al _)) ⟨W.heap.size, (hs6 W hW).2, rfl, by simp [go_sem]⟩
        refine localsG_cons (fun u W hW hd => ?_) ?_
        · have h0 : u 0 = _ := hd 0 (by kernel_rfl)
          obtain ⟨b, hb, h1, hc⟩ := hd 1 (by kernel_rfl)
          exact rel_call rfl (f := 48) (args := #[.string (ofL k), .slice (some ⟨b, 0, none⟩) 1 1]) (by go_simp) ((k1.out W _ (hT.ext (hs6 W hW).1) (rd_one hc)).mono (by rintro e9 W9 ⟨rfl, h9⟩; exact ⟨_, rfl, RE hW h9, rfl⟩))
        refine localsG_cons (fun u W hW hd => rel_val HR rfl (v := .string (ofL N)) (by go_simp) rfl) ?_
        refine localsG_cons (fun u W hW hd => rel_val HR rfl (v := .string (ofL C)) (by go_simp) rfl) ?_
        refine localsG_cons (fun u W hW hd => ?_) ?_
        · have h2 : u 2 = _ := hd 2 (by kernel_rfl)
          have h3 : u 3 = _ := hd 3 (by kernel_rfl)
          have h4 : u 4 = _ := hd 4 (by kernel_rfl)
          exact rel_call rfl (f := 47) (args := #[.string (ofL H), .string (ofL N), .string (ofL C)]) (by go_simp) ((k2.out W (hT.ext (hs6 W hW).1)).mono (by rintro e9 W9 ⟨rfl, h9⟩; exact ⟨_, rfl, RE hW h9, rfl⟩))
        refine localsG_cons (fun u W hW hd => ?_) ?_
        · obtain ⟨hc, hz⟩ := ke W hW
          exact rel_val HR rfl (v := .int .i64 xx) (by go_simp) rfl
        refine localsG_cons (fun u W hW hd => ?_) ?_
        · have h5 : u 5 = _ := hd 5 (by kernel_rfl)
          obtain ⟨sx, hx⟩ := kt W hW
          have hc := hx.1
          have hz := hx.2
          exact rel_skip rfl (w' := W.setCell ⟨w.heap.size, 0, none⟩ (.string (ofL T))) (by go_simp) (moves_set (Nat.le_refl _) (by omega) _ (by
            rw [hKS]; intro K hK h; simp at hK
            rcases hK with rfl | rfl | rfl
            · exact ⟨_, hx.set _⟩
            · exact hx.set _
            · exact h.setNe (by omega) _)) (hx.set _)
        refine localsG_cons (fun u W hW hd => ?_) localsG_nil
        · have h6 : u 6 = _ := hd 6 (by kernel_rfl)
          have hx := ke W hW
          have hc := hx.1
          have hz := hx.2
          exact rel_skip rfl (w' := W.setCell ⟨w.heap.size + 1, 0, none⟩ (.int .i64 xx)) (by go_simp) (moves_set (by omega) (by omega) _ (by
            rw [hKS]; intro K hK h; simp at hK
            rcases hK with rfl | rfl | rfl
            · obtain ⟨s, h⟩ := h; exact ⟨s, h.setNe (by omega) _⟩
            · exact h.setNe (by omega) _
            · exact hx.set _)) trivial
      · intro u3 W6 m6 hV3
        have h5 : u3 5 = .string (ofL T) := hV3 5 (by decide)
        have h6 : u3 6 = .int .i64 xx := hV3 6 (by decide)
        have hh6 : Has w.heap.size (.string (ofL T)) W6 := hV3 7 (by decide)
        have hh7 := ke W6 m6
        have F6 := (hs6 W6 m6).1
        clear hV3 m6 ke kt he5 ht5 RE HR hs6 hKS F5 hs5 hT k1 k2 x3 x4
        go_simp
        go_wp2
        refine leaves_cons (f := 52) (args := #[.pointer (some ⟨w.heap.size + 1, 0, none⟩), .pointer (some ⟨w.heap.size, 0, none⟩)]) (by simp) (by simp [go_sem]) ?_
        subst hxx
        refine (shut_ok (w.heap.size + 1) w.heap.size W6 hh7.1 .returning).mono ?_
        rintro e u' w'' ⟨rfl, rfl, rfl⟩
        have q1 := hh6.1
        have q2 := hh7.1
        clear hmf
        refine ⟨.tuple #[.string (ofL T), .int .i64 0], ?_, ?_⟩
        · simp [results, Tryd.results23, go_sem, q1, q2]
        · exact ⟨rfl, F6⟩
set_option maxRecDepth 100000 in
set_option maxHeartbeats 4000000 in
theorem open_bad (k s : List UInt8) (w : World) (hT : Tab w) (nn : Nat) (hnn : s.length - 32 = nn) (g1 : 48 ≤ s.length) (g2 : s.length ≤ 4144) (H TK S Bd D N C T : List UInt8)
    (hB : s.take nn = Bd) (hD : s.drop nn = D) (hN : Bd.take 16 = N) (hC : Bd.drop 16 = C)
    (c1 : ∀ W v, Tab W → Rd W W.heap.size 1 v 1 ([([104, 105, 100, 101] : List UInt8)].map Str) → Calls Tryd.prog 48 #[.string (ofL k), v] W fun e w' => e = .returned (.string (ofL H)) ∧ Ext W w')
    (c2 : ∀ W, Tab W → Calls Tryd.prog 47 #[.string (ofL H), .string (ofL N), .string (ofL C)] W fun e w' => e = .returned (.string (ofL T)) ∧ Ext W w')
    (c3 : ∀ W, Tab W → Calls Tryd.prog 48 #[.string (ofL k), .slice (some ⟨W.heap.size, 0, none⟩) 1 1] (W.alloc (.cells #[.string ⟨#[116, 97, 103]⟩] 9)) fun e w' => e = .returned (.string (ofL TK)) ∧ Ext W w')
    (c4 : ∀ W, Tab W → Calls Tryd.prog 49 #[.string (ofL TK), .string (ofL Bd)] W fun e w' => e = .returned (.string (ofL S)) ∧ Ext W w')
    (c5 : ∀ W, Calls Tryd.prog 53 #[.string (ofL S), .string (ofL D)] W fun e w' => e = .returned (.bool false) ∧ Ext W w') :
    Calls Tryd.prog 23 #[.string (ofL k), .string (ofL s)] w fun e w' => e = .returned (.tuple #[.string ⟨#[]⟩, .int .i64 8]) ∧ Ext w w' := by
  have zs : (ofL s).size = s.length := size_ofL _
  have hmf : ∀ (fn : Fn) (first cap : Array Value) (w : World), (Instr.makeFunc fn first cap).run Tryd.prog w = .ok (.func fn first cap) w := fun _ _ _ _ => rfl
  have hni : (s.length : Int) - 32 = nn := by omega
  have hn1 : 16 ≤ nn := by omega
  have hn2 : nn ≤ s.length := by omega
  have hw1 : IntKind.i64.wrap (nn : Int) = nn := IntWalk.i64_in _ (by omega)
  have x1 : (ofL s).extract 0 nn = ofL Bd := by rw [extract_to, toL_ofL, hB]
  have x2 : (ofL s).extract nn s.length = ofL D := by rw [← size_ofL s, extract_from, toL_ofL, hD]
  have lB : Bd.length = nn := by rw [← hB, List.length_take]; omega
  have zB : (ofL Bd).size = Bd.length := size_ofL _
  have x3 : (ofL Bd).extract 0 16 = ofL N := by rw [extract_to, toL_ofL, hN]
  have x4 : (ofL Bd).extract 16 Bd.length = ofL C := by rw [← size_ofL Bd, extract_from, toL_ofL, hC]
  have k1 := Kp.mk c1; have k2 := Kp.mk c2; have k3 := Kp.mk c3; have k4 := Kp.mk c4; have k5 := Kp.mk c5
  clear c1 c2 c3 c4 c5 hB hD hN hC
  go_enter_defers Tryd.func23, Tryd.ntmps23
  go_upto_region 6 with fail
  refine wp_region_locals (fun i v W => match i with
    | 0 => v = .string (ofL s)
    | 1 => v = .string (ofL s)
    | 2 => v = .int .i64 s.length
    | 3 => v = .int .i64 nn
    | 4 => v = .string (ofL Bd)
    | 5 => v = .string (ofL s)
    | 6 => v = .string (ofL s)
    | 7 => v = .int .i64 s.length
    | 8 => v = .int .i64 nn
    | 9 => v = .string (ofL D)
    | 10 => v = .string (ofL Bd)
    | 11 => v = .string (ofL D)
    | _ => True) (by kernel_rfl) (by kernel_rfl) (by kernel_rfl) ?_ ?_ ?_
  · intro i v W1 W2 e1 e2 h
    match i, h with
    | 0, h => exact h
    | 1, h => exact h
    | 2, h => exact h
    | 3, h => exact h
    | 4, h => exact h
    | 5, h => exact h
    | 6, h => exact h
    | 7, h => exact h
    | 8, h => exact h
    | 9, h => exact h
    | 10, h => exact h
    | 11, h => exact h
    | (i + 12), h => exact h
  · refine locals_cons (fun u W hW hd => leaves_val rfl (v := .string (ofL s)) (by go_simp) rfl) ?_
    refine locals_cons (fun u W hW hd => leaves_val rfl (v := .string (ofL s)) (by go_simp) rfl) ?_
    refine locals_cons (fun u W hW hd => ?_) ?_
    · have h1 : u 1 = _ := hd 1 (by kernel_rfl)
      exact leaves_val rfl (v := .int .i64 s.length) (by go_simp) rfl
    refine locals_cons (fun u W hW hd => ?_) ?_
    · have h2 : u 2 = _ := hd 2 (by kernel_rfl)
      exact leaves_val rfl (v := .int .i64 nn) (by go_simp) rfl
    refine locals_cons (fun u W hW hd => ?_) ?_
    · have h0 : u 0 = _ := hd 0 (by kernel_rfl)
      have h3 : u 3 = _ := hd 3 (by kernel_rfl)
      exact leaves_val rfl (v := .string (ofL Bd)) (by go_simp) rfl
    refine locals_cons (fun u W hW hd => leaves_val rfl (v := .string (ofL s)) (by go_simp) rfl) ?_
    refine locals_cons (fun u W hW hd => leaves_val rfl (v := .string (ofL s)) (by go_simp) rfl) ?_
    refine locals_cons (fun u W hW hd => ?_) ?_
    · have h6 : u 6 = _ := hd 6 (by kernel_rfl)
      exact leaves_val rfl (v := .int .i64 s.length) (by go_simp) rfl
    refine locals_cons (fun u W hW hd => ?_) ?_
    · have h7 : u 7 = _ := hd 7 (by kernel_rfl)
      exact leaves_val rfl (v := .int .i64 nn) (by go_simp) rfl
    refine locals_cons (fun u W hW hd => ?_) ?_
    · have h5 : u 5 = _ := hd 5 (by kernel_rfl)
      have h8 : u 8 = _ := hd 8 (by kernel_rfl)
      exact leaves_val rfl (v := .string (ofL D)) (by go_simp) rfl
    refine locals_cons (fun u W hW hd => ?_) ?_
    · have h4 : u 4 = _ := hd 4 (by kernel_rfl)
      exact leaves_val rfl (v := .string (ofL Bd)) (by go_simp) rfl
    refine locals_cons (fun u W hW hd => ?_) locals_nil
    · have h9 : u 9 = _ := hd 9 (by kernel_rfl)
      exact leaves_val rfl (v := .string (ofL D)) (by go_simp) rfl
  · intro u W hW hV
    have h6 : u 10 = .string (ofL Bd) := hV 10 (by decide)
    have h7 : u 11 = .string (ofL D) := hV 11 (by decide)
    clear hV
    have F0 : Ext w W := (((Ext.rfl' w).al _).al _).tr hW
    have ct0 := ((bcell hW).1 w.heap.size 0 (by simp; omega)).trans (show _ = some (Value.string ⟨#[]⟩) by simp [go_sem, World.cell?_alloc_past])
    have ce0 := ((bcell hW).1 (w.heap.size + 1) 0 (by simp)).trans (show _ = some (Value.int .i64 0) by simp [go_sem])
    have zt0 := ((bcell hW).2 w.heap.size 0 (by simp; omega)).trans (show _ = false by simp [go_sem])
    have ze0 := ((bcell hW).2 (w.heap.size + 1) 0 (by simp)).trans (show _ = false by simp [go_sem])
    have hs0 : w.heap.size + 2 ≤ W.heap.size := by have := hW.size; simpa using this
    clear hW
    go_simp
    go_wp2_with fail
    refine (k3.out _ (hT.ext F0)).mono ?_
    rintro e w1 ⟨rfl, E1⟩
    go_wp2_with fail
    refine (k4.out _ (hT.ext (F0.tr E1))).mono ?_
    rintro e w2 ⟨rfl, E2⟩
    have E12 := E1.tr E2
    clear E1 E2
    go_wp2_with fail
    refine (k5.out _).mono ?_
    rintro e w3 ⟨rfl, E3⟩
    have E13 := E12.tr E3
    clear E12 E3
    have F3 := F0.tr E13
    have ct3 := ((bcell E13).1 w.heap.size 0 (by omega)).trans ct0
    have ce3 := ((bcell E13).1 (w.heap.size + 1) 0 (by omega)).trans ce0
    have zt3 := ((bcell E13).2 w.heap.size 0 (by omega)).trans zt0
    have ze3 := ((bcell E13).2 (w.heap.size + 1) 0 (by omega)).trans ze0
    have hs3 : w.heap.size + 2 ≤ w3.heap.size := by have := E13.size; omega
    clear ct0 ce0 zt0 ze0 hs0 F0 E13
    clear k3 k4 k5 x1 x2 h6 h7
    have q1 : ¬ (nn : Int) < 16 := by omega
    have q2 : (16 : Int) ≤ nn := by omega
    rw [lB] at x4
    go_upto_region 9 with fail
    obtain ⟨xx, hxx⟩ : ∃ xx : Int, xx = 8 := ⟨_, rfl⟩
    rw [← hxx]
    have hy : Has w.heap.size (.string ⟨#[]⟩) w3 := ⟨ct3, zt3⟩
    have hz : Has (w.heap.size + 1) (.int .i64 0) w3 := ⟨ce3, ze3⟩
    have hy2 := hy.setNe (c := w.heap.size + 1) (by omega) (.int .i64 xx)
    have hz2 := hz.set (.int .i64 xx)
    have F4 : Ext w (w3.setCell ⟨w.heap.size + 1, 0, none⟩ (.int .i64 xx)) := F3.st (by show w.heap.size ≤ w.heap.size + 1; omega) _
    have hs4 : w.heap.size + 2 ≤ (w3.setCell ⟨w.heap.size + 1, 0, none⟩ (.int .i64 xx)).heap.size := by simp; omega
    obtain ⟨ct4, zt4⟩ := hy2
    obtain ⟨ce4, ze4⟩ := hz2
    clear F3 ct3 ce3 zt3 ze3 hs3 hy hz
    refine wp_region_locals (fun i v W => match i with
      | 0 => v = .string (ofL Bd)
      | 1 => v = .string (ofL N)
      | 2 => v = .string (ofL Bd)
      | 3 => v = .string (ofL C)
      | 4 => v = .string (ofL N)
      | 5 => v = .string (ofL C)
      | _ => True) (by kernel_rfl) (by kernel_rfl) (by kernel_rfl) ?_ ?_ ?_
    · intro i v W1 W2 e1 e2 h
      match i, h with
      | 0, h => exact h
      | 1, h => exact h
      | 2, h => exact h
      | 3, h => exact h
      | 4, h => exact h
      | 5, h => exact h
      | (i + 6), h => exact h
    · refine locals_cons (fun u W hW hd => leaves_val rfl (v := .string (ofL Bd)) (by go_simp) rfl) ?_
      refine locals_cons (fun u W hW hd => ?_) ?_
      · have h0 : u 0 = _ := hd 0 (by kernel_rfl)
        exact leaves_val rfl (v := .string (ofL N)) (by go_simp) rfl
      refine locals_cons (fun u W hW hd => leaves_val rfl (v := .string (ofL Bd)) (by go_simp) rfl) ?_
      refine locals_cons (fun u W hW hd => ?_) ?_
      · have h2 : u 2 = _ := hd 2 (by kernel_rfl)
        exact leaves_val rfl (v := .string (ofL C)) (by go_simp) rfl
      refine locals_cons (fun u W hW hd => ?_) ?_
      · have h1 : u 1 = _ := hd 1 (by kernel_rfl)
        exact leaves_val rfl (v := .string (ofL N)) (by go_simp) rfl
      refine locals_cons (fun u W hW hd => ?_) locals_nil
      · have h3 : u 3 = _ := hd 3 (by kernel_rfl)
        exact leaves_val rfl (v := .string (ofL C)) (by go_simp) rfl
    · intro u2 W5 E5 hV2
      have h8 : u2 4 = .string (ofL N) := hV2 4 (by decide)
      have h9 : u2 5 = .string (ofL C) := hV2 5 (by decide)
      clear hV2
      have ct5 := ((bcell E5).1 w.heap.size 0 (by omega)).trans ct4
      have ce5 := ((bcell E5).1 (w.heap.size + 1) 0 (by omega)).trans ce4
      have zt5 := ((bcell E5).2 w.heap.size 0 (by omega)).trans zt4
      have ze5 := ((bcell E5).2 (w.heap.size + 1) 0 (by omega)).trans ze4
      have hs5 : w.heap.size + 2 ≤ W5.heap.size := by have := E5.size; omega
      have F5 := F4.tr E5
      clear E5 F4 ct4 ce4 zt4 ze4 hs4
      go_simp
      go_upto_region 10 with fail
      obtain ⟨KS, hKS⟩ : ∃ KS : List (World → Prop), KS = [fun W => ∃ s, Has w.heap.size (.string s) W, fun W => Has w.heap.size (.string (ofL T)) W, fun W => Has (w.heap.size + 1) (.int .i64 xx) W] := ⟨_, rfl⟩
      have hs6 : ∀ W, Moves w.heap.size (w.heap.size + 2) KS W5 W → Ext w W ∧ w.heap.size + 2 ≤ W.heap.size := fun W m => ⟨F5.trans m.below, by have := m.size; omega⟩
      have HR : StepsRel (Moves w.heap.size (w.heap.size + 2) KS) := moves_steps _ _ KS (by rw [hKS]; intro K hK W h; simp at hK; rcases hK with rfl | rfl | rfl <;> exact h)
      have RE : ∀ {a b : World}, Moves w.heap.size (w.heap.size + 2) KS W5 a → Ext a b → Moves w.heap.size (w.heap.size + 2) KS a b := fun {a b} m e => moves_ext (by have := (hs6 _ m).2; omega) e (by
        rw [hKS]; intro K hK h; simp at hK
        rcases hK with rfl | rfl | rfl
        · obtain ⟨s, h⟩ := h; exact ⟨s, h.ext e⟩
        · exact h.ext e
        · exact h.ext e)
      have ht5 : ∃ s, Has w.heap.size (.string s) W5 := ⟨_, ct5, zt5⟩
      have he5 : Has (w.heap.size + 1) (.int .i64 xx) W5 := ⟨ce5, ze5⟩
      have kt : ∀ W, Moves w.heap.size (w.heap.size + 2) KS W5 W → ∃ s, Has w.heap.size (.string s) W := fun W m => m.keeps (fun W => ∃ s, Has w.heap.size (.string s) W) (by rw [hKS]; simp) ht5
      have ke : ∀ W, Moves w.heap.size (w.heap.size + 2) KS W5 W → Has (w.heap.size + 1) (.int .i64 xx) W := fun W m => m.keeps (fun W => Has (w.heap.size + 1) (.int .i64 xx) W) (by rw [hKS]; simp) he5
      clear ct5 ce5 zt5 ze5
      refine wp_region_rel HR (fun i v W => match i with
        | 0 => v = .string (ofL k)
        | 1 => ∃ b, w.heap.size + 2 ≤ b ∧ v = .slice (some ⟨b, 0, none⟩) 1 1 ∧ W.cell? ⟨b, 0, none⟩ = some (.string ⟨#[104, 105, 100, 101]⟩)
        | 2 => v = .string (ofL H)
        | 3 => v = .string (ofL N)
        | 4 => v = .string (ofL C)
        | 5 => v = .string (ofL T)
        | 6 => v = .int .i64 xx
        | 7 => Has w.heap.size (.string (ofL T)) W
        | _ => True) (by kernel_rfl) (by kernel_rfl) (by kernel_rfl) ?_ ?_ ?_
      · intro i v W1 W2 e1 e2 h
        match i, h with
        | 0, h => exact h
        | 1, ⟨b, h1, h2, h3⟩ => exact ⟨b, h1, h2, e2.cell h1 h3⟩
        | 2, h => exact h
        | 3, h => exact h
        | 4, h => exact h
        | 5, h => exact h
        | 6, h => exact h
        | 7, h => exact e2.keeps (fun W => Has w.heap.size (.string (ofL T)) W) (by rw [hKS]; simp) h
        | (i + 8), h => trivial
      · refine localsG_cons (fun u W hW hd => rel_val HR rfl (v := .string (ofL k)) (by go_simp) rfl) ?_
        refine localsG_cons (fun u W hW hd => ?_) ?_
        · exact rel_new rfl (v := .slice (some ⟨W.heap.size, 0, none⟩) 1 1) (w' := W.alloc (.cells #[.string ⟨#[104, 105, 100, 101]⟩] 9)) (by go_simp) (RE hW ((Ext.rfl' W).al _)) ⟨W.heap.size, (hs6 W hW).2, rfl, by simp [go_sem]⟩
        refine localsG_cons (fun u W hW hd => ?_) ?_
        · have h0 : u 0 = _ := hd 0 (by kernel_rfl)
          obtain ⟨b, hb, h1, hc⟩ := hd 1 (by kernel_rfl)
          exact rel_call rfl (f := 48) (args := #[.string (ofL k), .slice (some ⟨b, 0, none⟩) 1 1]) (by go_simp) ((k1.out W _ (hT.ext (hs6 W hW).1) (rd_one hc)).mono (by rintro e9 W9 ⟨rfl, h9⟩; exact ⟨_, rfl, RE hW h9, rfl⟩))
        refine localsG_cons (fun u W hW hd => rel_val HR rfl (v := .string (ofL N)) (by go_simp) rfl) ?_
        refine localsG_cons (fun u W hW hd => rel_val HR rfl (v := .string (ofL C)) (by go_simp) rfl) ?_
        refine localsG_cons (fun u W hW hd => ?_) ?_
        · have h2 : u 2 = _ := hd 2 (by kernel_rfl)
          have h3 : u 3 = _ := hd 3 (by kernel_rfl)
          have h4 : u 4 = _ := hd 4 (by kernel_rfl)
          exact rel_call rfl (f := 47) (args := #[.string (ofL H), .string (ofL N), .string (ofL C)]) (by go_simp) ((k2.out W (hT.ext (hs6 W hW).1)).mono (by rintro e9 W9 ⟨rfl, h9⟩; exact ⟨_, rfl, RE hW h9, rfl⟩))
        refine localsG_cons (fun u W hW hd => ?_) ?_
        · obtain ⟨hc, hz⟩ := ke W hW
          exact rel_val HR rfl (v := .int .i64 xx) (by go_simp) rfl
        refine localsG_cons (fun u W hW hd => ?_) ?_
        · have h5 : u 5 = _ := hd 5 (by kernel_rfl)
          obtain ⟨sx, hx⟩ := kt W hW
          have hc := hx.1
          have hz := hx.2
          exact rel_skip rfl (w' := W.setCell ⟨w.heap.size, 0, none⟩ (.string (ofL T))) (by go_simp) (moves_set (Nat.le_refl _) (by omega) _ (by
            rw [hKS]; intro K hK h; simp at hK
            rcases hK with rfl | rfl | rfl
            · exact ⟨_, hx.set _⟩
            · exact hx.set _
            · exact h.setNe (by omega) _)) (hx.set _)
        refine localsG_cons (fun u W hW hd => ?_) localsG_nil
        · have h6 : u 6 = _ := hd 6 (by kernel_rfl)
          have hx := ke W hW
          have hc := hx.1
          have hz := hx.2
          exact rel_skip rfl (w' := W.setCell ⟨w.heap.size + 1, 0, none⟩ (.int .i64 xx)) (by go_simp) (moves_set (by omega) (by omega) _ (by
            rw [hKS]; intro K hK h; simp at hK
            rcases hK with rfl | rfl | rfl
            · obtain ⟨s, h⟩ := h; exact ⟨s, h.setNe (by omega) _⟩
            · exact h.setNe (by omega) _
            · exact hx.set _)) trivial
      · intro u3 W6 m6 hV3
        have h5 : u3 5 = .string (ofL T) := hV3 5 (by decide)
        have h6 : u3 6 = .int .i64 xx := hV3 6 (by decide)
        have hh6 : Has w.heap.size (.string (ofL T)) W6 := hV3 7 (by decide)
        have hh7 := ke W6 m6
        have F6 := (hs6 W6 m6).1
        clear hV3 m6 ke kt he5 ht5 RE HR hs6 hKS F5 hs5 hT k1 k2 x3 x4
        go_simp
        go_wp2
        refine leaves_cons (f := 52) (args := #[.pointer (some ⟨w.heap.size + 1, 0, none⟩), .pointer (some ⟨w.heap.size, 0, none⟩)]) (by simp) (by simp [go_sem]) ?_
        subst hxx
        refine (shut_bad (w.heap.size + 1) w.heap.size 8 _ W6 (by decide) hh7.1 hh6.1 hh6.2 .returning).mono ?_
        rintro e u' w'' ⟨rfl, rfl, rfl⟩
        have q1 := (hh6.set (.string ⟨#[]⟩)).1
        have q2 := (hh7.setNe (c := w.heap.size) (by omega) (.string ⟨#[]⟩)).1
        clear hmf
        refine ⟨.tuple #[.string ⟨#[]⟩, .int .i64 8], ?_, ?_⟩
        · simp [results, Tryd.results23, go_sem, q1, q2]
        · exact ⟨rfl, F6.st (Nat.le_refl _) _⟩
end Go.Proofs.YtjpdhdfophjnpaaDoor
