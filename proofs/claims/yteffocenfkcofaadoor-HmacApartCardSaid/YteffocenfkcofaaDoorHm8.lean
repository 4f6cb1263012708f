/-
  Chapter 4's helpers: are the texts few and short; do two unlike texts have one sum. Conditions: texts of at most 800000 bytes for the second.
-/
import Derived.Test.YteffocenfkcofaaDoorHm7
namespace Go.Proofs.YteffocenfkcofaaDoor
open Go.RowKit

def lenSum (xs : List (List UInt8)) : Nat := (xs.map List.length).sum
theorem lenSum_take (xs : List (List UInt8)) (k : Nat) (h : k < xs.length) : lenSum (xs.take (k + 1)) = lenSum (xs.take k) + xs[k].length := by
  unfold lenSum
  rw [List.take_succ_eq_append_getElem h, List.map_append, List.sum_append]
  simp
theorem lenSum_le (xs : List (List UInt8)) (k : Nat) : lenSum (xs.take k) ≤ lenSum xs := by
  have h : lenSum xs = lenSum (xs.take k) + lenSum (xs.drop k) := by
    unfold lenSum
    rw [← List.sum_append, ← List.map_append, List.take_append_drop]
  omega
theorem length_frameL : ∀ l : List (List UInt8), (frameL l).length = 8 * l.length + lenSum l
  | [] => rfl
  | p :: l => by
    rw [frameL, List.length_append, List.length_append, length_be8, length_frameL l]
    unfold lenSum
    simp
    omega
theorem mem_lenSum : ∀ (l : List (List UInt8)) (p : List UInt8), p ∈ l → p.length ≤ lenSum l
  | [], p, h => by cases h
  | q :: l, p, h => by
    unfold lenSum
    simp only [List.map_cons, List.sum_cons]
    rcases List.mem_cons.1 h with rfl | h
    · omega
    · have := mem_lenSum l p h
      unfold lenSum at this
      omega
def shortL (xs : List (List UInt8)) (n t : Nat) : Bool := decide (xs.length ≤ n) && decide (lenSum xs ≤ t)

set_option maxRecDepth 100000 in
set_option maxHeartbeats 2000000 in
theorem short_any (xs : List (List UInt8)) (n t : Nat) (v : Value) (w : World) (h : Rd w w.heap.size 1 v xs.length (xs.map Str)) (ht : t ≤ 1000000) :
    Calls Tryd.prog 41 #[v, .int .i64 n, .int .i64 t] w fun e w' => e = .returned (.bool (shortL xs n t)) ∧ Ext w w' := by
  obtain ⟨A, c, rfl, hn, hl, hca⟩ := h
  have Hca := Lib.hid hca; clear hca hl
  by_cases hmany : n < xs.length
  · have hb : shortL xs n t = false := by unfold shortL; rw [decide_eq_false (by omega), Bool.false_and]
    rw [hb]; clear hb
    go_enter Tryd.func41, Tryd.ntmps41
    go_wp2
    go_ret
    exact ⟨rfl, Ext.rfl' _⟩
  · obtain ⟨b0, hb⟩ : ∃ b0, shortL xs n t = b0 := ⟨_, rfl⟩
    have hb2 := Kp.mk (show b0 = decide (lenSum xs ≤ t) by rw [← hb]; unfold shortL; rw [decide_eq_true (by omega), Bool.true_and])
    rw [hb]; clear hb
    go_enter Tryd.func41, Tryd.ntmps41
    go_wp2
    go_loop [8, 7] (fun i r => ∃ k left : Nat, k ≤ xs.length ∧ i = .int .i64 k ∧ r = .int .i64 left ∧ left + lenSum (xs.take k) = t) (fun i _ => xs.length - (intOf i).toNat)
    case atStart => exact ⟨0, t, by omega, rfl, rfl, rfl⟩
    case round =>
      obtain ⟨k, left, hk, rfl, rfl, hs0⟩ := hrel
      have hs := Kp.mk hs0
      have hlt' : left ≤ t := by omega
      clear hs0
      by_cases hlt : k < xs.length
      · obtain ⟨b, off, rfl, hbb, hc⟩ := Hca.out (by omega)
        obtain ⟨p, hp⟩ : ∃ p, xs[k] = p := ⟨_, rfl⟩
        have f1 : w.cell? ⟨b, off + k, none⟩ = some (.string (ofL p)) := hc k _ (by simp [List.getElem?_eq_getElem hlt, hp, Str])
        clear hc Hca
        have hsz : (ofL p).size = p.length := size_ofL p
        by_cases hbig : left < p.length
        · have hb3 := Kp.mk (show b0 = false by
            rw [hb2.out]
            have h1 := lenSum_take xs k hlt
            have h2 := lenSum_le xs (k + 1)
            have h3 := hs.out
            rw [hp] at h1
            exact decide_eq_false (by omega))
          clear hb2 hp
          go_wp2
          go_ret
          exact ⟨ret_bool hb3.out.symm, Ext.rfl' _⟩
        · have hs2 := Kp.mk (show (left - p.length) + lenSum (xs.take (k + 1)) = t by
            rw [lenSum_take xs k hlt, hp]; have := hs.out; omega)
          have w1 : IntKind.i64.wrap ((left : Int) - p.length) = (left : Int) - p.length := IntWalk.i64_in _ (by omega)
          clear hp hs
          go_wp2
          go_round
          case rel => exact ⟨k + 1, left - p.length, by omega, by go_num, by go_num, hs2.out⟩
          case measure => simp [intOf]; omega
      · have hb3 := Kp.mk (show b0 = true by
          rw [hb2.out]
          have h3 := hs.out
          rw [List.take_of_length_le (by omega)] at h3
          exact decide_eq_true (by omega))
        clear hb2 hs
        go_wp2
        go_ret
        exact ⟨ret_bool hb3.out.symm, Ext.rfl' _⟩

/-- Two texts, unlike, of one sum. -/
def ClashAt (xs : List (List UInt8)) (i j : Nat) : Prop := sumL (xs.getD j []) = sumL (xs.getD i []) ∧ xs.getD j [] ≠ xs.getD i []
def ClashPost (xs : List (List UInt8)) (w : World) (e : Ending) (w' : World) : Prop := ∃ b, e = .returned (.bool b) ∧ (∀ i j, j < i → i < xs.length → ClashAt xs i j → b = true) ∧ Ext w w'
theorem getD_at {α : Type} (l : List α) (k : Nat) (d : α) (h : k < l.length) : l.getD k d = l[k] := by
  rw [List.getD_eq_getElem?_getD, List.getElem?_eq_getElem h]; rfl

set_option maxRecDepth 100000 in
set_option maxHeartbeats 2000000 in
theorem clash_any (xs : List (List UInt8)) (v : Value) (w : World) (h : Rd w w.heap.size 1 v xs.length (xs.map Str)) (hall : ∀ p ∈ xs, p.length ≤ 900000) (hmax : xs.length ≤ 1000000) :
    Calls Tryd.prog 15 #[v] w (ClashPost xs w) := by
  obtain ⟨A, c, rfl, hn, hl, hca⟩ := h
  have Hca := Lib.hid hca; clear hca hl
  have HA := Lib.hid hall; clear hall
  go_enter Tryd.func15, Tryd.ntmps15
  go_wp2
  go_loopw [4, 3] (fun i o wr => ∃ (k : Nat) (vo : Value), vo = o ∧ k ≤ xs.length ∧ i = .int .i64 k ∧ Ext w wr ∧ wr.ownsRow w.heap.size 9 1 vo k (((xs.take k).map sumL).map Str) ∧ ∀ i j, j < i → i < k → ¬ ClashAt xs i j) (fun i _ _ => xs.length - (intOf i).toNat)
  case atStart => exact ⟨0, _, rfl, by omega, rfl, Ext.rfl' _, World.ownsRow_nil _ _ _ _, fun i j _ h => by omega⟩
  case round =>
    obtain ⟨k, vo, rfl, hk, rfl, hE, hown, hno0⟩ := hrel
    have hno := Kp.mk hno0; clear hno0
    by_cases hlt : k < xs.length
    · obtain ⟨b, off, rfl, hbb, hc⟩ := Hca.out (by omega)
      obtain ⟨p, hp⟩ : ∃ p, xs[k] = p := ⟨_, rfl⟩
      have hcell := Lib.hid (show ∀ W, Ext w W → ∀ j (hj : j < xs.length), W.cell? ⟨b, off + j, none⟩ = some (.string (ofL xs[j])) from fun W hW j hj => ((bcell hW).1 b _ hbb).trans (hc j _ (by simp [List.getElem?_eq_getElem hj, Str])))
      have f1 := hcell.out wr hE k hlt
      rw [hp] at f1
      clear hc Hca
      have hpl : p.length ≤ 900000 := by rw [← hp]; exact HA.out _ (List.getElem_mem _)
      obtain ⟨S, hS⟩ : ∃ S, sumL p = S := ⟨_, rfl⟩
      have cS := Kp.mk (show ∀ w, Calls Tryd.prog 54 #[.string (ofL p)] w fun e w' => e = .returned (.string (ofL S)) ∧ Ext w w' from fun w => by rw [← hS]; exact rsum_any p w hpl)
      have hszw := hE.size
      have HSum := Kp.mk (show ((xs.take (k + 1)).map sumL).map Str = ((xs.take k).map sumL).map Str ++ [.string (ofL S)] from by
        rw [List.take_succ_eq_append_getElem hlt, hp, List.map_append, List.map_append, ← hS]; rfl)
      have HSk := Kp.mk (show sumL (xs[k]) = S from by rw [hp, hS])
      clear hp hS
      go_wp2_with (first
        | ((with_reducible refine (cS.out _).mono ?_); rintro e w1 ⟨rfl, E1⟩; have own1 := own_ext hown (fun j _ hj => E1.block j hj); have hE1 := hE.tr E1; have hsz1 := E1.size; clear hown E1)
        | (at_builtin; refine wpl_app Tryd.elemStr rfl _ _ rfl own1 1 rfl rfl rfl (by intro u hu; simp at hu; rw [hu]; rfl) (by omega) (by omega) (by omega) ?_; intro v2 w2 hown2 hg2; have hE2 := hE1.own hg2 own1 (Nat.le_refl _); clear own1 hg2 hE1))
      have hown3 := own_eq hown2 (HSum.out.symm) rfl
      obtain ⟨g, cap, rfl⟩ := ownsRow_succ hown2
      clear hown2 HSum cS f1 hsz1 hszw hpl
      obtain ⟨wo, hwo⟩ : ∃ wo, wo = wr := ⟨_, rfl⟩
      subst hwo
      go_loopw [5] (fun x wr => ∃ j : Nat, j ≤ k ∧ x = .int .i64 j ∧ Ext w wr ∧ wr.ownsRow w.heap.size 9 1 (.slice (some ⟨g, 0, none⟩) (k + 1) cap) (k + 1) (((xs.take (k + 1)).map sumL).map Str) ∧ ∀ j', j' < j → ¬ ClashAt xs k j') (fun x _ => k - (intOf x).toNat)
      case atStart => exact ⟨0, by omega, rfl, hE2, hown3, fun j h => by omega⟩
      case round =>
        clear hE2 hown3 hE
        obtain ⟨j, hj, rfl, hE3, hown4, hnj0⟩ := hrel
        have hnj := Kp.mk hnj0; clear hnj0
        by_cases hjk : j < k
        · have hjx : j < xs.length := by omega
          have c1 : wr.cell? ⟨g, j, none⟩ = some (.string (ofL (sumL xs[j]))) := by
            rw [(own_cell hown4 j (by omega)).1]
            simp [Str]
          have c2 : wr.cell? ⟨g, k, none⟩ = some (.string (ofL (sumL xs[k]))) := by
            rw [(own_cell hown4 k (by omega)).1]
            simp [Str]
          have c3 := hcell.out wr hE3 j hjx
          have c4 := hcell.out wr hE3 k hlt
          have hcl := Kp.mk (show ClashAt xs k j ↔ sumL xs[j] = sumL xs[k] ∧ xs[j] ≠ xs[k] from by unfold ClashAt; rw [getD_at xs j [] hjx, getD_at xs k [] hlt])
          obtain ⟨Sj, hSj⟩ : ∃ Sj, sumL xs[j] = Sj := ⟨_, rfl⟩
          obtain ⟨Sk, hSk⟩ : ∃ Sk, sumL xs[k] = Sk := ⟨_, rfl⟩
          obtain ⟨pj, hpj⟩ : ∃ pj, xs[j] = pj := ⟨_, rfl⟩
          obtain ⟨pk, hpk⟩ : ∃ pk, xs[k] = pk := ⟨_, rfl⟩
          rw [hSj] at c1 hcl; rw [hSk] at c2 hcl; rw [hpj] at c3 hcl; rw [hpk] at c4 hcl
          clear hSj hSk hpj hpk
          by_cases q1 : Sj = Sk
          · have t1 : (Sj == Sk) = true := by simp [q1]
            by_cases q2 : pj = pk
            · have hc' := Kp.mk (show ¬ ClashAt xs k j from fun h => (hcl.out.1 h).2 q2)
              have t2 : (pj == pk) = true := by simp [q2]
              clear q1 q2 hcl
              go_wp2
              go_quiet (fail)
              go_wp2
              go_roundw
              case rel => exact ⟨j + 1, by omega, by go_num, hE3.drN _, hown4, fun j' h => by
                rcases Nat.lt_or_ge j' j with h1 | h1
                · exact hnj.out j' h1
                · obtain rfl : j' = j := by omega
                  exact hc'.out⟩
              case measure => simp [intOf]; omega
            · have t2 : (pj == pk) = false := by simp [q2]
              clear q1 q2 hcl
              go_wp2
              go_quiet (fail)
              go_wp2
              go_ret
              exact ⟨true, rfl, fun _ _ _ _ _ => rfl, hE3.drN _⟩
          · have hc' := Kp.mk (show ¬ ClashAt xs k j from fun h => q1 (hcl.out.1 h).1)
            have t1 : (Sj == Sk) = false := by simp [q1]
            clear q1 hcl
            go_wp2
            go_quiet (fail)
            go_wp2
            go_roundw
            case rel => exact ⟨j + 1, by omega, by go_num, hE3.drN _, hown4, fun j' h => by
              rcases Nat.lt_or_ge j' j with h1 | h1
              · exact hnj.out j' h1
              · obtain rfl : j' = j := by omega
                exact hc'.out⟩
            case measure => simp [intOf]; omega
        · go_wp2
          go_roundw
          case rel => exact ⟨k + 1, _, rfl, by omega, by go_num, hE3, hown4, fun i j' h1 h2 => by
            rcases Nat.lt_or_ge i k with h3 | h3
            · exact hno.out i j' h1 h3
            · obtain rfl : i = k := by omega
              exact hnj.out j' (by omega)⟩
          case measure => simp [intOf]; omega
    · clear hown Hca HA
      go_wp2
      go_ret
      exact ⟨false, rfl, fun i j h1 h2 h3 => absurd h3 (hno.out i j h1 (by omega)), hE⟩
end Go.Proofs.YteffocenfkcofaaDoor
