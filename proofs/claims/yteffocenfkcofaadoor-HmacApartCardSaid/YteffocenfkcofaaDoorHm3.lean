/-
  Package hmac: the parts of a frame, by an iterator that turns a captured variable. Condition: at most 1000000 bytes.
-/
import Derived.Test.YteffocenfkcofaaDoorHm2
import Derived.Test.YteffocenfkcofaaDoorIter
import Derived.Shelf.Abstract
import Derived.Shelf.RegionOpen
import Derived.WalkKit
import Derived.OwnWalkIn
import Derived.TacticsInMore
import Derived.LoopNIn
import Derived.LoopIn
import Derived.Maps.AppendAt
namespace Go.Proofs.YteffocenfkcofaaDoor
open Go.RowKit Go.Shelf
attribute [local go_sem] Oper.semAt_some

/-- What the iterator hands. -/
def encI (x : List UInt8 × Bool) : Array Value := #[.string (ofL x.1), .bool x.2]
/-- The captured text. -/
def CapS (W : World) (b : Nat) (r : List UInt8) : Prop := W.heap[b]? = some (.cells #[.string (ofL r)] 9 (0, 0))
theorem CapS.cell {W : World} {b : Nat} {r : List UInt8} (h : CapS W b r) : W.cell? ⟨b, 0, none⟩ = some (.string (ofL r)) ∧ W.frozen? ⟨b, 0, none⟩ = false := by
  unfold CapS at h
  exact ⟨by rw [cell_of_row W b 0 _ _ _ h]; rfl, by simp [World.frozen?, h]⟩
theorem CapS.lt {W : World} {b : Nat} {r : List UInt8} (h : CapS W b r) : b < W.heap.size := (Array.getElem?_eq_some_iff.1 h).1
theorem CapS.put {W : World} {b : Nat} {r : List UInt8} (h : CapS W b r) (r' : List UInt8) : CapS (W.setCell ⟨b, 0, none⟩ (.string (ofL r'))) b r' := by
  unfold CapS
  rw [heap_setCell_same W b 0 _ _ _ h]
  rfl
def capLen (W : World) (b : Nat) : Nat := match W.cell? ⟨b, 0, none⟩ with | some (.string r) => r.size | _ => 0
theorem capLen_eq {W : World} {b : Nat} {r : List UInt8} (h : CapS W b r) : capLen W b = r.length := by
  unfold capLen; rw [h.cell.1]; simp [size_ofL]
theorem grownBy_setCell (W : World) (b j : Nat) (u : Value) : W.grownBy (W.setCell ⟨b, j, none⟩ u) (some b) :=
  ⟨rfl, rfl, rfl, by simp, fun k _ hk => heap_setCell_other W ⟨b, j, none⟩ k u (fun e => hk (by simp [e]))⟩

set_option maxRecDepth 100000 in
set_option maxHeartbeats 4000000 in
theorem cuts1_seq (F : Fence) (n : Nat) (hF : F.fn 90) (hro : F.round = none) (hn : 1 ≤ n) (b : Nat) (s : List UInt8) (hs : s.length ≤ 1000000) (w : World) (hb : CapS w b s) :
    SeqC F n Tryd.prog 90 #[.pointer (some ⟨b, 0, none⟩)] encI (fun r => r = b) (fun W W' => W'.heap[b]? = W.heap[b]?) (fun xs => xs = itemsL s) (fun pre => pre <+: itemsL s) (itemsL s).length w := by
  intro l J Jx W hW hJ hJx hY h0
  have hbW : CapS W b s := (hW.block b hb.lt).trans hb
  clear hb hW
  refine callsIn_of_wp Tryd.func90 rfl hF ?_ hro
  simp only [Tryd.ntmps90, List.size_toArray, List.length_cons, List.length_nil, Nat.reduceAdd, Nat.reduceSub, Array.replicate_succ, Array.replicate_zero, List.push_toArray, List.append_toArray, List.nil_append, List.cons_append]
  gi_wp2
  gi_loopw [] (fun wr => ∃ pre rest : List _, itemsL s = pre ++ itemsL rest ∧ rest.length ≤ 1000000 ∧ CapS wr b rest ∧ J pre wr) (fun wr => capLen wr b)
  case atStart => exact ⟨[], s, rfl, hs, hbW, h0⟩
  case round =>
    obtain ⟨pre, rest, hit, hrl, hcap, hJs⟩ := hrel
    have hsz : (ofL rest).size = rest.length := size_ofL _
    obtain ⟨hc, hf⟩ := hcap.cell
    by_cases h0 : rest.length = 0
    · have hi : itemsL s = pre := by rw [hit, itemsL_nil h0, List.append_nil]
      have HI := Lib.hid hi
      clear hi hit
      gi_wp2
      go_end0
      exact ⟨⟨_, rfl⟩, .inl ⟨pre, HI.out.symm, hJs⟩⟩
    · by_cases h8 : rest.length < 8
      · have hi : itemsL s = pre ++ [([], false)] := by rw [hit, itemsL_short (by omega) h8]
        have hlt : pre.length < (itemsL s).length := by rw [hi]; simp
        obtain ⟨fn, tmps, assign, body, hy, hR⟩ := hY pre ([], false) wr hJs hlt
        dsimp only [encI] at hy
        rw [show ofL [] = ⟨#[]⟩ from rfl] at hy
        have HI := Lib.hid hi
        clear hi hit hlt
        gi_wp2
        refine hR.mono ?_
        rintro e W3 (⟨rfl, hJ3, hk3⟩ | ⟨rfl, hJx3⟩)
        · gi_wp2
          refine bodyPost_ret (results_none rfl _ _ _) rfl ?_
          exact ⟨⟨_, rfl⟩, .inl ⟨pre ++ [([], false)], HI.out.symm, hJ3⟩⟩
        · gi_wp2
          refine bodyPost_ret (results_none rfl _ _ _) rfl ?_
          exact ⟨⟨_, rfl⟩, .inr ⟨pre ++ [([], false)], ⟨[], by rw [HI.out, List.append_nil]⟩, hJx3⟩⟩
      · gi_wp2
        gi_loop [13, 3] (fun i m => ∃ k : Nat, k ≤ 8 ∧ i = .int .i64 k ∧ m = .int .u64 ((beN (rest.take k) : Nat) : Int)) (fun i _ => 8 - (intOf i).toNat)
        case atStart => exact ⟨0, by omega, rfl, rfl⟩
        case round =>
          obtain ⟨k, hk, rfl, rfl⟩ := hrel
          by_cases hlt : k < 8
          · have hkr : k < rest.length := by omega
            obtain ⟨m, hm⟩ : ∃ m, beN (rest.take k) = m := ⟨_, rfl⟩
            have hm2 : beN (rest.take (k + 1)) = m * 256 + (rest[k]).toNat := by rw [List.take_succ_eq_append_getElem hkr, beN_snoc, hm]
            have hml : m < 72057594037927936 := by
              have h1 := beN_lt (rest.take k)
              rw [hm, List.length_take, Nat.min_eq_left (by omega)] at h1
              exact Nat.lt_of_lt_of_le h1 (Nat.pow_le_pow_right (n := 256) (by decide) (show k ≤ 7 by omega))
            have hb8 := (rest[k]).toNat_lt
            have hg : (ofL rest)[k]'(by rw [hsz]; exact hkr) = rest[k] := by rw [toL_get]; simp only [toL_ofL]
            obtain ⟨c, hcc⟩ : ∃ c, (rest[k]).toNat = c := ⟨_, rfl⟩
            rw [hcc] at hm2 hb8
            have e0 : ((ofL rest)[k]'(by rw [hsz]; exact hkr)).toNat = c := by rw [hg, hcc]
            have e1 : IntKind.u64.wrap ((m : Int) * 256) = (m : Int) * 256 := IntWalk.u64_in _ ⟨by omega, by omega⟩
            have e2 : IntKind.u64.wrap (c : Int) = (c : Int) := IntWalk.u64_in _ ⟨by omega, by omega⟩
            have e3 : bits .or .u64 ((m : Int) * 256) (c : Int) = (m : Int) * 256 + c := bits_join .u64 64 (by decide) (fun n h0 h1 => IntWalk.u64_in n ⟨h0, by omega⟩) 8 _ _ (by omega) (by omega) (by omega) (by omega) (by omega) (by omega)
            rw [hm]
            have HM := Lib.hid hm; have HM2 := Lib.hid hm2
            clear hm hm2 hg hcc
            gi_wp2
            go_round
            case rel => exact ⟨k + 1, by omega, by go_num, by rw [HM2.out]; go_num⟩
            case measure => simp [intOf]; omega
          · obtain ⟨N, hN⟩ : ∃ N, beN (rest.take 8) = N := ⟨_, rfl⟩
            obtain ⟨R, hR0⟩ : ∃ R, rest.drop 8 = R := ⟨_, rfl⟩
            have hk8 : beN (rest.take k) = N := by rw [← hN]; congr 2; omega
            have hNl : N < 18446744073709551616 := by
              have h1 := beN_lt (rest.take 8)
              rw [hN, List.length_take, Nat.min_eq_left (by omega)] at h1
              exact h1
            have hRl : R.length ≤ 1000000 := by rw [← hR0, List.length_drop]; omega
            have hRr : R.length + 8 ≤ rest.length := by rw [← hR0, List.length_drop]; omega
            have ex : (ofL rest).extract 8 rest.length = ofL R := by
              have := extract_from (ofL rest) 8
              rw [hsz, toL_ofL, hR0] at this
              exact this
            have hszR : (ofL R).size = R.length := size_ofL _
            have hcap2 := hcap.put R
            have hJ2 := hJ _ _ _ _ hJs (grownBy_setCell wr b 0 (.string (ofL R))) (fun r e => by cases e; rfl)
            have hc2 := hcap2.cell.1
            have hf2 := hcap2.cell.2
            rw [hk8]
            clear hJs
            by_cases hfar : R.length < N
            · have hi : itemsL s = pre ++ [([], false)] := by rw [hit, itemsL_far (by omega) (by rw [hR0, hN]; exact hfar)]
              have hlt : pre.length < (itemsL s).length := by rw [hi]; simp
              obtain ⟨fn, tmps, assign, body, hy, hR⟩ := hY pre ([], false) _ hJ2 hlt
              dsimp only [encI] at hy
              rw [show ofL [] = ⟨#[]⟩ from rfl] at hy
              have HI := Lib.hid hi
              clear hi hit hlt hN hR0 hk8
              gi_wp2
              refine hR.mono ?_
              rintro e W3 (⟨rfl, hJ3, hk3⟩ | ⟨rfl, hJx3⟩)
              · gi_wp2
                refine bodyPost_ret (results_none rfl _ _ _) rfl ?_
                exact ⟨⟨_, rfl⟩, .inl ⟨pre ++ [([], false)], HI.out.symm, hJ3⟩⟩
              · gi_wp2
                refine bodyPost_ret (results_none rfl _ _ _) rfl ?_
                exact ⟨⟨_, rfl⟩, .inr ⟨pre ++ [([], false)], ⟨[], by rw [HI.out, List.append_nil]⟩, hJx3⟩⟩
            · have hi : itemsL s = (pre ++ [(R.take N, true)]) ++ itemsL (R.drop N) := by
                rw [hit, itemsL_cons (by omega) (by rw [hR0, hN]; omega), hR0, hN, List.append_assoc]; rfl
              have hlt : pre.length < (itemsL s).length := by rw [hi]; simp
              obtain ⟨fn, tmps, assign, body, hy, hR⟩ := hY pre (R.take N, true) _ hJ2 hlt
              dsimp only [encI] at hy
              have exT : (ofL R).extract 0 N = ofL (R.take N) := by rw [extract_to, toL_ofL]
              have exD : (ofL R).extract N R.length = ofL (R.drop N) := by
                have := extract_from (ofL R) N
                rw [hszR, toL_ofL] at this
                exact this
              have HI := Lib.hid hi
              clear hi hit hlt hN hR0 hk8
              gi_wp2
              refine hR.mono ?_
              rintro e W3 (⟨rfl, hJ3, hk3⟩ | ⟨rfl, hJx3⟩)
              · have hcap3 : CapS W3 b R := hk3.trans hcap2
                have hc3 := hcap3.cell.1
                have hf3 := hcap3.cell.2
                have hcap4 := hcap3.put (R.drop N)
                have hJ4 := hJ _ _ _ _ hJ3 (grownBy_setCell W3 b 0 (.string (ofL (R.drop N)))) (fun r e => by cases e; rfl)
                gi_wp2
                go_roundw
                case rel => exact ⟨pre ++ [(R.take N, true)], R.drop N, HI.out, by rw [List.length_drop]; omega, hcap4, hJ4⟩
                case measure => rw [capLen_eq hcap4, capLen_eq hcap, List.length_drop]; omega
              · gi_wp2
                refine bodyPost_ret (results_none rfl _ _ _) rfl ?_
                exact ⟨⟨_, rfl⟩, .inr ⟨pre ++ [(R.take N, true)], ⟨_, HI.out.symm⟩, hJx3⟩⟩
end Go.Proofs.YteffocenfkcofaaDoor
