/-
  Package stream in plain words; the number of a block, a block of a stream, in the program and in the reference. Conditions: the package's table holds the constants; texts of at most 100000 bytes. · A range over a function whose iterator never ends by itself: the caller's invariant bounds the rounds. No condition. · The same in a round of a range over a function: a region that draws its order, whose first operations only add to the world, and whose other operations come last, one behind the other. No order is walked. · Package stream: the iterator over the blocks of a stream, the first bytes of a stream. Conditions: the package's table holds the constants; texts of at most 100000 bytes. · Package stream: the first bytes of a stream. Conditions: the package's table holds the constants; texts of at most 100000 bytes. · Package stream and its reference: mixing, the reference's first bytes; the chapter's examples. Conditions: the package's table holds the constants; texts of at most 100000 bytes. · A region that draws its order, whose operations move the world along a relation (not only by adding blocks): a store is such an operation too. One local fact an operation.
-/
import Derived.Test.YtejhiekikblbiaaGreatDoorMgF
import Derived.Test.YtejhiekikblbiaaGreatDoorMgD
import Derived.Test.YtejhiekikblbiaaGreatDoorMgC
import Derived.OrdersIn
import Derived.RangeFuncCalls
import Derived.TacticsIn
import Derived.Test.YtejhiekikblbiaaGreatDoorMgE
namespace Go.Proofs.YtejhiekikblbiaaGreatDoor
open Go.RowKit

def streamS : List UInt8 := [115, 116, 114, 101, 97, 109]
def blockP (n : List UInt8) (i : Nat) : List (List UInt8) := [streamS, n, be8 i]
def blockL (k n : List UInt8) (i : Nat) : List UInt8 := partsL k (blockP n i)
def streamC (k n : List UInt8) : Nat → List UInt8
  | 0 => []
  | c + 1 => streamC k n c ++ blockL k n c
def takeL (k n : List UInt8) (m : Nat) : List UInt8 := (streamC k n m).take m
def smixL (k n t : List UInt8) : List UInt8 := xorL t (takeL k n t.length)
theorem length_blockL (k n : List UInt8) (i : Nat) : (blockL k n i).length = 32 := length_partsL _ _
theorem length_streamC (k n : List UInt8) : ∀ c, (streamC k n c).length = 32 * c
  | 0 => rfl
  | c + 1 => by rw [streamC, List.length_append, length_streamC k n c, length_blockL]; omega
theorem streamC_take (k n : List UInt8) (c : Nat) : ∀ d m, m ≤ 32 * c → (streamC k n (c + d)).take m = (streamC k n c).take m
  | 0, m, _ => rfl
  | d + 1, m, h => by
    rw [show c + (d + 1) = (c + d) + 1 by omega, streamC, List.take_append_of_le_length (by rw [length_streamC]; omega), streamC_take k n c d m h]
theorem streamC_takeL (k n : List UInt8) (c m : Nat) (h : m ≤ 32 * c) : (streamC k n c).take m = takeL k n m := by
  unfold takeL
  rcases Nat.le_total c m with h1 | h1
  · obtain ⟨d, rfl⟩ := Nat.exists_eq_add_of_le h1
    exact (streamC_take k n c d _ h).symm
  · obtain ⟨d, rfl⟩ := Nat.exists_eq_add_of_le h1
    exact streamC_take k n m d m (by omega)
theorem length_takeL (k n : List UInt8) (m : Nat) : (takeL k n m).length = m := by unfold takeL; rw [List.length_take, length_streamC]; omega
theorem takeL_take (k n : List UInt8) (a m : Nat) (h : a ≤ m) : (takeL k n m).take a = takeL k n a := by
  unfold takeL
  rw [List.take_take, Nat.min_eq_left h]
  exact streamC_takeL k n m a (by omega)
theorem length_smixL (k n t : List UInt8) : (smixL k n t).length = t.length := by unfold smixL; rw [length_xorL, length_takeL]; omega
theorem smix_mix (k n t : List UInt8) : smixL k n (smixL k n t) = t := by
  have h := length_smixL k n t
  unfold smixL at h ⊢
  rw [h, xorL_self, length_takeL, Nat.min_self, List.take_length]
theorem smix_take (k n t : List UInt8) (a : Nat) (h : a ≤ t.length) : smixL k n (t.take a) = (smixL k n t).take a := by
  unfold smixL xorL
  rw [List.length_take, Nat.min_eq_left h, ← takeL_take k n a t.length h, List.take_zipWith]
theorem len_block (n : List UInt8) (i : Nat) : (frameL (blockP n i)).length = n.length + 38 := by simp [blockP, frameL, length_be8, streamS]; omega

set_option maxRecDepth 100000 in
set_option maxHeartbeats 2000000 in
theorem number_st (n : Nat) (w : World) (_hn : n ≤ 9223372036854775807) : Calls Tryz.prog 169 #[.int .i64 n] w fun e w' => e = .returned (.string (ofL (be8 n))) ∧ Ext w w' := by
  go_enter Tryz.func169, Tryz.ntmps169
  go_wp2
  go_loopw [5] (fun x wr => ∃ k : Nat, k ≤ 8 ∧ x = .int .i64 k ∧ Ext w wr ∧ Arr wr w.heap.size 155 ((List.replicate (8 - k) 0 ++ beK n k).map U8)) (fun x _ => 8 - (intOf x).toNat)
  case atStart => exact ⟨0, by omega, rfl, (Ext.rfl' _).al _, Arr.new _ _ _⟩
  case round =>
    obtain ⟨k, hk, rfl, hE, hA⟩ := hrel
    by_cases hlt : k < 8
    · have hc : ∃ u, wr.cell? ⟨w.heap.size, 7 - k, none⟩ = some u := ⟨_, (hA.cell _).trans (List.getElem?_eq_getElem (by simp [length_beK]; omega))⟩
      obtain ⟨u, hc⟩ := hc
      have hf := hA.frozen (7 - k)
      go_wp2
      rw [U8_be n k]
      refine ⟨⟨k + 1, by omega, by go_num, hE.st (by simp) _, ?_⟩, by simp [intOf]; omega⟩
      rw [← be_set n k hlt]
      exact hA.set (7 - k) _
    · obtain rfl : k = 8 := by omega
      have hcv := Tryz.strArr8 (w := wr) (g := w.heap.size) (be8 n) rfl (by simpa [be8_beK] using hA)
      go_wp2
      go_ret
      exact ⟨rfl, hE⟩

theorem rnumber_st (n : Nat) (w : World) (hn : n ≤ 9223372036854775807) : Calls Tryz.prog 162 #[.int .i64 n] w fun e w' => e = .returned (.string (ofL (be8 n))) ∧ Ext w w' := by
  go_enter Tryz.func162, Tryz.ntmps162
  go_wp2
  go_loopw [4, 3, 0] (fun i o x wr => ∃ k : Nat, k ≤ 8 ∧ i = .int .i64 k ∧ o = .string (ofL (beK n k)) ∧ x = .int .i64 ((n / 256 ^ k : Nat) : Int) ∧ Ext w wr) (fun i _ _ _ => 8 - (intOf i).toNat)
  case atStart => exact ⟨0, by omega, rfl, rfl, by simp, Ext.rfl' _⟩
  case round =>
    obtain ⟨k, hk, rfl, rfl, rfl, hE⟩ := hrel
    by_cases hlt : k < 8
    · obtain ⟨m, hm⟩ : ∃ m, n / 256 ^ k = m := ⟨_, rfl⟩
      have hm2 : n / 256 ^ (k + 1) = m / 256 := by rw [Nat.pow_succ, ← Nat.div_div_eq_div_mul, hm]
      have hml : m ≤ 9223372036854775807 := by rw [← hm]; exact Nat.le_trans (Nat.div_le_self _ _) hn
      have hsz : (ofL (beK n k)).size = k := by rw [size_ofL, length_beK]
      have happ : ofL [byteOf ((m : Int) % 256)] ++ ofL (beK n k) = ofL (beK n (k + 1)) := by
        rw [ofL_append, beK, hm]
        congr 1
        show byteOf ((m : Int) % 256) :: beK n k = _
        congr 1
        rw [show (m : Int) % 256 = ((m % 256 : Nat) : Int) by omega, byteOf_nat _ (by omega)]
      rw [hm]
      have HM := Lib.hid hm; have HM2 := Lib.hid hm2; have HA := Lib.hid happ
      clear hm hm2 happ
      go_wp2_with ((with_reducible refine (rbyte_any _ _).mono ?_); rintro e w2 ⟨rfl, hE2⟩)
      go_roundw
      case rel => exact ⟨k + 1, by omega, by go_num, by rw [HA.out], by rw [HM2.out]; go_num, hE.tr hE2⟩
      case measure => simp [intOf]; omega
    · go_wp2
      go_ret
      obtain rfl : k = 8 := by omega
      exact ⟨ret_str (by rw [be8_beK]), hE⟩

theorem stblock_any (k n : List UInt8) (i : Nat) (w : World) (hT : Tab w) (hk : k.length ≤ 100000) (hn : n.length ≤ 100000) (hi : i ≤ 9223372036854775807) : Calls Tryz.prog 155 #[.string (ofL k), .string (ofL n), .int .i64 i] w fun e w' => e = .returned (.string (ofL (blockL k n i))) ∧ Ext w w' := by
  obtain ⟨B, hB⟩ : ∃ B, be8 i = B := ⟨_, rfl⟩
  have cN := Kp.mk (show ∀ W, Calls Tryz.prog 169 #[.int .i64 i] W fun e w' => e = .returned (.string (ofL B)) ∧ Ext W w' from fun W => by rw [← hB]; exact number_st i W hi)
  have c := Kp.mk (show ∀ W, Tab W → _ from fun W h => parts_lit k (blockP n i) #[.string ⟨#[115, 116, 114, 101, 97, 109]⟩, .string (ofL n), .string (ofL B)] (by rw [← hB]; rfl) 3 rfl W h (by omega) (by rw [len_block]; omega) (by omega))
  obtain ⟨X, hX⟩ : ∃ X, blockL k n i = X := ⟨_, rfl⟩
  rw [show partsL k (blockP n i) = X from hX] at c
  rw [hX]
  clear hX hB
  go_enter Tryz.func155, Tryz.ntmps155
  go_wp2_with fail
  refine (cN.out _).mono ?_
  rintro e w1 ⟨rfl, E1⟩
  go_wp2_with fail
  refine (c.out _ (hT.ext E1)).mono ?_
  rintro e w2 ⟨rfl, E2⟩
  go_wp2
  go_ret
  exact ⟨rfl, E1.tr E2⟩
theorem rparts_lit (k : List UInt8) (l : List (List UInt8)) (cs : Array Value) (hcs : cs.toList = l.map Str) (n : Nat) (hn : l.length = n) (w : World) (hk : k.length ≤ 800000) (hl : (frameL l).length ≤ 800000) (hm : n ≤ 1000) (g : Nat := w.heap.size) (hg : w.heap.size = g := by rfl) :
    Calls Tryz.prog 43 #[.string (ofL k), .slice (some ⟨g, 0, none⟩) n n] (w.alloc (.cells cs 9)) fun e w' => e = .returned (.string (ofL (partsL k l))) ∧ Ext w w' := by
  subst hn hg
  have hsz : cs.size = l.length := by rw [← Array.length_toList, hcs, List.length_map]
  have h := rd_lit w 9 cs l.length hsz (by unfold maxLen; omega)
  rw [hcs] at h
  refine (rparts_any k l _ _ hk h hl).mono ?_
  rintro e w' ⟨he, hE⟩
  exact ⟨he, ((Ext.rfl' w).al _).tr hE⟩
theorem rstblock_any (k n : List UInt8) (i : Nat) (w : World) (hk : k.length ≤ 100000) (hn : n.length ≤ 100000) (hi : i ≤ 9223372036854775807) : Calls Tryz.prog 143 #[.string (ofL k), .string (ofL n), .int .i64 i] w fun e w' => e = .returned (.string (ofL (blockL k n i))) ∧ Ext w w' := by
  obtain ⟨B, hB⟩ : ∃ B, be8 i = B := ⟨_, rfl⟩
  have cN := Kp.mk (show ∀ W, Calls Tryz.prog 162 #[.int .i64 i] W fun e w' => e = .returned (.string (ofL B)) ∧ Ext W w' from fun W => by rw [← hB]; exact rnumber_st i W hi)
  have c := Kp.mk (show ∀ W : World, _ from fun W => rparts_lit k (blockP n i) #[.string ⟨#[115, 116, 114, 101, 97, 109]⟩, .string (ofL n), .string (ofL B)] (by rw [← hB]; rfl) 3 rfl W (by omega) (by rw [len_block]; omega) (by omega))
  obtain ⟨X, hX⟩ : ∃ X, blockL k n i = X := ⟨_, rfl⟩
  rw [show partsL k (blockP n i) = X from hX] at c
  rw [hX]
  clear hX hB
  go_enter Tryz.func143, Tryz.ntmps143
  go_wp2_with fail
  refine (cN.out _).mono ?_
  rintro e w1 ⟨rfl, E1⟩
  go_wp2_with fail
  refine (c.out _).mono ?_
  rintro e w2 ⟨rfl, E2⟩
  go_wp2
  go_ret
  exact ⟨rfl, E1.tr E2⟩
theorem stblock_neg (k n : ByteArray) (i : Int) (w : World) (hi : i < 0) : Calls Tryz.prog 155 #[.string k, .string n, .int .i64 i] w fun e w' => e = .returned (.string ⟨#[]⟩) ∧ Ext w w' := by
  go_enter Tryz.func155, Tryz.ntmps155
  go_wp2
  go_ret
  exact ⟨rfl, Ext.rfl' _⟩
theorem rstblock_neg (k n : ByteArray) (i : Int) (w : World) (hi : i < 0) : Calls Tryz.prog 143 #[.string k, .string n, .int .i64 i] w fun e w' => e = .returned (.string ⟨#[]⟩) ∧ Ext w w' := by
  go_enter Tryz.func143, Tryz.ntmps143
  go_wp2
  go_ret
  exact ⟨rfl, Ext.rfl' _⟩
end Go.Proofs.YtejhiekikblbiaaGreatDoor

namespace Go
open Go.RowKit
variable {F : Fence} {n : Nat} {P : Program}

/-- The iterator's promise. -/
def SeqD {α : Type} (F : Fence) (n : Nat) (P : Program) (g : Nat) (lb : Array Value) (encs : α → Array Value) (C : Nat → Prop) (Kp : World → World → Prop) (S Sp : List α → Prop) (N : Nat) (w : World) : Prop :=
  ∀ (l : Nat) (J Jx : List α → World → Prop) (W : World), Below w.heap.size w W → AbidesC C J → AbidesC C Jx → (∀ pre W, J pre W → pre.length < N) →
    (∀ pre x W1, J pre W1 → pre.length < N → YieldAt F (n - 1) P l (encs x) W1 fun e W' => (e = .returned (.bool true) ∧ J (pre ++ [x]) W' ∧ Kp W1 W') ∨ (e = .returned (.bool false) ∧ Jx (pre ++ [x]) W')) →
    J [] W → CallsIn F n P g (#[.func (.yield l) #[] #[]] ++ lb) W fun e W' => (∃ v, e = .returned v) ∧ ((∃ xs, S xs ∧ J xs W') ∨ (∃ pre, Sp pre ∧ Jx pre W'))

theorem wpIn_range_D {α : Type} {g : Operand} {ps : Array Tmp} {assign body : Code} {Q : Exit → Act → World → Prop} {a : Act} {w : World}
    (hro : F.round = none) (h1 : 1 ≤ n) {gf : Nat} {lb : Array Value} (hg : a.eval g = .func (.func gf) #[] lb) (hFg : F.fn gf) (eg : ∀ args w, (callFunc gf args).run P w = .ok (.enter gf args) w)
    {encs : α → Array Value} {C : Nat → Prop} {Kp : World → World → Prop} {S Sp : List α → Prop} {N : Nat} {w0 : World} (hseq : SeqD F (n - 1) P gf lb encs C Kp S Sp N w0) (hC : ∀ r, C r → r < w.heap.size)
    (hKt : ∀ {A B C : World}, Kp A B → Kp B C → Kp A C) (hKb : ∀ (W : World) (l : Nat) (o o' : Obj), w.heap.size ≤ l → W.heap[l]? = some o → o.isCells = false → o.isWalk = false → Kp W (W.putObj l o'))
    (hb0 : Below w0.heap.size w0 w) (hps : ∀ x, (encs x).size = ps.size)
    (I : List α → World → Prop) (hIN : ∀ pre W, I pre W → pre.length < N) (Ix : Code → List α → World → Prop) (hI : AbidesB C w.heap.size I) (hIx : ∀ c, AbidesB C w.heap.size (Ix c)) (h0 : I [] w) (a₁ : α → Act)
    (hassign : ∀ (l : Nat) (x : α) (W : World) (K : Act → World → Prop), K (a₁ x) W → assign.wpIn (F.inRound l) (n - 1 - 1) P (Exit.then K (fun _ _ _ => False)) { tmps := (ps.zip (encs x)).foldl (fun t (p, v) => t.setIfInBounds p v) a.tmps, defers := [] } W)
    (hbody : ∀ (l : Nat) (pre : List α) (x : α) (W : World), I pre W → pre.length < N → w.heap.size ≤ W.heap.size → body.wpIn (F.inRound l) (n - 1 - 1) P (ownPostG w.heap.size Kp I Ix (pre ++ [x]) W) (a₁ x) W)
    (hdone : ∀ (D : Nat) (xs : List α) (W : World), w.heap.size ≤ D → S xs → I xs W → W.heap[D]? = some (.deferred (some [])) → Q .normal { a with defers := { target := .collected D, args := #[] } :: a.defers } W)
    (hstop : ∀ (D : Nat) (c : Code) (pre : List α) (W : World), w.heap.size ≤ D → Sp pre → Ix c pre W → W.heap[D]? = some (.deferred (some [])) → c.wpIn F n P Q { a with defers := { target := .collected D, args := #[] } :: a.defers } W) :
    (Code.rangeFunc g ps assign body).wpIn F n P Q a w := by
  have put : ∀ {J : List α → World → Prop} {s : List α} {W : World} {l : Nat} {o : Obj} (o' : Obj), AbidesB C w.heap.size J → J s W → w.heap.size ≤ l → W.heap[l]? = some o → o.isCells = false → J s (W.putObj l o') :=
    fun o' hJ hs hl ho hn => hJ _ _ _ _ hs (grownBy_putObj' _ _ o') (fun r e => by cases e; exact .inr ⟨hl, _, ho, hn⟩)
  refine wpIn_rangeFunc fun fn hfn => ?_
  rw [hro]
  obtain ⟨rc, hrc⟩ : ∃ rc : LoopState → Option Code → Loop, rc = fun st pe => { state := st, pending := pe, fn, tmps := a.tmps, params := ps, assign, body, defers := w.heap.size } := ⟨_, rfl⟩
  obtain ⟨L, hL⟩ : ∃ L, w.heap.size + 1 = L := ⟨_, rfl⟩
  obtain ⟨W1, hW1⟩ : ∃ W1, (w.alloc (.deferred (some []))).alloc (.loop (rc .ready none)) = W1 := ⟨_, rfl⟩
  have rec1 : W1.heap[L]? = some (.loop (rc .ready none)) := by
    have := World.alloc_heap_new (w.alloc (.deferred (some []))) (.loop (rc .ready none))
    rw [World.size_alloc, hW1, hL] at this
    exact this
  have def1 : W1.heap[w.heap.size]? = some (.deferred (some [])) := by
    rw [← hW1]; exact (Below.heap_alloc _ _ _ (by simp)).trans (World.alloc_heap_new w _)
  have up : ∀ s, I s w → I s W1 := fun s hs => by
    rw [← hW1]
    exact hI _ _ _ none (hI _ _ _ none hs (World.grownBy_alloc w _ none) (fun r e => by cases e)) (World.grownBy_alloc _ _ none) (fun r e => by cases e)
  have b1 : Below w0.heap.size w0 W1 := by
    rw [← hW1]; exact hb0.trans ((((Below.refl _ w).alloc (Nat.le_refl _) _).alloc (by simp) _).mono hb0.size)
  refine ⟨L, [{ target := .collected w.heap.size, args := #[] }], W1, { target := .fn (.func gf) lb, args := #[.func (.yield L) #[] #[]] }, W1, gf, #[.func (.yield L) #[] #[]] ++ lb, W1, ?_, ?_, ?_, ?_, fun _ => h1, ?_⟩
  · rw [← hW1, hrc, ← hL]; exact run_enterLoop_outer _ _ _ _ _
  · simp only [resolve, hg]
    simp [go_sem]
  · intro f' hf'; simp [Target.leads] at hf'; subst hf'; exact hFg
  · simp [invoke, go_sem, eg]
  · have apart : ∀ {row : Option Nat} (k : Nat), w.heap.size ≤ k → (∀ r, row = some r → C r) → ∀ r, row = some r → r ≠ k := fun k hk hr r e => by have := hC r (hr r e); omega
    refine (hseq L (fun pre W => I pre W ∧ W.heap[L]? = some (.loop (rc .ready none)) ∧ W.heap[w.heap.size]? = some (.deferred (some [])))
      (fun pre W => ∃ c, Ix c pre W ∧ W.heap[L]? = some (.loop (rc .done (some c))) ∧ W.heap[w.heap.size]? = some (.deferred (some []))) W1 b1
      (fun s A B row ⟨hs, hl, hk⟩ hgr hr => ⟨hI _ _ _ _ hs hgr (fun r e => .inl (hr r e)), grownBy_at hgr hl (apart L (by omega) hr), grownBy_at hgr hk (apart _ (Nat.le_refl _) hr)⟩)
      (fun s A B row ⟨c, hs, hl, hk⟩ hgr hr => ⟨c, hIx c _ _ _ _ hs hgr (fun r e => .inl (hr r e)), grownBy_at hgr hl (apart L (by omega) hr), grownBy_at hgr hk (apart _ (Nat.le_refl _) hr)⟩)
      (fun pre W ⟨hs, _, _⟩ => hIN pre W hs) ?_ ⟨up _ h0, rec1, def1⟩).mono ?_
    · rintro pre x W ⟨hi, hl, hk⟩ hlen
      have hlt : L < W.heap.size := (Array.getElem?_eq_some_iff.1 hl).1
      have hy := run_yield (P := P) (args := encs x) hl (by rw [hrc]; exact hps x)
      rw [hrc] at hy
      refine ⟨fn, _, assign, body, hy, roundIn_of_wpIn hfn (hassign _ x W _ ⟨_, run_beginRound hl (by rw [hrc]), ?_⟩)⟩
      have hl2 : (W.putObj L (.loop { rc .ready none with state := .busy })).heap[L]? = some (.loop { rc .ready none with state := .busy }) := World.putObj_heap_same hlt
      have hk2 : (W.putObj L (.loop { rc .ready none with state := .busy })).heap[w.heap.size]? = some (.deferred (some [])) := (World.putObj_heap_other (by omega)).trans hk
      have hw2 : Kp W (W.putObj L (.loop { rc .ready none with state := .busy })) := hKb _ _ _ _ (by omega) hl rfl rfl
      refine wpIn_mono (hbody _ pre x _ (put _ hI hi (by omega) hl rfl) hlen (by simp; omega)) ?_
      have fin : ∀ (jump : Option Code) (W3 : World), KeepsFrom w.heap.size (W.putObj L (.loop { rc .ready none with state := .busy })) W3 →
          (Instr.endRound L jump).run P W3 = .ok (.bool jump.isNone) (W3.putObj L (.loop (rc (if jump.isNone then .ready else .done) jump))) ∧ W3.heap[L]? = some (.loop { rc .ready none with state := .busy }) ∧
          (W3.putObj L (.loop (rc (if jump.isNone then .ready else .done) jump))).heap[L]? = some (.loop (rc (if jump.isNone then .ready else .done) jump)) ∧
          (W3.putObj L (.loop (rc (if jump.isNone then .ready else .done) jump))).heap[w.heap.size]? = some (.deferred (some [])) := fun jump W3 hk3 => by
        have hl3 := hk3.same _ _ (by omega) hl2 rfl
        have := run_endRound (P := P) jump hl3
        rw [hrc] at this ⊢
        exact ⟨this, by rw [hrc] at hl3; exact hl3, World.putObj_heap_same (Array.getElem?_eq_some_iff.1 hl3).1, (World.putObj_heap_other (by omega)).trans (hk3.same _ _ (Nat.le_refl _) hk2 rfl)⟩
      rintro e a3 W3 hp
      cases e with
      | normal =>
        obtain ⟨hk3, hkp3, hi3⟩ := hp
        obtain ⟨hr, hl3, hl4, hk4⟩ := fin none W3 hk3
        exact ⟨_, _, hr, .inl ⟨rfl, ⟨put _ hI hi3 (by omega) hl3 rfl, hl4, hk4⟩, hKt (hKt hw2 hkp3) (hKb _ _ _ _ (by omega) hl3 rfl rfl)⟩⟩
      | ret =>
        obtain ⟨hk3, hi3⟩ := hp
        obtain ⟨hr, hl3, hl4, hk4⟩ := fin (some .ret) W3 hk3
        exact ⟨_, _, hr, .inr ⟨rfl, .ret, put _ (hIx _) hi3 (by omega) hl3 rfl, hl4, hk4⟩⟩
      | exit id =>
        obtain ⟨hk3, hi3⟩ := hp
        obtain ⟨hr, hl3, hl4, hk4⟩ := fin (some (.exit id)) W3 hk3
        exact ⟨_, _, hr, .inr ⟨rfl, .exit id, put _ (hIx _) hi3 (by omega) hl3 rfl, hl4, hk4⟩⟩
      | goto t =>
        obtain ⟨hk3, hi3⟩ := hp
        obtain ⟨hr, hl3, hl4, hk4⟩ := fin (some (.goto t)) W3 hk3
        exact ⟨_, _, hr, .inr ⟨rfl, .goto t, put _ (hIx _) hi3 (by omega) hl3 rfl, hl4, hk4⟩⟩
      | panic ch => exact hp.elim
      | outgrown => exact hp.elim
    · rintro e W2 ⟨⟨v, rfl⟩, (⟨xs, hS, hi, hl, hk⟩ | ⟨pre, hSp, c, hi, hl, hk⟩)⟩
      · exact ⟨none, _, by have := run_endLoop (P := P) hl (by rw [hrc]; simp); rw [hrc] at this; exact this, hdone _ xs _ (Nat.le_refl _) hS (put _ hI hi (by omega) hl rfl) ((World.putObj_heap_other (by omega)).trans hk)⟩
      · exact ⟨some c, _, by have := run_endLoop (P := P) hl (by rw [hrc]; simp); rw [hrc] at this; exact this, hstop _ c pre _ (Nat.le_refl _) hSp (put _ (hIx c) hi (by omega) hl rfl) ((World.putObj_heap_other (by omega)).trans hk)⟩
end Go

namespace Go
open Go.Proofs.YtejhiekikblbiaaGreatDoor

section
variable {P : Program} {ops : Array Oper} {w0 : World} {V : Nat → Value → World → Prop} {a0 : Act} {md : Region.Mode}

def noDefer (ops : Array Oper) : Bool := ops.toList.all fun o => match o.op with | .defer _ => false | _ => true
theorem noDefer_at (h : noDefer ops = true) {i : Nat} {o : Oper} (ho : ops[i]? = some o) : ∀ c, o.op ≠ .defer c := by
  intro c e
  have := List.all_eq_true.1 h o (by rw [Array.mem_toList_iff]; exact Array.mem_of_getElem? ho)
  rw [e] at this
  cases this
theorem OpLeaves.wpOpIn (l n1 : Nat) {i : Nat} {o : Oper} {a : Act} {Vi : Value → World → Prop} {Q : Exit → Act → World → Prop} (hdf : ∀ c, o.op ≠ .defer c) (hi : ops[i]? = some o) {w : World} (hy : OpLeaves P ops Vi o a w)
    {K : Act → World → Prop} (h : ∀ v w', Ext w w' → Vi v w' → K (a.put o.dst v) w') : wpOpIn (Fence.wide.inRound l) n1 P ops Q i K a w := by
  unfold Go.wpOpIn
  simp only [hi]
  have hs : Oper.semAt (Fence.wide.inRound l).round a.eval o = execOp a.eval o := Oper.semAt_some l a.eval o hdf
  rcases hy with ⟨hw, hv⟩ | ⟨hw, hv⟩
  · simp only [hw, if_true]
    unfold Oper.wpIn
    refine ⟨fun _ _ => trivial, ?_⟩
    rw [hs]
    rcases hv with ⟨v, w', hr, hE, hv⟩ | ⟨w', hr, hE, hv⟩ | ⟨f, args, w', hr, hc⟩
    · rw [hr]; exact h v w' hE hv
    · rw [hr]; exact h _ w' hE hv
    · rw [hr, Oper.uponIn_enter]
      refine ⟨fun hh => (by cases hh), (CallsIn.inRound l (callsIn_wide.2 hc)).mono fun e w'' he => ?_⟩
      obtain ⟨v, rfl, hE, hv⟩ := he
      exact h v w'' hE hv
  · simp only [hw, Bool.false_eq_true, if_false]; exact ⟨fun _ _ => trivial, h _ w (Ext.rfl' w) hv⟩
theorem wpAnyIn_of_seq {l n1 : Nat} {Q' : Exit → Act → World → Prop} : ∀ (r : List Oper) (k : Nat) (listed : Array Bool) (a : Act) (w : World), (∀ j, r[j]? = ops[k + j]?) →
    Region.seqB md ops r.length k listed = true → wpListIn (Fence.wide.inRound l) n1 P ops Q' r a w → wpAnyIn (Fence.wide.inRound l) n1 P md ops Q' r.length listed a w
  | [], _, _, _, _, _, hB, h => ⟨by simpa [Region.seqB] using hB, h⟩
  | o :: r, k, listed, a, w, hl, hB, h => by
    have h0 : ops[k]? = some o := by simpa using (hl 0).symm
    simp only [List.length_cons, Region.seqB, Bool.and_eq_true, decide_eq_true_eq] at hB
    refine ⟨fun h1 => (by rw [hB.1] at h1; cases h1), fun i hi => ?_⟩
    rw [hB.1] at hi
    have hik : i = k := by simpa using hi
    subst hik
    have hw : wpOpIn (Fence.wide.inRound l) n1 P ops Q' i (wpListIn (Fence.wide.inRound l) n1 P ops Q' r) a w := by unfold wpOpIn; simp only [h0]; exact h
    exact wpOpIn_mono (fun a' w' h' => wpAnyIn_of_seq r (i + 1) _ a' w' (fun j => by have := hl (j + 1); simpa [Nat.add_assoc, Nat.add_comm 1 j] using this) hB.2 h') hw

theorem wpAnyIn_tails (l n1 : Nat) (hdf : noDefer ops = true) {Q : Exit → Act → World → Prop} {n : Nat} (hs : Region.sinkB .any ops n = true) (hc : Region.chainB .any ops n = true) (hn : n < ops.size) (hseq : Region.seqB .any ops (ops.size - n) n (headDone n (ops.size - n)) = true)
    (hd : dstsOk ((ops.toList.take n).map (·.dst)) = true) (ha : aftersOk ops.toList 0 = true)
    (hst : ∀ k v w w', Ext w0 w → Ext w w' → V k v w → V k v w') (hl : LocalsR P ops w0 V (ops.toList.take n) a0 (ops.toList.take n) 0)
    (hE : ∀ u w, Ext w0 w → (∀ k, k < n → V k (u k) w) → wpListIn (Fence.wide.inRound l) n1 P ops Q (ops.toList.drop n) (fillOps (ops.toList.take n) u 0 a0) w) :
    ∀ (f : Nat) (listed : Array Bool) (u : Nat → Value) (w : World), HeadInv .any ops n listed → (listed.toList.take n).count true + f = n → Ext w0 w →
      (∀ k, listed.getD k false = true → V k (u k) w) → wpAnyIn (Fence.wide.inRound l) n1 P .any ops Q (f + (ops.size - n)) listed (fillOps (ops.toList.take n) u 0 a0) w := by
  intro f
  induction f with
  | zero =>
    intro listed u w inv hcount hw hV
    have hsz := inv.size
    have hlen : (listed.toList.take n).length = n := by rw [List.length_take, Array.length_toList]; omega
    have hall : ∀ k, k < n → listed[k]? = some true := by
      intro k hk
      have h1 : ∀ b ∈ listed.toList.take n, true = b := List.count_eq_length.1 (by rw [hlen]; omega)
      have hk' : k < listed.size := by omega
      rw [Array.getElem?_eq_getElem hk']
      congr 1
      refine (h1 _ ?_).symm
      rw [List.mem_take_iff_getElem]
      exact ⟨k, by rw [Array.length_toList]; omega, by simp⟩
    have htail : ∀ k, n ≤ k → k < ops.size → listed[k]? = some false := by
      intro k hk1 hk2
      have h0 := inv.tail k hk1 hk2
      have hk' : k < listed.size := by omega
      rw [Array.getD_eq_getD_getElem?, Array.getElem?_eq_getElem hk'] at h0
      rw [Array.getElem?_eq_getElem hk']
      simpa using h0
    have heq : listed = headDone n (ops.size - n) := by
      apply Array.ext_getElem?
      intro k
      rw [headDone_at]
      by_cases h1 : k < n
      · rw [if_pos h1]; exact hall k h1
      · rw [if_neg h1]
        by_cases h2 : k < ops.size
        · rw [if_pos (by omega)]; exact htail k (by omega) h2
        · rw [if_neg (by omega)]; exact Array.getElem?_eq_none (by omega)
    have hdl : (ops.toList.drop n).length = ops.size - n := by simp
    have H := wpAnyIn_of_seq (l := l) (n1 := n1) (P := P) (md := .any) (Q' := Q) (ops.toList.drop n) n listed (fillOps (ops.toList.take n) u 0 a0) w (fun j => by simp [List.getElem?_drop]) (by rw [hdl, heq]; exact hseq)
      (hE u w hw fun k hk => hV k (by rw [Array.getD_eq_getD_getElem?, hall k hk]; rfl))
    rw [hdl] at H
    rw [Nat.zero_add]
    exact H
  | succ f ih =>
    intro listed u w inv hcount hw hV
    have hsz := inv.size
    have hlen : (listed.toList.take n).length = n := by rw [List.length_take, Array.length_toList]; omega
    -- one of the first ones is not listed yet
    have hex : ∃ i, i < n ∧ listed.getD i true = false := by
      apply Classical.byContradiction
      intro hno
      have : ∀ b ∈ listed.toList.take n, true = b := by
        intro b hb
        obtain ⟨k, hk, rfl⟩ := List.mem_iff_getElem.1 hb
        have hk2 : k < n := by omega
        cases hq : (listed.toList.take n)[k] with
        | true => rfl
        | false =>
          exfalso
          refine hno ⟨k, hk2, ?_⟩
          have hk' : k < listed.size := by omega
          rw [Array.getD_eq_getD_getElem?, Array.getElem?_eq_getElem hk']
          simpa using hq
      have := List.count_eq_length.2 this
      omega
    obtain ⟨i0, hi0, hun0⟩ := hex
    have hlow : ∀ t, t ∈ Region.ready .any ops listed → t < n := fun t ht => by
      rcases Nat.lt_or_ge t n with h | h
      · exact h
      · exact absurd ht (tail_waits hs hc hn inv _ i0 rfl hi0 hun0 t h)
    rw [show f + 1 + (ops.size - n) = (f + (ops.size - n)) + 1 by omega]
    refine ⟨fun hr => ?_, fun i hi => ?_⟩
    · exfalso
      have : ∀ k, k < n → listed.getD k true = true := by
        intro k
        induction k using Nat.strongRecOn with
        | ind k ihk =>
          intro hk
          cases hb : listed.getD k true with
          | true => rfl
          | false =>
            exfalso
            have hmem : k ∈ Region.ready .any ops listed := by
              rw [mem_ready]
              refine ⟨hb, ops[k]'(by omega), Array.getElem?_eq_getElem (by omega), fun e he _ => ?_⟩
              have h1 := afters_at ops.toList 0 k (ops[k]'(by omega)) ha (by simp [show k < ops.size by omega]) e he
              have h2 := ihk e.on (by omega) (by omega)
              have h3 : e.on < listed.size := by omega
              rw [Array.getD_eq_getD_getElem?, Array.getElem?_eq_getElem h3] at h2 ⊢
              simpa using h2
            rw [hr] at hmem
            cases hmem
      rw [this i0 hi0] at hun0
      cases hun0
    · have hin := hlow i hi
      have inv' := inv.set hi hin
      obtain ⟨h0, o', ho', hall⟩ := mem_ready.1 hi
      have hk' : i < listed.size := by omega
      have ho3 : (ops.toList.take n)[i]? = some o' := by rw [List.getElem?_take, if_pos hin, Array.getElem?_toList]; exact ho'
      have hL := localsR_at (ops.toList.take n) 0 i o' hl ho3
      rw [Nat.zero_add] at hL
      have hss := hL u w hw (fun k hk => by
        rw [Array.any_eq_true] at hk
        obtain ⟨q, hq, he⟩ := hk
        rw [Bool.and_eq_true] at he
        have := hall _ (Array.getElem_mem hq) he.1
        rw [beq_iff_eq.1 he.2] at this
        exact hV k this)
      refine hss.wpOpIn l n1 (noDefer_at hdf ho') ho' fun v w' hE' hv => ?_
      rw [fill_upd u v (ops.toList.take n) 0 i a0 o' hd ho3, Nat.zero_add]
      refine ih (listed.setIfInBounds i true) (upd u i v) w' inv' ?_ (hw.tr hE') fun k hk => ?_
      · have hf : (listed.toList.take n)[i]? = some false := by
          rw [Array.getD_eq_getD_getElem?, Array.getElem?_eq_getElem hk'] at h0
          rw [List.getElem?_take, if_pos hin, Array.getElem?_toList, Array.getElem?_eq_getElem hk']
          simpa using h0
        have := count_set (listed.toList.take n) i hf
        rw [Array.toList_setIfInBounds, List.take_set, this]
        omega
      · by_cases hki : k = i
        · subst hki; rw [upd_same]; exact hv
        · rw [upd_ne hki]
          refine hst k _ w w' hw hE' (hV k ?_)
          rw [Array.getD_eq_getD_getElem?, Array.getElem?_setIfInBounds_ne (Ne.symm hki)] at hk
          rw [Array.getD_eq_getD_getElem?]
          exact hk

/-- The whole region. -/
theorem wpIn_region_tails (l n1 : Nat) (hdf : noDefer ops = true) {Q : Exit → Act → World → Prop} {id : Nat} {w : World} (V : Nat → Value → World → Prop) (n : Nat) (hm : P.follows .mixedOrders = true)
    (hs : Region.sinkB .any ops n = true) (hc : Region.chainB .any ops n = true) (hn : n < ops.size) (hseq : Region.seqB .any ops (ops.size - n) n (headDone n (ops.size - n)) = true)
    (hd : dstsOk ((ops.toList.take n).map (·.dst)) = true) (ha : aftersOk ops.toList 0 = true)
    (hst : ∀ k v w1 w2, Ext w w1 → Ext w1 w2 → V k v w1 → V k v w2) (hl : LocalsR P ops w V (ops.toList.take n) a0 (ops.toList.take n) 0)
    (hE : ∀ u w', Ext w w' → (∀ k, k < n → V k (u k) w') → wpListIn (Fence.wide.inRound l) n1 P ops Q (ops.toList.drop n) (fillOps (ops.toList.take n) u 0 a0) w') : (Code.region id ops true).wpIn (Fence.wide.inRound l) n1 P Q a0 w := by
  have h0 : fillOps (ops.toList.take n) (fun k => (((ops.toList.take n)[k]?).bind fun o => o.dst.bind fun d => a0.tmps[d]?).getD undef) 0 a0 = a0 := by
    refine fill_id _ (ops.toList.take n) 0 a0 fun j o ho => ?_
    simp only [Nat.zero_add, ho, Option.bind_some]
    cases hq : o.dst with
    | none => rfl
    | some d =>
      simp only [Act.put, Option.bind_some]
      by_cases hlt : d < a0.tmps.size
      · rw [Array.getElem?_eq_getElem hlt]
        simp [Array.setIfInBounds, hlt]
      · simp [Array.setIfInBounds, hlt]
  have hr : ∀ k, (Array.replicate ops.size false).getD k false = false := fun k => getD_replicate_false _ _
  refine wpIn_region_any hm ?_
  have inv0 : HeadInv .any ops n (Array.replicate ops.size false) :=
    ⟨by simp, fun j oj _ hl => (by rw [hr] at hl; cases hl), fun t _ ht => getD_in (by simpa using ht) (hr _)⟩
  have H := wpAnyIn_tails l n1 hdf (Q := Q) (w0 := w) hs hc hn hseq hd ha hst hl hE n (Array.replicate ops.size false) (fun k => (((ops.toList.take n)[k]?).bind fun o => o.dst.bind fun d => a0.tmps[d]?).getD undef) w.drew inv0
    (by simp [List.take_replicate, List.count_replicate]) (Ext.rfl' w).dr fun k hk => by rw [hr] at hk; cases hk
  rw [h0, show n + (ops.size - n) = ops.size by omega] at H
  exact H
end
end Go

namespace Go.Proofs.YtejhiekikblbiaaGreatDoor
open Go.RowKit Go.Shelf
attribute [local go_sem] Oper.semAt_some

/-- What the iterator has captured. -/
def CapB (W : World) (b : Nat) (k n : List UInt8) : Prop := Arr W b 9 [.string (ofL k)] ∧ Arr W (b + 1) 9 [.string (ofL n)]
theorem CapB.ext {W W' : World} {b : Nat} {k n : List UInt8} (h : CapB W b k n) (hE : Ext W W') : CapB W' b k n := ⟨h.1.ext hE h.1.lt, h.2.ext hE h.2.lt⟩
theorem blocks_any (k n : List UInt8) (w : World) : Calls Tryz.prog 134 #[.string (ofL k), .string (ofL n)] w fun e w' => e = .returned (.func (.func 154) #[] #[.pointer (some ⟨w.heap.size, 0, none⟩), .pointer (some ⟨w.heap.size + 1, 0, none⟩)]) ∧ CapB w' w.heap.size k n ∧ w'.heap.size = w.heap.size + 2 ∧ Ext w w' := by
  have A0 := (Arr.new w 9 [.string (ofL k)]).alloc (.cells #[.string (ofL n)] 9)
  have A1 := Arr.new (w.alloc (.cells #[.string (ofL k)] 9)) 9 [.string (ofL n)]
  have E0 := ((Ext.rfl' w).al (.cells #[.string (ofL k)] 9)).al (.cells #[.string (ofL n)] 9)
  simp only [World.size_alloc] at A1
  have K := Kp.mk (And.intro A0 A1)
  clear A0 A1
  go_enter Tryz.func134, Tryz.ntmps134
  go_wp2
  go_ret
  exact ⟨rfl, K.out, by simp only [World.size_alloc], E0⟩
/-- What a round that goes on keeps. -/
def KeepB (n0 b : Nat) (W W' : World) : Prop := Below n0 W W' ∧ W'.heap[b]? = W.heap[b]? ∧ W'.heap[b + 1]? = W.heap[b + 1]?
theorem CapB.kept {n0 b : Nat} {W W' : World} {k n : List UInt8} (h : CapB W b k n) (hk : KeepB n0 b W W') : CapB W' b k n := ⟨hk.2.1.trans h.1, hk.2.2.trans h.2⟩
/-- Blocks have 32 bytes. -/
abbrev B32 := { x : List UInt8 // x.length = 32 }
def blkB (k n : List UInt8) (c : Nat) : B32 := ⟨blockL k n c, length_blockL k n c⟩
/-- The first blocks. -/
def blocksL (k n : List UInt8) (c : Nat) : List B32 := (List.range c).map (blkB k n)
theorem blocksL_succ (k n : List UInt8) (c : Nat) : blocksL k n (c + 1) = blocksL k n c ++ [blkB k n c] := by unfold blocksL; rw [List.range_succ, List.map_append]; rfl
theorem length_blocksL (k n : List UInt8) (c : Nat) : (blocksL k n c).length = c := by unfold blocksL; simp

set_option maxRecDepth 100000 in
set_option maxHeartbeats 4000000 in
theorem blocks1_seq (d : Nat) (hd : 1 ≤ d) (b n0 N : Nat) (k n : List UInt8) (w : World) (hT : Tab w) (hg : 1 < n0) (hn0 : n0 ≤ b) (hcap : CapB w b k n) (hk : k.length ≤ 100000) (hn : n.length ≤ 100000) (hN : N ≤ 1000000) :
    SeqD Fence.wide d Tryz.prog 154 #[.pointer (some ⟨b, 0, none⟩), .pointer (some ⟨b + 1, 0, none⟩)] (fun x : B32 => #[.string (ofL x.1)]) (fun _ => False) (KeepB n0 b) (fun _ => False) (fun pre => pre = blocksL k n pre.length) N w := by
  intro l' J Jx W hW hJ hJx hJN hY h0
  have hcW := hcap.ext hW
  have hbw : n0 ≤ w.heap.size := by have := hcap.1.lt; omega
  have hBW : Below n0 w W := ⟨hW.os, hW.tape, hW.output, hW.size, fun k hk => hW.block k (by omega)⟩
  clear hcap hW
  refine callsIn_of_wp Tryz.func154 rfl trivial ?_ rfl
  simp only [Tryz.ntmps154, List.size_toArray, List.length_cons, List.length_nil, Nat.reduceAdd, Nat.reduceSub, Array.replicate_succ, Array.replicate_zero, List.push_toArray, List.append_toArray, List.nil_append, List.cons_append]
  gi_wp2
  gi_loopw [4] (fun i wr => ∃ c : Nat, i = .int .i64 c ∧ Below n0 w wr ∧ CapB wr b k n ∧ J (blocksL k n c) wr) (fun i _ => N - (intOf i).toNat)
  case atStart => exact ⟨0, rfl, hBW, hcW, h0⟩
  case round =>
    clear hBW hcW h0
    obtain ⟨c, rfl, hB, hc, hJs⟩ := hrel
    have hlt := hJN _ _ hJs
    rw [length_blocksL] at hlt
    have r1 := (arr_cell0 hc.1).1
    have r2 := (arr_cell0 hc.2).1
    have hb := Kp.mk (stblock_any k n c wr (hT.below hg hB) hk hn (by omega))
    have hsu := Kp.mk (blocksL_succ k n c)
    obtain ⟨X, hX⟩ : ∃ X, blkB k n c = X := ⟨_, rfl⟩
    rw [show blockL k n c = X.1 by rw [← hX]; rfl] at hb
    rw [hX] at hsu
    clear hX
    gi_wp2_with fail
    refine ⟨trivial, (callsIn_wide.2 hb.out).mono ?_⟩
    rintro e w4 ⟨rfl, E4⟩
    have hc4 := hc.ext E4
    have hJ4 := hJ _ _ _ _ hJs (ext_grown E4) (fun r e => by cases e)
    have hB4 : Below n0 w w4 := hB.trans ⟨E4.os, E4.tape, E4.output, E4.size, fun k hk => E4.block k (by have := hB.size; omega)⟩
    obtain ⟨fn, tmps, assign, body, hy, hR⟩ := hY (blocksL k n c) X _ hJ4 (by rw [length_blocksL]; exact hlt)
    clear hb hc hJs hB E4 r1 r2
    gi_wp2
    refine hR.mono ?_
    rintro e W6 (⟨rfl, hJ6, hk6⟩ | ⟨rfl, hJx6⟩)
    · have hc6 := hc4.kept hk6
      have hB6 := hB4.trans hk6.1
      clear hR hy
      gi_wp2
      go_roundw
      case rel => exact ⟨c + 1, by go_num, hB6, hc6, by rw [hsu.out]; exact hJ6⟩
      case measure => simp [intOf]; omega
    · gi_wp2
      go_end0
      exact ⟨⟨_, rfl⟩, .inr ⟨blocksL k n c ++ [X], by rw [← hsu.out, length_blocksL], hJx6⟩⟩
def flatB (l : List B32) : List UInt8 := l.flatMap (·.1)
theorem flat_blocks (k n : List UInt8) : ∀ c, flatB (blocksL k n c) = streamC k n c
  | 0 => rfl
  | c + 1 => by rw [blocksL_succ, streamC, ← flat_blocks k n c]; unfold flatB; rw [List.flatMap_append]; simp [blkB]
theorem length_flatB : ∀ l : List B32, (flatB l).length = 32 * l.length
  | [] => rfl
  | x :: l => by
    unfold flatB
    rw [List.flatMap_cons, List.length_append, x.2, List.length_cons]
    have := length_flatB l
    unfold flatB at this
    omega
theorem flatB_snoc (l : List B32) (x : B32) : flatB (l ++ [x]) = flatB l ++ x.1 := by unfold flatB; rw [List.flatMap_append]; simp
end Go.Proofs.YtejhiekikblbiaaGreatDoor

namespace Go.Proofs.YtejhiekikblbiaaGreatDoor
open Go.RowKit Go.Shelf
attribute [local go_sem] Oper.semAt_some

theorem bld_writeF (B b : Nat) (l p : List UInt8) (w : World) (h : Lib.IsBuilderF 101 5 B b (Lib.byteCells l) w) (hlen : l.length + p.length ≤ 1000000) (hBw : B ≤ w.heap.size) :
    Calls Tryz.prog 68 #[.pointer (some ⟨b, 0, none⟩), .string (ofL p)] w fun e w' => e = .returned (.tuple #[.int .i64 p.length, .nilIface]) ∧ Lib.IsBuilderF 101 5 B b (Lib.byteCells (l ++ p)) w' ∧ Below B w w' ∧ Lib.OthersKept 5 (some b) w w' := by
  have h0 := Any.Builder_WriteString_k bld_laid bld_extra B b _ (ofL p) w h (by rw [Lib.byteCells_length, size_ofL]; omega) hBw
  refine h0.mono ?_
  rintro e w' ⟨rfl, hb, hB, hO⟩
  rw [strCells_ofL, byteCells_append] at hb
  exact ⟨by rw [size_ofL], .inr hb, hB, hO⟩
theorem isBuilderF_kept {T e : TypeId} {B b : Nat} {bs : List Value} {w w' : World} {row : Option Nat} (h : Lib.IsBuilderF T e B b bs w) (hg : w.grownBy w' row) (hr : ∀ r, row = some r → ∃ o : Obj, w.heap[r]? = some o ∧ o.isCells = false) : Lib.IsBuilderF T e B b bs w' := by
  have key : ∀ p, Lib.BuilderAtF T e B b p bs w → Lib.BuilderAtF T e B b p bs w' := by
    rintro p ⟨hB, v, hb, hown, hne⟩
    refine ⟨hB, v, grownBy_at hg hb (fun r er => ?_), hown.kept hg ?_, hne⟩
    · rintro rfl
      obtain ⟨o, ho, hc⟩ := hr r er
      rw [hb] at ho; cases ho; cases hc
    · rcases hown.2 with ⟨rfl, _⟩ | ⟨g, cap, cur, fz, rfl, _, hgb, _⟩
      · exact .inl rfl
      · refine .inr fun e' => ?_
        obtain ⟨o, ho, hc⟩ := hr g (by rw [← e']; rfl)
        rw [hgb] at ho; cases ho; cases hc
  exact h.elim (fun h => .inl (key _ h)) (fun h => .inr (key _ h))
theorem isBuilderF_cells {T e : TypeId} {B b : Nat} {bs : List Value} {w : World} (h : Lib.IsBuilderF T e B b bs w) : ∃ cs, w.heap[b]? = some (.cells cs T (0, 0)) := by
  rcases h with ⟨_, v, hb, _⟩ | ⟨_, v, hb, _⟩ <;> exact ⟨_, hb⟩
/-- What is no cells lies as it lay. -/
theorem others_keep {T e : TypeId} {b : Nat} {w w' : World} (hO : Lib.OthersKept e (some b) w w') (hb : ∃ cs, w.heap[b]? = some (.cells cs T (0, 0))) (hs : w.heap.size ≤ w'.heap.size) : KeepsOthers w w' :=
  ⟨hs, fun i _ hi ho => hO i _ hi (fun e' => by
    cases e'
    obtain ⟨cs, hc⟩ := hb
    rw [hc] at hi; cases hi; cases ho) (fun c fz e' => by subst e'; cases ho)⟩
theorem others_at {t : TypeId} {b k : Nat} {xs : List Value} {w w' : World} (hO : Lib.OthersKept 5 (some b) w w') (h : Arr w k t xs) (hk : k ≠ b) (ht : t ≠ 5) : w'.heap[k]? = w.heap[k]? := by
  unfold Arr at h
  rw [h]
  exact hO k _ h (fun e => hk (Option.some.inj e)) (fun c fz e => ht (by cases e; rfl))

theorem ext_others {V W : World} (h : Ext V W) : KeepsOthers V W := ⟨h.size, fun k _ hk _ => (h.block k (Array.getElem?_eq_some_iff.1 hk).1).trans hk⟩
theorem isBuilderF_ext {T e : TypeId} {B b : Nat} {bs : List Value} {w w' : World} (h : Lib.IsBuilderF T e B b bs w) (hE : Ext w w') : Lib.IsBuilderF T e B b bs w' := isBuilderF_kept h (ext_grown hE) (fun r e => by cases e)
theorem len_bldF (B b : Nat) (l : List UInt8) (c : Nat) (hc : l.length = c) (w : World) (h : Lib.IsBuilderF 101 5 B b (Lib.byteCells l) w) : Calls Tryz.prog 71 #[.pointer (some ⟨b, 0, none⟩)] w fun e w' => e = .returned (.int .i64 c) ∧ Ext w w' := by
  refine (Tryz.Builder_Len_f B b _ w h).mono ?_
  rintro e w' ⟨rfl, rfl⟩
  exact ⟨by rw [Lib.byteCells_length, hc], Ext.rfl' _⟩
/-- Between two rounds. -/
def TkI (w : World) (m : Nat) (k n : List UInt8) (pre : List B32) (W : World) : Prop :=
  32 * pre.length < m ∧ Ext w W ∧ Arr W w.heap.size 3 [.int .i64 m] ∧ CapB W (w.heap.size + 1 + 1) k n ∧ Lib.IsBuilderF 101 5 (w.heap.size + 1) (w.heap.size + 1) (Lib.byteCells (flatB pre)) W
/-- A round has left. -/
def TkX (w : World) (m : Nat) (c : Code) (pre : List B32) (W : World) : Prop :=
  c = .exit 0 ∧ m ≤ 32 * pre.length ∧ Ext w W ∧ Lib.IsBuilderF 101 5 (w.heap.size + 1) (w.heap.size + 1) (Lib.byteCells ((flatB pre).take m)) W

set_option maxRecDepth 100000 in
set_option maxHeartbeats 4000000 in
theorem take_any (k n : List UInt8) (z : Int) (w : World) (hT : Tab w) (hk : k.length ≤ 100000) (hn : n.length ≤ 100000) : Calls Tryz.prog 111 #[.string (ofL k), .string (ofL n), .int .i64 z] w fun e w' => e = .returned (.string (ofL (takeL k n (min z 65536).toNat))) ∧ Ext w w' := by
  by_cases h1 : z < 1
  · have hm : (min z 65536).toNat = 0 := by omega
    rw [hm]
    have hmz : min z 65536 = z := by omega
    go_enter Tryz.func111, Tryz.ntmps111
    go_wp2
    go_ret
    exact ⟨rfl, (Ext.rfl' w).al _⟩
  · obtain ⟨m, hm⟩ : ∃ m, (min z 65536).toNat = m := ⟨_, rfl⟩
    have hmz : min z 65536 = (m : Int) := by omega
    have hm1 : 1 ≤ m := by omega
    have hm2 : m ≤ 65536 := by omega
    rw [hm]
    clear hm
    refine (callsIn_wide (n := 3)).1 ?_
    refine callsIn_of_wp_marks Tryz.func111 rfl trivial ?_ rfl
    simp only [Tryz.ntmps111, List.size_toArray, List.length_cons, List.length_nil, Nat.reduceAdd, Nat.reduceSub, Array.replicate_succ, Array.replicate_zero, List.push_toArray, List.append_toArray, List.nil_append, List.cons_append]
    refine wpIn_wide.2 ?_
    have hdec : decide ((m : Int) < 1) = false := by simp; omega
    have A0 := (Arr.new w 3 [.int .i64 m]).alloc (.cells #[.pointer none, .slice none 0 0] 101)
    have hb0 := Lib.fresh_isBuilder 101 5 (w.alloc (.cells #[.int .i64 m] 3))
    have E0 := ((Ext.rfl' w).al (.cells #[.int .i64 m] 3)).al (.cells #[.pointer none, .slice none 0 0] 101)
    rw [World.size_alloc] at hb0
    go_wp2_with fail
    refine (blocks_any k n _).mono ?_
    rintro e w2 ⟨rfl, hcap, hsz2, E2⟩
    simp only [World.size_alloc] at hcap hsz2 ⊢
    have F2 := E0.tr E2
    have A2 : Arr w2 w.heap.size 3 [.int .i64 m] := A0.ext E2 A0.lt
    have b2 := Lib.IsBuilderF.of (isBuilder_ext hb0 E2)
    clear A0 hb0 E0 E2
    go_wp2
    have seq := blocks1_seq (3 - 1) (by omega) (w.heap.size + 1 + 1) w.heap.size m k n w2 (hT.ext F2) hT.1 (by omega) hcap hk hn (by omega)
    refine (wpIn_wide (n := 3)).1 ?_
    refine wpIn_range_D (F := Fence.wide) (n := 3) rfl (by omega) (gf := 154) (lb := #[.pointer (some ⟨w.heap.size + 1 + 1, 0, none⟩), .pointer (some ⟨w.heap.size + 1 + 1 + 1, 0, none⟩)]) rfl trivial (enters_of Tryz.func154 (by kernel_rfl) rfl)
      (encs := fun x : B32 => #[.string (ofL x.1)]) (C := fun _ => False) seq (fun r e => e.elim)
      (fun h1 h2 => ⟨h1.1.trans h2.1, h2.2.1.trans h1.2.1, h2.2.2.trans h1.2.2⟩)
      (fun W l o o' hl ho hc hw => ⟨belowK_b (w := w) (Nat.le_refl _) W l o o' (by omega) ho hc hw, World.putObj_heap_other (by omega), World.putObj_heap_other (by omega)⟩) (Below.refl _ _) (fun _ => rfl)
      (TkI w m k n) (fun pre W h => by have := h.1; omega) (TkX w m) ?hI ?hIx ⟨by simp; omega, F2, A2, hcap, b2⟩
      (fun x => { tmps := #[.string (ofL k), .string (ofL n), .int .i64 z, undef, undef, .pointer (some ⟨w.heap.size, 0, none⟩), .string ⟨#[]⟩, .pointer (some ⟨w.heap.size + 1, 0, none⟩), .string (ofL x.1), .int .i64 z, .int .i64 m, .int .i64 m, .bool false, .string (ofL k), .string (ofL n),
        .func (.func 154) #[] #[.pointer (some ⟨w.heap.size + 1 + 1, 0, none⟩), .pointer (some ⟨w.heap.size + 1 + 1 + 1, 0, none⟩)], .string (ofL x.1), undef, undef, undef, undef, undef, undef, undef, undef, undef, undef, undef, undef, undef], defers := [] }) ?assign ?body ?done ?stop
    case hI =>
      rintro pre X Y row ⟨h2, h3, h4, h5, h6⟩ hg hr
      have hr' : ∀ r, row = some r → w2.heap.size ≤ r ∧ ∃ o : Obj, X.heap[r]? = some o ∧ o.isCells = false := fun r e => (hr r e).resolve_left (fun h => h)
      exact ⟨h2, h3.grown hg h3.size (fun r e => by have := (hr' r e).1; omega), arr_kept h4 hg (fun r e => by have := (hr' r e).1; omega), ⟨arr_kept h5.1 hg (fun r e => by have := (hr' r e).1; omega), arr_kept h5.2 hg (fun r e => by have := (hr' r e).1; omega)⟩, isBuilderF_kept h6 hg (fun r e => (hr' r e).2)⟩
    case hIx =>
      rintro c pre X Y row ⟨h1, h2, h3, h6⟩ hg hr
      have hr' : ∀ r, row = some r → w2.heap.size ≤ r ∧ ∃ o : Obj, X.heap[r]? = some o ∧ o.isCells = false := fun r e => (hr r e).resolve_left (fun h => h)
      exact ⟨h1, h2, h3.grown hg h3.size (fun r e => by have := (hr' r e).1; omega), isBuilderF_kept h6 hg (fun r e => (hr' r e).2)⟩
    case assign =>
      intro l x W K hK
      gi_wp2
      exact hK
    case body =>
      rintro l' pre ⟨x, hx⟩ V ⟨h2, h3, h4, h5, h6⟩ hlen hsz
      dsimp only
      obtain ⟨L0, hL0⟩ : ∃ L0, 32 * pre.length = L0 := ⟨_, rfl⟩
      have hLm : L0 < m := by omega
      obtain ⟨r, hr⟩ : ∃ r, m = L0 + r := ⟨m - L0, by omega⟩
      obtain ⟨q, hq⟩ : ∃ q, min 32 r = q := ⟨_, rfl⟩
      obtain ⟨L1, hL1⟩ : ∃ L1, L0 + q = L1 := ⟨_, rfl⟩
      have hfl : (flatB pre).length = L0 := by rw [length_flatB, hL0]
      have hxs : (ofL x).size = 32 := by rw [size_ofL, hx]
      have hqi : min (32 : Int) ((m : Int) - L0) = q := by rw [show (m : Int) - L0 = (r : Int) by omega]; omega
      have hw1 : IntKind.i64.wrap ((m : Int) - L0) = (m : Int) - L0 := IntWalk.i64_in _ (by omega)
      have hex : (ofL x).extract 0 q = ofL (x.take q) := by rw [extract_to, toL_ofL]
      have hq32 : q ≤ 32 := by omega
      have hcont := Kp.mk (show flatB pre ++ x.take q = (flatB (pre ++ [⟨x, hx⟩])).take m by
        rw [flatB_snoc, List.take_append, hfl, List.take_of_length_le (show (flatB pre).length ≤ m by rw [hfl]; omega)]
        congr 1
        rcases Nat.le_total 32 r with h | h
        · rw [List.take_of_length_le (show x.length ≤ q by omega), List.take_of_length_le (show x.length ≤ m - L0 by omega)]
        · rw [show q = m - L0 by omega])
      have hlen1 := Kp.mk (show (flatB pre ++ x.take q).length = L1 by rw [List.length_append, List.length_take, hfl, hx]; omega)
      have HL0 := Kp.mk hL0; have HQ := Kp.mk hq; have HL1 := Kp.mk hL1; have HFL := Kp.mk hfl
      have hL01 : L1 ≤ 100000 := by omega
      have HR := Kp.mk hr
      clear hL0 hq hL1 hfl hr
      refine wpIn_block ?_
      refine wpIn_seq ?_
      refine wpIn_region_tails l' _ (by kernel_rfl) (fun i v W => match i with
        | 0 => v = .string (ofL x)
        | 1 => v = .string (ofL x)
        | 2 => v = .int .i64 32
        | 3 => v = .int .i64 m
        | 4 => v = .int .i64 L0
        | 5 => v = .int .i64 ((m : Int) - L0)
        | 6 => v = .int .i64 q
        | 7 => v = .string (ofL (x.take q))
        | _ => True) 8 (by kernel_rfl) (by kernel_rfl) (by kernel_rfl) (by decide) (by kernel_rfl) (by kernel_rfl) (by kernel_rfl) ?_ ?_ ?_
      · intro i v W1 W2 e1 e2 h
        match i, h with
        | 0, h => exact h
        | 1, h => exact h
        | 2, h => exact h
        | 3, h => exact h
        | 4, h => exact h
        | 5, h => exact h
        | 6, h => exact h
        | 7, h => exact h
        | (i + 8), h => exact h
      · refine localsR_cons (fun u W hW hd => leaves_val rfl (v := .string (ofL x)) (by go_simp) rfl) ?_
        refine localsR_cons (fun u W hW hd => leaves_val rfl (v := .string (ofL x)) (by go_simp) rfl) ?_
        refine localsR_cons (fun u W hW hd => ?_) ?_
        · have h1 : u 1 = _ := hd 1 (by kernel_rfl)
          exact leaves_val rfl (v := .int .i64 32) (by go_simp) rfl
        refine localsR_cons (fun u W hW hd => ?_) ?_
        · have hc := (h4.ext hW h4.lt).cell 0
          exact leaves_val rfl (v := .int .i64 m) (by go_simp) rfl
        refine localsR_cons (fun u W hW hd => ?_) ?_
        · exact leaves_call rfl (f := 71) (args := #[.pointer (some ⟨w.heap.size + 1, 0, none⟩)]) (by go_simp) ((len_bldF _ _ _ L0 HFL.out W (isBuilderF_ext h6 hW)).mono (by rintro e9 W9 ⟨rfl, h9⟩; exact ⟨_, rfl, h9, rfl⟩))
        refine localsR_cons (fun u W hW hd => ?_) ?_
        · have h3 : u 3 = _ := hd 3 (by kernel_rfl)
          have h4 : u 4 = _ := hd 4 (by kernel_rfl)
          exact leaves_val rfl (v := .int .i64 ((m : Int) - L0)) (by go_simp) rfl
        refine localsR_cons (fun u W hW hd => ?_) ?_
        · have h2 : u 2 = _ := hd 2 (by kernel_rfl)
          have h5 : u 5 = _ := hd 5 (by kernel_rfl)
          exact leaves_val rfl (v := .int .i64 q) (by go_simp) rfl
        refine localsR_cons (fun u W hW hd => ?_) localsR_nil
        · have h0 : u 0 = _ := hd 0 (by kernel_rfl)
          have h6 : u 6 = _ := hd 6 (by kernel_rfl)
          exact leaves_val rfl (v := .string (ofL (x.take q))) (by go_simp; omega) rfl
      · intro u W hW hV
        have h7 : u 7 = .string (ofL (x.take q)) := hV 7 (by decide)
        clear hV
        have B6 := isBuilderF_ext h6 hW
        have EW := h3.tr hW
        have A4 := h4.ext hW h4.lt
        have C5 := h5.ext hW
        have K0 := ext_others hW
        have hsW : w.heap.size + 1 ≤ W.heap.size := A4.lt
        have hWV := hW.size
        clear hw1 hqi hex
        go_simp
        gi_wp2_with fail
        refine ⟨trivial, (CallsIn.inRound l' (callsIn_wide.2 (bld_writeF _ _ _ (x.take q) W B6 (by rw [HFL.out, List.length_take]; omega) (by omega)))).mono ?_⟩
        rintro e w3 ⟨rfl, b3, hB3, hO3⟩
        have hcellsb := isBuilderF_cells B6
        have K3 := K0.trans (others_keep hO3 hcellsb hB3.size)
        have E3 : Ext w w3 := EW.trans ⟨hB3.os, hB3.tape, hB3.output, hB3.size, fun k hk => hB3.block k (by omega)⟩
        have A3 : Arr w3 w.heap.size 3 [.int .i64 m] := A4.ext hB3 (by omega)
        have k1 := others_at hO3 C5.1 (by omega) (by decide)
        have k2 := others_at hO3 C5.2 (by omega) (by decide)
        have C3 : CapB w3 (w.heap.size + 1 + 1) k n := ⟨k1.trans C5.1, k2.trans C5.2⟩
        have KB : KeepB w.heap.size (w.heap.size + 1 + 1) V w3 := ⟨(show Below w.heap.size V W from ⟨hW.os, hW.tape, hW.output, hW.size, fun k hk => hW.block k (by omega)⟩).trans ⟨hB3.os, hB3.tape, hB3.output, hB3.size, fun k hk => hB3.block k (by omega)⟩,
          k1.trans (hW.block _ h5.1.lt), k2.trans (hW.block _ h5.2.lt)⟩
        have hs3 := hB3.size
        clear B6 EW A4 C5 K0 hB3 hO3 k1 k2 hcellsb
        gi_wp2_with fail
        clear h3 h4 h5 h6
        have hs3' : w.heap.size + 1 ≤ w3.heap.size := by omega
        refine wpIn_region_tails l' _ (by kernel_rfl) (fun i v W => match i with
          | 0 => v = .int .i64 L1
          | 1 => v = .int .i64 m
          | _ => True) 2 (by kernel_rfl) (by kernel_rfl) (by kernel_rfl) (by decide) (by kernel_rfl) (by kernel_rfl) (by kernel_rfl) ?_ ?_ ?_
        · intro i v W1 W2 e1 e2 h
          match i, h with
          | 0, h => exact h
          | 1, h => exact h
          | (i + 2), h => exact h
        · refine localsR_cons (fun u W hW hd => ?_) ?_
          · exact leaves_call rfl (f := 71) (args := #[.pointer (some ⟨w.heap.size + 1, 0, none⟩)]) (by go_simp) ((len_bldF _ _ _ L1 hlen1.out W (isBuilderF_ext b3 hW)).mono (by rintro e9 W9 ⟨rfl, h9⟩; exact ⟨_, rfl, h9, rfl⟩))
          refine localsR_cons (fun u W hW hd => ?_) localsR_nil
          · have hc := (A3.ext hW A3.lt).cell 0
            exact leaves_val rfl (v := .int .i64 m) (by go_simp) rfl
        · intro u2 W2 hW2 hV2
          have g0 : u2 0 = .int .i64 L1 := hV2 0 (by decide)
          have g1 : u2 1 = .int .i64 m := hV2 1 (by decide)
          clear hV2
          have b4 := isBuilderF_ext b3 hW2
          have E4 := E3.tr hW2
          have A4 := A3.ext hW2 A3.lt
          have C4 := C3.ext hW2
          have K4 := (K3.trans (ext_others hW2)).from (w.heap.size + 1 + 1 + 2)
          have KB4 : KeepB w.heap.size (w.heap.size + 1 + 1) V W2 := ⟨KB.1.trans ⟨hW2.os, hW2.tape, hW2.output, hW2.size, fun k hk => hW2.block k (by omega)⟩, (hW2.block _ C3.1.lt).trans KB.2.1, (hW2.block _ C3.2.lt).trans KB.2.2⟩
          rw [hcont.out] at b4
          clear b3 E3 A3 C3 K3 KB
          by_cases hfull : m ≤ L1
          · have hd : decide ((m : Int) ≤ (L1 : Int)) = true := by simp; omega
            have hfin := Kp.mk (show m ≤ 32 * (pre ++ [⟨x, hx⟩] : List B32).length by
              rw [List.length_append, List.length_singleton]
              have h1 := HL0.out; have h2 := HQ.out; have h3 := HL1.out
              omega)
            clear hd
            go_simp
            gi_wp2
            all_goals first | (exfalso; omega) | exact ⟨K4, rfl, hfin.out, E4, b4⟩
          · have hd : decide ((m : Int) ≤ (L1 : Int)) = false := by simp; omega
            have hfin := Kp.mk (show 32 * (pre ++ [⟨x, hx⟩] : List B32).length < m ∧ (flatB (pre ++ [⟨x, hx⟩])).take m = flatB (pre ++ [⟨x, hx⟩]) by
              have h1 := HL0.out; have h2 := HQ.out; have h3 := HL1.out; have h4 := HR.out
              have h5 : 32 * (pre ++ [⟨x, hx⟩] : List B32).length < m := by rw [List.length_append, List.length_singleton]; omega
              exact ⟨h5, List.take_of_length_le (by rw [length_flatB]; omega)⟩)
            rw [hfin.out.2] at b4
            clear hd
            go_simp
            gi_wp2
            all_goals first | (exfalso; omega) | exact ⟨K4, KB4, hfin.out.1, E4, A4, C4, b4⟩
    case done =>
      rintro D xs V hD h
      exact h.elim
    case stop =>
      rintro D c pre V hD hpre ⟨rfl, h2, h3, h6⟩ hK
      have hfl := Kp.mk (show (flatB pre).take m = takeL k n m by rw [hpre, flat_blocks]; exact streamC_takeL k n _ m h2)
      refine wpIn_wide.2 ?_
      have hszV : w.heap.size + 1 < V.heap.size := by
        obtain ⟨cs, hcs⟩ := isBuilderF_cells h6
        exact (Array.getElem?_eq_some_iff.1 hcs).1
      go_wp2_with fail
      refine (Tryz.Builder_String_any_k _ _ _ V h6 (by omega)).mono ?_
      rintro e w3 ⟨rfl, _, hB, hO⟩
      have hK3 : w3.heap[D]? = some (.deferred (some [])) := hO D _ hK (fun e' => by cases e'; omega) (fun c fz e' => by cases e')
      have F3 : Ext w w3 := h3.trans ⟨hB.os, hB.tape, hB.output, hB.size, fun k hk => hB.block k (by omega)⟩
      rw [hfl.out]
      go_wp2
      refine ⟨by simp, .inl ⟨_, _, rfl, run_takeDeferred hK3, ?_⟩⟩
      exact ⟨.string (ofL (takeL k n m)), by simp [results, Tryz.f111, go_sem, ofL], rfl, F3.grown (grownBy_putObj' _ D _) F3.size (fun r e => by cases e; omega)⟩
end Go.Proofs.YtejhiekikblbiaaGreatDoor

namespace Go.Proofs.YtejhiekikblbiaaGreatDoor
open Go.RowKit

set_option maxHeartbeats 1000000 in
theorem rtake_nat (k n : List UInt8) (m : Nat) (w : World) (hm1 : 1 ≤ m) (hm2 : m ≤ 65536) (hk : k.length ≤ 100000) (hn : n.length ≤ 100000) : Calls Tryz.prog 118 #[.string (ofL k), .string (ofL n), .int .i64 m] w fun e w' => e = .returned (.string (ofL (takeL k n m))) ∧ Ext w w' := by
  have hd : decide ((65536 : Int) < (m : Int)) = false := by simp; omega
  have hd2 : decide ((m : Int) < 1) = false := by simp; omega
  go_enter Tryz.func118, Tryz.ntmps118
  go_wp2
  go_loopw [8, 7] (fun i o wr => ∃ c : Nat, i = .int .i64 c ∧ c ≤ m ∧ o = .string (ofL (streamC k n c)) ∧ Ext w wr) (fun i _ _ => m - (intOf i).toNat)
  case atStart => exact ⟨0, rfl, by omega, rfl, Ext.rfl' _⟩
  case round =>
    obtain ⟨c, rfl, hcm, rfl, hE⟩ := hrel
    obtain ⟨O, hO⟩ : ∃ O, streamC k n c = O := ⟨_, rfl⟩
    have lO : O.length = 32 * c := by rw [← hO, length_streamC]
    have hsz : (ofL O).size = 32 * c := by rw [size_ofL, lO]
    rw [hO]
    by_cases hlt : 32 * c < m
    · have cB := Kp.mk (rstblock_any k n c wr hk hn (by omega))
      obtain ⟨X, hX⟩ : ∃ X, blockL k n c = X := ⟨_, rfl⟩
      have hap := Kp.mk (show ofL O ++ ofL X = ofL (streamC k n (c + 1)) by rw [ofL_append, streamC, hO, hX])
      have hszX : (ofL X).size = 32 := by rw [size_ofL, ← hX, length_blockL]
      rw [hX] at cB
      have hdl : decide (((32 * c : Nat) : Int) < (m : Int)) = true := by simp; omega
      clear hX hO lO
      go_wp2_with fail
      refine cB.out.mono ?_
      rintro e w3 ⟨rfl, E3⟩
      go_wp2
      go_roundw
      case rel => exact ⟨c + 1, by go_num, by omega, by rw [← hap.out], hE.tr E3⟩
      case measure => simp [intOf]; omega
    · have hfin := Kp.mk (show (ofL O).extract 0 m = ofL (takeL k n m) by rw [extract_to, toL_ofL, ← hO, streamC_takeL k n c m (by omega)])
      have hdl : decide (((32 * c : Nat) : Int) < (m : Int)) = false := by simp; omega
      have hle : m ≤ 32 * c := by omega
      have hx := hfin.out
      clear hO lO hfin
      go_wp2
      go_ret
      exact ⟨rfl, hE⟩

theorem rtake_low (k n : ByteArray) (z : Int) (w : World) (hz : z < 1) : Calls Tryz.prog 118 #[.string k, .string n, .int .i64 z] w fun e w' => e = .returned (.string ⟨#[]⟩) ∧ Ext w w' := by
  have hd : decide ((65536 : Int) < z) = false := by simp; omega
  have hd2 : decide (z < 1) = true := by simp; omega
  have hd3 : decide ((0 : Int) < z) = false := by simp; omega
  go_enter Tryz.func118, Tryz.ntmps118
  go_wp2
  go_loopw [8, 7] (fun i o wr => i = .int .i64 0 ∧ o = .string ⟨#[]⟩ ∧ Ext w wr) (fun _ _ _ => 0)
  case atStart => exact ⟨rfl, rfl, Ext.rfl' _⟩
  case round =>
    obtain ⟨rfl, rfl, hE⟩ := hrel
    go_wp2
    go_ret
    exact ⟨rfl, hE⟩
theorem take_nat (k n : List UInt8) (m : Nat) (w : World) (hT : Tab w) (hk : k.length ≤ 100000) (hn : n.length ≤ 100000) (hm : m ≤ 65536) : Calls Tryz.prog 111 #[.string (ofL k), .string (ofL n), .int .i64 m] w fun e w' => e = .returned (.string (ofL (takeL k n m))) ∧ Ext w w' := by
  have h := take_any k n (m : Int) w hT hk hn
  rw [show (min (m : Int) 65536).toNat = m by omega] at h
  exact h
theorem rtake_any (k n : List UInt8) (m : Nat) (w : World) (hk : k.length ≤ 100000) (hn : n.length ≤ 100000) (hm : m ≤ 65536) : Calls Tryz.prog 118 #[.string (ofL k), .string (ofL n), .int .i64 m] w fun e w' => e = .returned (.string (ofL (takeL k n m))) ∧ Ext w w' := by
  by_cases h0 : m = 0
  · subst h0
    exact rtake_low (ofL k) (ofL n) 0 w (by omega)
  · exact rtake_nat k n m w (by omega) hm hk hn

theorem mix_any (k n t : List UInt8) (w : World) (hT : Tab w) (hk : k.length ≤ 100000) (hn : n.length ≤ 100000) (ht : t.length ≤ 65536) : Calls Tryz.prog 75 #[.string (ofL k), .string (ofL n), .string (ofL t)] w fun e w' => e = .returned (.string (ofL (smixL k n t))) ∧ Ext w w' := by
  have hsz : (ofL t).size = t.length := size_ofL _
  have cT := Kp.mk (take_nat k n t.length w hT hk hn ht)
  obtain ⟨S, hS⟩ : ∃ S, takeL k n t.length = S := ⟨_, rfl⟩
  have lS : S.length ≤ 1000000 := by rw [← hS, length_takeL]; omega
  have cX := Kp.mk (fun W => xork t S W (by omega) lS)
  rw [show smixL k n t = xorL t S by unfold smixL; rw [hS]]
  rw [hS] at cT
  obtain ⟨M, hM⟩ : ∃ M, xorL t S = M := ⟨_, rfl⟩
  rw [hM] at cX ⊢
  have hd : decide ((65536 : Int) < (t.length : Int)) = false := by simp; omega
  clear hS hM lS
  go_enter Tryz.func75, Tryz.ntmps75
  go_wp2_with fail
  refine cT.out.mono ?_
  rintro e w1 ⟨rfl, E1⟩
  go_wp2_with fail
  refine (cX.out _).mono ?_
  rintro e w2 ⟨rfl, E2⟩
  go_wp2
  go_ret
  exact ⟨rfl, E1.tr E2⟩
theorem rmix_any (k n t : List UInt8) (w : World) (hk : k.length ≤ 100000) (hn : n.length ≤ 100000) (ht : t.length ≤ 65536) : Calls Tryz.prog 78 #[.string (ofL k), .string (ofL n), .string (ofL t)] w fun e w' => e = .returned (.string (ofL (smixL k n t))) ∧ Ext w w' := by
  have hsz : (ofL t).size = t.length := size_ofL _
  have cT := Kp.mk (rtake_any k n t.length w hk hn ht)
  obtain ⟨S, hS⟩ : ∃ S, takeL k n t.length = S := ⟨_, rfl⟩
  have lS : S.length ≤ 1000000 := by rw [← hS, length_takeL]; omega
  have cX := Kp.mk (fun W => rxork t S W (by omega) lS)
  rw [show smixL k n t = xorL t S by unfold smixL; rw [hS]]
  rw [hS] at cT
  obtain ⟨M, hM⟩ : ∃ M, xorL t S = M := ⟨_, rfl⟩
  rw [hM] at cX ⊢
  have hd : decide ((65536 : Int) < (t.length : Int)) = false := by simp; omega
  clear hS hM lS
  go_enter Tryz.func78, Tryz.ntmps78
  go_wp2_with fail
  refine cT.out.mono ?_
  rintro e w1 ⟨rfl, E1⟩
  go_wp2_with fail
  refine (cX.out _).mono ?_
  rintro e w2 ⟨rfl, E2⟩
  go_wp2
  go_ret
  exact ⟨rfl, E1.tr E2⟩
end Go.Proofs.YtejhiekikblbiaaGreatDoor

namespace Go
open Go.Proofs.YtejhiekikblbiaaGreatDoor

/-- A relation that a region's operations keep to. -/
structure StepsRel (R : World → World → Prop) : Prop where
  refl : ∀ w, R w w
  trans : ∀ {a b c}, R a b → R b c → R a c
  drew : ∀ w, R w w.drew
section
variable {P : Program} {ops : Array Oper} {md : Region.Mode} {w0 : World} {V : Nat → Value → World → Prop} {a0 : Act} {R : World → World → Prop}

/-- From world w, frame a: operation o leaves a value of which V holds, and adds to the world alone. -/
def OpLeavesG (P : Program) (R : World → World → Prop) (ops : Array Oper) (V : Value → World → Prop) (o : Oper) (a : Act) (w : World) : Prop :=
  (Region.wanted o (yielded ops a.tmps) = true ∧
    ((∃ v w', (execOp a.eval o).run P w = .ok (.value v) w' ∧ R w w' ∧ V v w') ∨
     (∃ w', (execOp a.eval o).run P w = .ok .skip w' ∧ R w w' ∧ V undef w') ∨
     (∃ f args w', (execOp a.eval o).run P w = .ok (.enter f args) w' ∧ Calls P f args w' fun e w'' => ∃ v, e = .returned v ∧ R w w'' ∧ V v w''))) ∨
  (Region.wanted o (yielded ops a.tmps) = false ∧ V undef w)

theorem OpLeavesG.wpOp (hR : StepsRel R) {i : Nat} {o : Oper} {a : Act} {Vi : Value → World → Prop} {Q : Exit → Act → World → Prop} (hi : ops[i]? = some o) {w : World} (hy : OpLeavesG P R ops Vi o a w)
    {K : Act → World → Prop} (h : ∀ v w', R w w' → Vi v w' → K (a.put o.dst v) w') : wpOp P ops Q i K a w := by
  unfold Go.wpOp
  simp only [hi]
  rcases hy with ⟨hw, hv⟩ | ⟨hw, hv⟩
  · simp only [hw, if_true]
    left
    unfold Oper.wp
    rcases hv with ⟨v, w', hr, hE, hv⟩ | ⟨w', hr, hE, hv⟩ | ⟨f, args, w', hr, hc⟩
    · rw [hr]; exact h v w' hE hv
    · rw [hr]; exact h _ w' hE hv
    · rw [hr, Oper.upon_enter]
      refine hc.mono fun e w'' he => ?_
      obtain ⟨v, rfl, hE, hv⟩ := he
      exact h v w'' hE hv
  · simp only [hw, Bool.false_eq_true, if_false]; exact h _ w (hR.refl w) hv

/-- What is to be shown of operation i. -/
def LocalG (P : Program) (R : World → World → Prop) (ops : Array Oper) (w0 : World) (V : Nat → Value → World → Prop) (a0 : Act) (i : Nat) (o : Oper) : Prop :=
  ∀ (u : Nat → Value) (w : World), R w0 w → (∀ k, (o.after.any fun e => Region.binds .any e && e.on == k) = true → V k (u k) w) → OpLeavesG P R ops (V i) o (fillOps ops.toList u 0 a0) w
def LocalsG (P : Program) (R : World → World → Prop) (ops : Array Oper) (w0 : World) (V : Nat → Value → World → Prop) (a0 : Act) : List Oper → Nat → Prop
  | [], _ => True
  | o :: r, i => LocalG P R ops w0 V a0 i o ∧ LocalsG P R ops w0 V a0 r (i + 1)
theorem localsG_nil {i} : LocalsG P R ops w0 V a0 [] i := trivial
theorem localsG_cons {o : Oper} {r : List Oper} {i : Nat} (h : LocalG P R ops w0 V a0 i o) (hr : LocalsG P R ops w0 V a0 r (i + 1)) : LocalsG P R ops w0 V a0 (o :: r) i := ⟨h, hr⟩
theorem localsG_at : ∀ (r : List Oper) (k i : Nat) (o : Oper), LocalsG P R ops w0 V a0 r k → r[i]? = some o → LocalG P R ops w0 V a0 (k + i) o
  | [], _, _, _, _, h => by cases h
  | o' :: r, k, 0, o, hl, h => by obtain rfl : o' = o := by simpa using h
                                  exact hl.1
  | o' :: r, k, i + 1, o, hl, h => by
    rw [show k + (i + 1) = k + 1 + i by omega]
    exact localsG_at r (k + 1) i o hl.2 (by simpa using h)
theorem wpAny_rel (hR : StepsRel R) {Q : Exit → Act → World → Prop} (hd : dstsOk (ops.toList.map (·.dst)) = true) (ha : aftersOk ops.toList 0 = true)
    (hst : ∀ k v w w', R w0 w → R w w' → V k v w → V k v w') (hl : LocalsG P R ops w0 V a0 ops.toList 0)
    (hE : ∀ u w, R w0 w → (∀ k, k < ops.size → V k (u k) w) → Q .normal (fillOps ops.toList u 0 a0) w) :
    ∀ (fuel : Nat) (listed : Array Bool) (u : Nat → Value) (w : World), listed.size = ops.size → listed.toList.count true + fuel = ops.size → R w0 w →
      (∀ k, listed.getD k false = true → V k (u k) w) → wpAny P .any ops Q fuel listed (fillOps ops.toList u 0 a0) w := by
  intro fuel
  induction fuel with
  | zero =>
    intro listed u w hsz hc hw hV
    have hall : ∀ k, k < ops.size → listed.getD k false = true := by
      intro k hk
      have h1 : ∀ b ∈ listed.toList, true = b := List.count_eq_length.1 (by simpa [hsz] using hc)
      have hk' : k < listed.size := by omega
      rw [Array.getD_eq_getD_getElem?, Array.getElem?_eq_getElem hk']
      exact (h1 _ (by simp)).symm
    refine ⟨?_, hE u w hw fun k hk => hV k (hall k hk)⟩
    rw [List.eq_nil_iff_forall_not_mem]
    intro j hj
    obtain ⟨h0, o, ho, _⟩ := mem_ready.1 hj
    have hj' : j < ops.size := (Array.getElem?_eq_some_iff.1 ho).1
    have := hall j hj'
    have hk' : j < listed.size := by omega
    rw [Array.getD_eq_getD_getElem?, Array.getElem?_eq_getElem hk'] at this h0
    simp at this h0
    rw [this] at h0; cases h0
  | succ fuel ih =>
    intro listed u w hsz hc hw hV
    refine ⟨fun hr => hE u w hw fun k hk => ?_, fun i hi => ?_⟩
    · -- nothing is ready: all is listed
      refine hV k ?_
      have : ∀ k, k < ops.size → listed.getD k false = true := by
        intro k
        induction k using Nat.strongRecOn with
        | ind k ihk =>
          intro hk
          cases hb : listed.getD k false with
          | true => rfl
          | false =>
            exfalso
            have hk' : k < listed.size := by omega
            have hmem : k ∈ Region.ready .any ops listed := by
              rw [mem_ready]
              refine ⟨?_, ops[k], Array.getElem?_eq_getElem hk, fun e he _ => ?_⟩
              · rw [Array.getD_eq_getD_getElem?, Array.getElem?_eq_getElem hk'] at hb ⊢
                simpa using hb
              · have := afters_at ops.toList 0 k ops[k] ha (by simp [hk]) e he
                exact ihk e.on (by omega) (by omega)
            rw [hr] at hmem
            cases hmem
      exact this k hk
    · obtain ⟨h0, o, ho, hall⟩ := mem_ready.1 hi
      have hi' : i < ops.size := (Array.getElem?_eq_some_iff.1 ho).1
      have hk' : i < listed.size := by omega
      have ho' : ops.toList[i]? = some o := by rw [Array.getElem?_toList]; exact ho
      have hL := localsG_at ops.toList 0 i o hl ho'
      rw [Nat.zero_add] at hL
      have hs := hL u w hw (fun k hk => by
        rw [Array.any_eq_true] at hk
        obtain ⟨q, hq, he⟩ := hk
        rw [Bool.and_eq_true] at he
        have := hall _ (Array.getElem_mem hq) he.1
        rw [beq_iff_eq.1 he.2] at this
        exact hV k this)
      refine hs.wpOp hR ho fun v w' hE' hv => ?_
      rw [fill_upd u v ops.toList 0 i a0 o hd ho', Nat.zero_add]
      refine ih (listed.setIfInBounds i true) (upd u i v) w' (by simpa using hsz) ?_ (hR.trans hw hE') fun k hk => ?_
      · have hf : listed.toList[i]? = some false := by
          rw [Array.getD_eq_getD_getElem?, Array.getElem?_eq_getElem hk'] at h0
          rw [Array.getElem?_toList, Array.getElem?_eq_getElem hk']
          simpa using h0
        have := count_set listed.toList i hf
        rw [Array.toList_setIfInBounds, this]
        omega
      · by_cases hki : k = i
        · subst hki; rw [upd_same]; exact hv
        · rw [upd_ne hki]
          refine hst k _ w w' hw hE' (hV k ?_)
          rw [Array.getD_eq_getD_getElem?, Array.getElem?_setIfInBounds_ne (Ne.symm hki)] at hk
          rw [Array.getD_eq_getD_getElem?]
          exact hk

theorem rel_val (hR : StepsRel R) {o : Oper} {a : Act} {w : World} {Vi : Value → World → Prop} {v : Value} (hw : Region.wanted o (yielded ops a.tmps) = true) (h : (execOp a.eval o).run P w = .ok (.value v) w) (hv : Vi v w) : OpLeavesG P R ops Vi o a w :=
  .inl ⟨hw, .inl ⟨v, w, h, hR.refl w, hv⟩⟩
theorem rel_new {o : Oper} {a : Act} {w w' : World} {Vi : Value → World → Prop} {v : Value} (hw : Region.wanted o (yielded ops a.tmps) = true) (h : (execOp a.eval o).run P w = .ok (.value v) w') (hE : R w w') (hv : Vi v w') : OpLeavesG P R ops Vi o a w :=
  .inl ⟨hw, .inl ⟨v, w', h, hE, hv⟩⟩
theorem rel_skip {o : Oper} {a : Act} {w w' : World} {Vi : Value → World → Prop} (hw : Region.wanted o (yielded ops a.tmps) = true) (h : (execOp a.eval o).run P w = .ok .skip w') (hE : R w w') (hv : Vi undef w') : OpLeavesG P R ops Vi o a w :=
  .inl ⟨hw, .inr (.inl ⟨w', h, hE, hv⟩)⟩
theorem rel_call {o : Oper} {a : Act} {w : World} {Vi : Value → World → Prop} {f : FuncId} {args : Array Value} (hw : Region.wanted o (yielded ops a.tmps) = true) (h : (execOp a.eval o).run P w = .ok (.enter f args) w)
    (hc : Calls P f args w fun e w'' => ∃ v, e = .returned v ∧ R w w'' ∧ Vi v w'') : OpLeavesG P R ops Vi o a w :=
  .inl ⟨hw, .inr (.inr ⟨f, args, w, h, hc⟩)⟩
/-- The whole region. -/
theorem wp_region_rel (hR : StepsRel R) {Q : Exit → Act → World → Prop} {id : Nat} {w : World} (V : Nat → Value → World → Prop) (hm : P.follows .mixedOrders = true)
    (hd : dstsOk (ops.toList.map (·.dst)) = true) (ha : aftersOk ops.toList 0 = true)
    (hst : ∀ k v w1 w2, R w w1 → R w1 w2 → V k v w1 → V k v w2) (hl : LocalsG P R ops w V a0 ops.toList 0)
    (hE : ∀ u w', R w w' → (∀ k, k < ops.size → V k (u k) w') → Q .normal (fillOps ops.toList u 0 a0) w') : (Code.region id ops true).wp P Q a0 w := by
  have h0 : fillOps ops.toList (fun k => ((ops.toList[k]?).bind fun o => o.dst.bind fun d => a0.tmps[d]?).getD undef) 0 a0 = a0 := by
    refine fill_id _ ops.toList 0 a0 fun j o ho => ?_
    simp only [Nat.zero_add, ho, Option.bind_some]
    cases hq : o.dst with
    | none => rfl
    | some d =>
      simp only [Act.put, Option.bind_some]
      by_cases hlt : d < a0.tmps.size
      · rw [Array.getElem?_eq_getElem hlt]
        simp [Array.setIfInBounds, hlt]
      · simp [Array.setIfInBounds, hlt]
  refine wp_region_any hm ?_
  rw [← h0]
  refine wpAny_rel hR (w0 := w) hd ha hst hl hE ops.size _ _ _ (by simp) (by simp [List.count_replicate]) (hR.drew w) fun k hk => ?_
  exfalso
  rw [Array.getD_eq_getD_getElem?, Array.getElem?_replicate] at hk
  split at hk <;> simp at hk
end
end Go
namespace Go.Proofs.YtejhiekikblbiaaGreatDoor
open Go Go.RowKit

/-- Block b is a variable that holds v. -/
def Has (b : Nat) (v : Value) (W : World) : Prop := W.cell? ⟨b, 0, none⟩ = some v ∧ W.frozen? ⟨b, 0, none⟩ = false
theorem Has.lt {b : Nat} {v : Value} {W : World} (h : Has b v W) : b < W.heap.size := World.block_lt_of_cell? _ _ h.1
theorem Has.ext {b : Nat} {v : Value} {W W' : World} (h : Has b v W) (hE : Ext W W') : Has b v W' :=
  ⟨((bcell hE).1 b 0 h.lt).trans h.1, ((bcell hE).2 b 0 h.lt).trans h.2⟩
theorem Has.set {b : Nat} {v : Value} {W : World} (h : Has b v W) (u : Value) : Has b u (W.setCell ⟨b, 0, none⟩ u) :=
  ⟨cell_set_same h.1 u, by have := h.2; simpa [go_sem] using this⟩
theorem Has.setNe {b c : Nat} {v : Value} {W : World} (h : Has b v W) (hne : b ≠ c) (u : Value) : Has b v (W.setCell ⟨c, 0, none⟩ u) :=
  ⟨(World.cell?_of_block (a := ⟨b, 0, none⟩) (Below.heap_setCell W ⟨c, 0, none⟩ u b hne)).trans h.1, (World.frozen?_of_block (a := ⟨b, 0, none⟩) (Below.heap_setCell W ⟨c, 0, none⟩ u b hne)).trans h.2⟩
/-- From w to w': what lies ahead of block g stands, what lies from block h on stands, and what each of Ks says stands. -/
structure Moves (g h : Nat) (Ks : List (World → Prop)) (w w' : World) : Prop where
  below : Below g w w'
  above : ∀ j, h ≤ j → j < w.heap.size → w'.heap[j]? = w.heap[j]?
  keeps : ∀ K ∈ Ks, K w → K w'
theorem Moves.size {g h : Nat} {Ks : List (World → Prop)} {w w' : World} (m : Moves g h Ks w w') : w.heap.size ≤ w'.heap.size := m.below.size
theorem moves_steps (g h : Nat) (Ks : List (World → Prop)) (hK : ∀ K ∈ Ks, ∀ w, K w → K w.drew) : StepsRel (Moves g h Ks) where
  refl _ := ⟨Below.refl _ _, fun _ _ _ => rfl, fun _ _ h => h⟩
  trans a b := ⟨a.below.trans b.below, fun j hj hl => (b.above j hj (Nat.lt_of_lt_of_le hl a.below.size)).trans (a.above j hj hl), fun K hK hk => b.keeps K hK (a.keeps K hK hk)⟩
  drew w := ⟨(Below.refl _ _).drew, fun _ _ _ => rfl, fun K hm hk => hK K hm w hk⟩
theorem moves_ext {g h : Nat} {Ks : List (World → Prop)} {w w' : World} (hg : g ≤ w.heap.size) (hE : Ext w w') (hK : ∀ K ∈ Ks, K w → K w') : Moves g h Ks w w' :=
  ⟨hE.mono hg, fun j _ hl => hE.block j hl, hK⟩
theorem moves_set {g h b : Nat} {Ks : List (World → Prop)} {w : World} (hg : g ≤ b) (hb : b < h) (u : Value) (hK : ∀ K ∈ Ks, K w → K (w.setCell ⟨b, 0, none⟩ u)) : Moves g h Ks w (w.setCell ⟨b, 0, none⟩ u) :=
  ⟨(Below.refl _ _).setCell (p := ⟨b, 0, none⟩) hg u, fun j hj _ => Below.heap_setCell w ⟨b, 0, none⟩ u j (by show j ≠ b; omega), hK⟩
theorem Moves.cell {g h : Nat} {Ks : List (World → Prop)} {w w' : World} (m : Moves g h Ks w w') {b : Nat} {v : Value} (hb : h ≤ b) (hc : w.cell? ⟨b, 0, none⟩ = some v) : w'.cell? ⟨b, 0, none⟩ = some v :=
  (World.cell?_of_block (a := ⟨b, 0, none⟩) (m.above b hb (World.block_lt_of_cell? _ _ hc))).trans hc
theorem rd_one {W : World} {b : Nat} {u : Value} (hc : W.cell? ⟨b, 0, none⟩ = some u) : Rd W W.heap.size 1 (.slice (some ⟨b, 0, none⟩) 1 1) 1 [u] :=
  ⟨_, 1, rfl, by decide, by simp, fun _ => ⟨b, 0, rfl, World.block_lt_of_cell? _ _ hc, fun j u' hj => by
    cases j with
    | zero => obtain rfl : u = u' := by simpa using hj
              exact hc
    | succ j => simp at hj⟩⟩
end Go.Proofs.YtejhiekikblbiaaGreatDoor
