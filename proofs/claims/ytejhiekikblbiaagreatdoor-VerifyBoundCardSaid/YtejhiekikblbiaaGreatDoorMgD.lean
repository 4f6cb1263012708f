/-
  Package hmac in plain words over lists: eight bytes of a number, frames, their parts, a tag. No program in sight. · strings.Builder's WriteString and copyCheck laid by hand: the tool that lays the shelf's contracts leaves them out here, because the text of copyCheck names fewer types than the structure asks for. No condition. · Package hmac: eight bytes of a number, in the program and in the reference. Condition: at most 100000000. · Package hmac: the frame of parts, in the program and in the reference. Condition: the frame is at most 1000000 bytes long. · A range over a function whose iterator turns cells of its own between two rounds (a captured variable): the iterator's promise names the blocks that it may turn, the caller's invariant abides such turns. No condition. · Package hmac: the parts of a frame, by an iterator that turns a captured variable. Condition: at most 1000000 bytes. · Package hmac: Split returns the parts of a frame, nil and false where there are none. Condition: at most 1000000 bytes.
-/
import Derived.Test.YtejhiekikblbiaaGreatDoorMgA
import Derived.Test.YtejhiekikblbiaaGreatDoorShelf
import Derived.Test.YtejhiekikblbiaaGreatDoorMgB
import Derived.Test.YtejhiekikblbiaaGreatDoorMgC
import Derived.RangeFuncNested
import Derived.RangeFuncBound
import Derived.RangeFuncCalls
import Derived.RangeFuncLeaves
import Derived.Shelf.Abstract
import Derived.Shelf.RegionOpen
import Derived.WalkKit
import Derived.OwnWalkIn
import Derived.TacticsInMore
import Derived.LoopNIn
import Derived.LoopIn
import Derived.Maps.AppendAt
namespace Go.Proofs.YtejhiekikblbiaaGreatDoor
open Go.RowKit

/-! ### eight bytes of a number -/
/-- The last k bytes of a number, the highest first. -/
def beK (n : Nat) : Nat → List UInt8
  | 0 => []
  | k + 1 => (n / 256 ^ k % 256).toUInt8 :: beK n k
theorem length_beK (n : Nat) : ∀ k, (beK n k).length = k
  | 0 => rfl
  | k + 1 => by rw [beK, List.length_cons, length_beK n k]
theorem be8_beK (n : Nat) : be8 n = beK n 8 := by simp [be8, beK]
theorem length_be8 (n : Nat) : (be8 n).length = 8 := rfl
/-- What digits say. -/
def beN (l : List UInt8) : Nat := l.foldl (fun n b => n * 256 + b.toNat) 0
theorem beN_snoc (l : List UInt8) (b : UInt8) : beN (l ++ [b]) = beN l * 256 + b.toNat := by simp [beN]
theorem foldl_be (l : List UInt8) : ∀ n : Nat, l.foldl (fun n b => n * 256 + b.toNat) n = n * 256 ^ l.length + beN l := by
  induction l with
  | nil => intro n; simp [beN]
  | cons b l ih =>
    intro n
    unfold beN
    rw [List.foldl_cons, List.foldl_cons, ih, ih, List.length_cons, Nat.pow_succ, Nat.add_mul, Nat.add_assoc, Nat.mul_assoc, Nat.mul_comm 256, Nat.zero_mul, Nat.zero_add]
theorem beN_cons (b : UInt8) (l : List UInt8) : beN (b :: l) = b.toNat * 256 ^ l.length + beN l := by
  have := foldl_be l (0 * 256 + b.toNat)
  unfold beN at this ⊢
  rw [List.foldl_cons, this]
  simp
theorem beN_lt (l : List UInt8) : beN l < 256 ^ l.length := by
  induction l with
  | nil => simp [beN]
  | cons b l ih =>
    have hb := b.toNat_lt
    have h : b.toNat * 256 ^ l.length ≤ 255 * 256 ^ l.length := Nat.mul_le_mul_right _ (by omega)
    rw [beN_cons, List.length_cons, Nat.pow_succ]
    omega
theorem beN_beK (n : Nat) : ∀ k, beN (beK n k) = n % 256 ^ k
  | 0 => by simp [beK, beN, Nat.mod_one]
  | k + 1 => by
    rw [beK, beN_cons, length_beK, beN_beK n k, Nat.pow_succ, Nat.mod_mul]
    simp only [UInt8.toNat_ofNat', Nat.toUInt8_eq]
    rw [Nat.mod_mod, Nat.mul_comm, Nat.add_comm]
theorem beN_be8 (n : Nat) (h : n < 18446744073709551616) : beN (be8 n) = n := by
  rw [be8_beK, beN_beK]
  exact Nat.mod_eq_of_lt h
theorem beK_beN : ∀ l : List UInt8, beK (beN l) l.length = l := by
  have key : ∀ (l : List UInt8) (m : Nat), beK (m * 256 ^ l.length + beN l) l.length = l := by
    intro l
    induction l with
    | nil => intro m; rfl
    | cons b l ih =>
      intro m
      have hlt := beN_lt l
      have hb := b.toNat_lt
      have e : m * 256 ^ (b :: l).length + beN (b :: l) = (m * 256 + b.toNat) * 256 ^ l.length + beN l := by
        rw [beN_cons, List.length_cons, Nat.pow_succ, Nat.add_mul, Nat.mul_assoc, Nat.mul_comm 256, Nat.add_assoc]
      rw [e, List.length_cons, beK, ih]
      congr 1
      rw [Nat.mul_comm, Nat.mul_add_div (Nat.pow_pos (by decide)), Nat.div_eq_of_lt hlt, Nat.add_zero]
      apply UInt8.toNat_inj.1
      simp
  intro l
  have := key l 0
  simpa using this
theorem be8_beN (l : List UInt8) (h : l.length = 8) : be8 (beN l) = l := by
  rw [be8_beK, ← h]
  exact beK_beN l

/-! ### frames -/
def frameL : List (List UInt8) → List UInt8
  | [] => []
  | p :: l => be8 p.length ++ (p ++ frameL l)
theorem frameL_append (a b : List (List UInt8)) : frameL (a ++ b) = frameL a ++ frameL b := by
  induction a with
  | nil => rfl
  | cons p a ih => simp only [List.cons_append, frameL, ih, List.append_assoc]
theorem frameL_snoc (a : List (List UInt8)) (p : List UInt8) : frameL (a ++ [p]) = frameL a ++ (be8 p.length ++ p) := by
  rw [frameL_append]; simp [frameL]

/-- What the iterator gives: the parts, one by one; false: here it is none. -/
def itemsF : Nat → List UInt8 → List (List UInt8 × Bool)
  | 0, _ => []
  | k + 1, s =>
    if s.length = 0 then [] else
    if s.length < 8 then [([], false)] else
    if (s.drop 8).length < beN (s.take 8) then [([], false)] else
    ((s.drop 8).take (beN (s.take 8)), true) :: itemsF k ((s.drop 8).drop (beN (s.take 8)))
def itemsL (s : List UInt8) : List (List UInt8 × Bool) := itemsF s.length s
theorem itemsF_more : ∀ (k j : Nat) (s : List UInt8), s.length ≤ k → s.length ≤ j → itemsF k s = itemsF j s
  | 0, 0, s, _, _ => rfl
  | 0, j + 1, s, h, _ => by simp only [itemsF]; rw [if_pos (by omega)]
  | k + 1, 0, s, _, h => by simp only [itemsF]; rw [if_pos (by omega)]
  | k + 1, j + 1, s, h1, h2 => by
    simp only [itemsF]
    split
    · rfl
    · split
      · rfl
      · split
        · rfl
        · rw [itemsF_more k j _ (by simp only [List.length_drop]; omega) (by simp only [List.length_drop]; omega)]
theorem itemsL_nil {s : List UInt8} (h : s.length = 0) : itemsL s = [] := by unfold itemsL; rw [h]; rfl
theorem itemsL_short {s : List UInt8} (h0 : 0 < s.length) (h : s.length < 8) : itemsL s = [([], false)] := by
  unfold itemsL
  obtain ⟨m, hm⟩ : ∃ m, s.length = m + 1 := ⟨s.length - 1, by omega⟩
  rw [hm]; simp only [itemsF]; rw [if_neg (by omega), if_pos h]
theorem itemsL_far {s : List UInt8} (h : 8 ≤ s.length) (hn : (s.drop 8).length < beN (s.take 8)) : itemsL s = [([], false)] := by
  unfold itemsL
  obtain ⟨m, hm⟩ : ∃ m, s.length = m + 1 := ⟨s.length - 1, by omega⟩
  rw [hm]; simp only [itemsF]; rw [if_neg (by omega), if_neg (by omega), if_pos hn]
theorem itemsL_cons {s : List UInt8} (h : 8 ≤ s.length) (hn : beN (s.take 8) ≤ (s.drop 8).length) :
    itemsL s = ((s.drop 8).take (beN (s.take 8)), true) :: itemsL ((s.drop 8).drop (beN (s.take 8))) := by
  unfold itemsL
  obtain ⟨m, hm⟩ : ∃ m, s.length = m + 1 := ⟨s.length - 1, by omega⟩
  rw [hm]
  conv => lhs; rw [itemsF]
  rw [if_neg (by omega), if_neg (by omega), if_neg (by omega), itemsF_more m _ _ (by simp only [List.length_drop]; omega) (Nat.le_refl _)]

/-- The parts, none where some item is none. -/
def splitOf : List (List UInt8 × Bool) → Option (List (List UInt8))
  | [] => some []
  | x :: l => if x.2 then (splitOf l).map (x.1 :: ·) else none
def splitL (s : List UInt8) : Option (List (List UInt8)) := splitOf (itemsL s)
theorem splitOf_good : ∀ l : List (List UInt8 × Bool), (∀ x ∈ l, x.2 = true) → splitOf l = some (l.map (·.1))
  | [], _ => rfl
  | x :: l, h => by
    rw [splitOf, if_pos (h x (by simp)), splitOf_good l (fun y hy => h y (by simp [hy]))]; rfl
theorem splitOf_bad : ∀ l : List (List UInt8 × Bool), (∃ x ∈ l, x.2 = false) → splitOf l = none
  | [], h => by obtain ⟨x, hx, _⟩ := h; cases hx
  | x :: l, h => by
    rw [splitOf]
    split
    · obtain ⟨y, hy, hf⟩ := h
      rcases List.mem_cons.1 hy with rfl | hy
      · simp_all
      · rw [splitOf_bad l ⟨y, hy, hf⟩]; rfl
    · rfl
theorem splitL_nil {s : List UInt8} (h : s.length = 0) : splitL s = some [] := by unfold splitL; rw [itemsL_nil h]; rfl
theorem splitL_short {s : List UInt8} (h0 : 0 < s.length) (h : s.length < 8) : splitL s = none := by unfold splitL; rw [itemsL_short h0 h]; rfl
theorem splitL_far {s : List UInt8} (h : 8 ≤ s.length) (hn : (s.drop 8).length < beN (s.take 8)) : splitL s = none := by unfold splitL; rw [itemsL_far h hn]; rfl
theorem splitL_cons {s : List UInt8} (h : 8 ≤ s.length) (hn : beN (s.take 8) ≤ (s.drop 8).length) :
    splitL s = (splitL ((s.drop 8).drop (beN (s.take 8)))).map ((s.drop 8).take (beN (s.take 8)) :: ·) := by
  unfold splitL; rw [itemsL_cons h hn]; rfl

theorem split_frame : ∀ l : List (List UInt8), (∀ p ∈ l, p.length < 18446744073709551616) → splitL (frameL l) = some l
  | [], _ => splitL_nil rfl
  | p :: l, h => by
    have hp := h p (by simp)
    have hd : (frameL (p :: l)).drop 8 = p ++ frameL l := by simp only [frameL]; exact List.drop_left' (length_be8 _)
    have ht : (frameL (p :: l)).take 8 = be8 p.length := by simp only [frameL]; exact List.take_left' (length_be8 _)
    have hn : beN ((frameL (p :: l)).take 8) = p.length := by rw [ht, beN_be8 _ hp]
    have hl : (frameL (p :: l)).length = 8 + (p.length + (frameL l).length) := by simp only [frameL, List.length_append, length_be8]
    rw [splitL_cons (by omega) (by rw [hn, hd, List.length_append]; omega), hn, hd, List.drop_left, List.take_left, split_frame l (fun q hq => h q (by simp [hq]))]
    rfl
theorem frame_split : ∀ (k : Nat) (s : List UInt8) (l : List (List UInt8)), s.length ≤ k → splitL s = some l → frameL l = s
  | 0, s, l, hk, h => by
    have : s = [] := List.eq_nil_of_length_eq_zero (by omega)
    subst this
    rw [splitL_nil rfl] at h; cases h; rfl
  | k + 1, s, l, hk, h => by
    by_cases h0 : s.length = 0
    · rw [splitL_nil h0] at h; cases h
      exact (List.eq_nil_of_length_eq_zero h0).symm
    · by_cases h8 : s.length < 8
      · rw [splitL_short (by omega) h8] at h; cases h
      · by_cases hn : (s.drop 8).length < beN (s.take 8)
        · rw [splitL_far (by omega) hn] at h; cases h
        · rw [splitL_cons (by omega) (by omega)] at h
          obtain ⟨m, hm, rfl⟩ := Option.map_eq_some_iff.1 h
          have ih := frame_split k _ m (by simp only [List.length_drop]; omega) hm
          rw [frameL, ih, List.length_take, Nat.min_eq_left (by omega), be8_beN _ (by rw [List.length_take]; omega), List.take_append_drop, List.take_append_drop]
theorem frame_inj {a b : List (List UInt8)} (ha : ∀ p ∈ a, p.length < 18446744073709551616) (hb : ∀ p ∈ b, p.length < 18446744073709551616) (h : frameL a = frameL b) : a = b := by
  have h1 := split_frame a ha
  rw [h, split_frame b hb] at h1
  exact (Option.some.inj h1).symm

/-! ### tags -/
def keyL (k : List UInt8) : List UInt8 := if 64 < k.length then sumL k else k
/-- 64 bytes of a key, each exclusive or another one. -/
def hideL (k : List UInt8) (b : UInt8) : List UInt8 := xorL (padL k 64) (List.replicate 64 b)
theorem padL_64 (k : List UInt8) : padL k 64 = k ++ List.replicate (64 - k.length) 0 := rfl
def innerL (k s : List UInt8) : List UInt8 := hideL (keyL k) 54 ++ s
def outerL (k s : List UInt8) : List UInt8 := hideL (keyL k) 92 ++ sumL (innerL k s)
def hmacL (k s : List UInt8) : List UInt8 := sumL (outerL k s)
theorem length_hmacL (k s : List UInt8) : (hmacL k s).length = 32 := length_tellS _
theorem length_sumL (s : List UInt8) : (sumL s).length = 32 := length_tellS _
theorem length_hideL (k : List UInt8) (b : UInt8) : (hideL k b).length = 64 := by
  unfold hideL; rw [length_xorL, padL_64]; simp; omega
theorem hideL_inj {k m : List UInt8} {b : UInt8} (h1 : k.length = 32) (h2 : m.length = 32) (h : hideL k b = hideL m b) : k = m := by
  unfold hideL at h
  have h3 : xorL (xorL (padL k 64) (List.replicate 64 b)) (List.replicate 64 b) = xorL (xorL (padL m 64) (List.replicate 64 b)) (List.replicate 64 b) := by rw [h]
  rw [padL_64, padL_64, xorL_self, xorL_self, List.take_of_length_le (by simp; omega), List.take_of_length_le (by simp; omega)] at h3
  exact (List.append_inj h3 (by omega)).1
/-- Two unlike pairs with one tag: the texts that were summed clash. -/
theorem apart {k s m t : List UInt8} (h1 : k.length = 32) (h2 : m.length = 32) (hne : ¬ (k = m ∧ s = t)) (h : hmacL k s = hmacL m t) :
    (innerL k s ≠ innerL m t ∧ sumL (innerL k s) = sumL (innerL m t)) ∨ (outerL k s ≠ outerL m t ∧ sumL (outerL k s) = sumL (outerL m t)) := by
  by_cases hi : innerL k s = innerL m t
  · exfalso
    have hkk : keyL k = k := by unfold keyL; rw [if_neg (by omega)]
    have hmm : keyL m = m := by unfold keyL; rw [if_neg (by omega)]
    unfold innerL at hi
    rw [hkk, hmm] at hi
    have := List.append_inj hi (by rw [length_hideL, length_hideL])
    exact hne ⟨hideL_inj h1 h2 this.1, this.2⟩
  · by_cases hs : sumL (innerL k s) = sumL (innerL m t)
    · exact .inl ⟨hi, hs⟩
    · right
      refine ⟨fun e => ?_, h⟩
      unfold outerL at e
      exact hs (List.append_inj e (by rw [length_hideL, length_hideL])).2
end Go.Proofs.YtejhiekikblbiaaGreatDoor

namespace Go.Proofs.YtejhiekikblbiaaGreatDoor
open Go.Shelf
def bld_ren : Go.Shelf.Ren := ⟨fun | 240 => 106 | 276 => 132 | 166 => 68 | n => n, fun | 0 => 0 | 3 => 3 | 4 => 4 | 5 => 5 | 9 => 9 | 20 => 20 | 37 => 99 | 70 => 98 | 72 => 101 | 75 => 106 | 80 => 112 | 164 => 178 | n => n, fun | n => n⟩
theorem bld_laid : Go.Proofs.Lays.n166 Tryz.prog bld_ren := {
  mixed := by kernel_rfl
  f166 := Tryz.func68.trans (congrArg some (by kernel_rfl))
  f240 := Tryz.func106.trans (congrArg some (by kernel_rfl))
  f276 := Tryz.func132.trans (congrArg some (by kernel_rfl))
  t0 := Tryz.underlying0
  a0 := Tryz.isAgg0
  z0 := Tryz.sizeOf0
  v0 := Tryz.zeroValue0
  t3 := Tryz.underlying3
  a3 := Tryz.isAgg3
  z3 := Tryz.sizeOf3
  v3 := Tryz.zeroValue3
  t4 := Tryz.underlying4
  a4 := Tryz.isAgg4
  z4 := Tryz.sizeOf4
  v4 := Tryz.zeroValue4
  t9 := Tryz.underlying9
  a9 := Tryz.isAgg9
  z9 := Tryz.sizeOf9
  v9 := Tryz.zeroValue9
  t20 := Tryz.underlying20
  a20 := Tryz.isAgg20
  z20 := Tryz.sizeOf20
  v20 := Tryz.zeroValue20
  t37 := Tryz.underlying99
  a37 := Tryz.isAgg99
  z37 := Tryz.sizeOf99
  v37 := Tryz.zeroValue99
  t70 := Tryz.underlying98
  a70 := Tryz.isAgg98
  z70 := Tryz.sizeOf98
  v70 := Tryz.zeroValue98
  t72 := Tryz.underlying101
  a72 := Tryz.isAgg101
  z72 := Tryz.sizeOf101
  v72 := Tryz.zeroValue101
  t75 := Tryz.underlying106
  a75 := Tryz.isAgg106
  z75 := Tryz.sizeOf106
  v75 := Tryz.zeroValue106
  t164 := Tryz.underlying178
  a164 := Tryz.isAgg178
  z164 := Tryz.sizeOf178
  v164 := Tryz.zeroValue178 }
theorem bld_extra : Builder.Extra Tryz.prog bld_ren := {
  sizeBuilder := by kernel_rfl
  liesBuilder := by kernel_rfl
  t5 := Tryz.underlying5
  a5 := Tryz.isAgg5
  z5 := Tryz.sizeOf5
  v5 := Tryz.zeroValue5
  infoByte := by kernel_rfl
  cellsByte := by kernel_rfl
  sizeByte := by kernel_rfl
  neB5 := by decide }
def byt_ren : Go.Shelf.Ren := ⟨fun | 240 => 106 | 276 => 132 | 167 => 131 | n => n, fun | 0 => 0 | 3 => 3 | 4 => 4 | 5 => 5 | 9 => 9 | 20 => 20 | 37 => 99 | 70 => 98 | 72 => 101 | 75 => 106 | 80 => 112 | 164 => 178 | n => n, fun | n => n⟩
theorem byt_laid : Go.Proofs.Lays.n167 Tryz.prog byt_ren := {
  mixed := by kernel_rfl
  f167 := Tryz.func131.trans (congrArg some (by kernel_rfl))
  f240 := Tryz.func106.trans (congrArg some (by kernel_rfl))
  f276 := Tryz.func132.trans (congrArg some (by kernel_rfl))
  t0 := Tryz.underlying0
  a0 := Tryz.isAgg0
  z0 := Tryz.sizeOf0
  v0 := Tryz.zeroValue0
  t4 := Tryz.underlying4
  a4 := Tryz.isAgg4
  z4 := Tryz.sizeOf4
  v4 := Tryz.zeroValue4
  t5 := Tryz.underlying5
  a5 := Tryz.isAgg5
  z5 := Tryz.sizeOf5
  v5 := Tryz.zeroValue5
  t9 := Tryz.underlying9
  a9 := Tryz.isAgg9
  z9 := Tryz.sizeOf9
  v9 := Tryz.zeroValue9
  t20 := Tryz.underlying20
  a20 := Tryz.isAgg20
  z20 := Tryz.sizeOf20
  v20 := Tryz.zeroValue20
  t37 := Tryz.underlying99
  a37 := Tryz.isAgg99
  z37 := Tryz.sizeOf99
  v37 := Tryz.zeroValue99
  t70 := Tryz.underlying98
  a70 := Tryz.isAgg98
  z70 := Tryz.sizeOf98
  v70 := Tryz.zeroValue98
  t72 := Tryz.underlying101
  a72 := Tryz.isAgg101
  z72 := Tryz.sizeOf101
  v72 := Tryz.zeroValue101
  t75 := Tryz.underlying106
  a75 := Tryz.isAgg106
  z75 := Tryz.sizeOf106
  v75 := Tryz.zeroValue106
  t164 := Tryz.underlying178
  a164 := Tryz.isAgg178
  z164 := Tryz.sizeOf178
  v164 := Tryz.zeroValue178 }
theorem byt_extra : Builder.Extra Tryz.prog byt_ren := {
  sizeBuilder := by kernel_rfl
  liesBuilder := by kernel_rfl
  t5 := Tryz.underlying5
  a5 := Tryz.isAgg5
  z5 := Tryz.sizeOf5
  v5 := Tryz.zeroValue5
  infoByte := by kernel_rfl
  cellsByte := by kernel_rfl
  sizeByte := by kernel_rfl
  neB5 := by decide }
open Go.RowKit in
theorem bld_byte (B b : Nat) (bs : List Value) (c : Int) (w : World) (h : Lib.IsBuilder 101 5 B b bs w) (hlen : bs.length + 1 ≤ 140737488355328) (hBw : B ≤ w.heap.size) :
    Calls Tryz.prog 131 #[.pointer (some ⟨b, 0, none⟩), .int .u8 c] w fun e w' => e = .returned .nilIface ∧ (Lib.BuilderAt 101 5 B b (.pointer (some ⟨b, 0, none⟩)) (bs ++ [.int .u8 c]) w' ∧ Below B w w') := Any.Builder_WriteByte byt_laid byt_extra B b bs c w h hlen hBw
open Go.RowKit in
theorem bld_write (B b : Nat) (bs : List Value) (s : ByteArray) (w : World) (h : Lib.IsBuilder 101 5 B b bs w) (hlen : bs.length + s.size ≤ 140737488355328) (hBw : B ≤ w.heap.size) :
    Calls Tryz.prog 68 #[.pointer (some ⟨b, 0, none⟩), .string s] w fun e w' => e = .returned (.tuple #[.int .i64 s.size, .nilIface]) ∧ (Lib.BuilderAt 101 5 B b (.pointer (some ⟨b, 0, none⟩)) (bs ++ Lib.strCells s) w' ∧ Below B w w') := Any.Builder_WriteString bld_laid bld_extra B b bs s w h hlen hBw
end Go.Proofs.YtejhiekikblbiaaGreatDoor

namespace Go.Proofs.YtejhiekikblbiaaGreatDoor
open Go.RowKit

theorem be_set (n k : Nat) (h : k < 8) : ((List.replicate (8 - k) 0 ++ beK n k).map U8).set (7 - k) (U8 (n / 256 ^ k % 256).toUInt8) = (List.replicate (8 - (k + 1)) 0 ++ beK n (k + 1)).map U8 := by
  rw [← List.map_set]
  congr 1
  obtain ⟨j, hj⟩ : ∃ j, 7 - k = j := ⟨_, rfl⟩
  rw [show 8 - k = j + 1 by omega, show 8 - (k + 1) = j by omega, hj, beK, List.replicate_succ', List.append_assoc]
  rw [List.set_append_right _ _ (by simp)]
  simp

theorem U8_be (n k : Nat) : Value.int .u8 ((n : Int) / 2 ^ (8 * k) % 256) = U8 (n / 256 ^ k % 256).toUInt8 := by
  have h : ((2 : Int) ^ (8 * k)) = ((256 ^ k : Nat) : Int) := by rw [Int.pow_mul]; simp
  unfold U8
  rw [h, Nat.toUInt8, UInt8.toNat_ofNat', show 2 ^ 8 = 256 from rfl, Nat.mod_mod]
  congr 1
theorem Tryz.strArr8 {w : World} {g : Nat} (l : List UInt8) (hl : l.length = 8) (h : Arr w g 155 (l.map U8)) : (convert 99 9 (.slice (some ⟨g, 0, none⟩) 8 8)).run Tryz.prog w = .ok (.string (ofL l)) w :=
  run_str_cells w _ _ _ Tryz.underlying99 Tryz.underlying5 Tryz.underlying9 ⟨g, 0, none⟩ 8 8 l hl (fun j u hu => by
    have hadd : (⟨g, 0, none⟩ : Addr).add j = ⟨g, j, none⟩ := by unfold Addr.add; split <;> simp_all
    rw [hadd, h.cell j]; exact hu)

set_option maxRecDepth 100000 in
set_option maxHeartbeats 2000000 in
theorem long_any (n : Nat) (w : World) (_hn : n ≤ 100000000) : Calls Tryz.prog 77 #[.int .i64 n] w fun e w' => e = .returned (.string (ofL (be8 n))) ∧ Ext w w' := by
  go_enter Tryz.func77, Tryz.ntmps77
  go_wp2
  go_loopw [5] (fun x wr => ∃ k : Nat, k ≤ 8 ∧ x = .int .i64 k ∧ Ext w wr ∧ Arr wr w.heap.size 155 ((List.replicate (8 - k) 0 ++ beK n k).map U8)) (fun x _ => 8 - (intOf x).toNat)
  case atStart => exact ⟨0, by omega, rfl, (Ext.rfl' _).al _, Arr.new _ _ _⟩
  case round =>
    obtain ⟨k, hk, rfl, hE, hA⟩ := hrel
    by_cases hlt : k < 8
    · have hc : ∃ u, wr.cell? ⟨w.heap.size, 7 - k, none⟩ = some u := ⟨_, (hA.cell _).trans (List.getElem?_eq_getElem (by simp [length_beK]; omega))⟩
      obtain ⟨u, hc⟩ := hc
      have hf := hA.frozen (7 - k)
      go_wp2
      rw [U8_be n k]
      refine ⟨⟨k + 1, by omega, by go_num, hE.st (by simp) _, ?_⟩, by simp [intOf]; omega⟩
      rw [← be_set n k hlt]
      exact hA.set (7 - k) _
    · obtain rfl : k = 8 := by omega
      have hcv := Tryz.strArr8 (w := wr) (g := w.heap.size) (be8 n) rfl (by simpa [be8_beK] using hA)
      go_wp2
      go_ret
      exact ⟨rfl, hE⟩

theorem rlong_any (n : Nat) (w : World) (hn : n ≤ 100000000) : Calls Tryz.prog 80 #[.int .i64 n] w fun e w' => e = .returned (.string (ofL (be8 n))) ∧ Ext w w' := by
  go_enter Tryz.func80, Tryz.ntmps80
  go_wp2
  go_loopw [4, 3, 0] (fun i o x wr => ∃ k : Nat, k ≤ 8 ∧ i = .int .i64 k ∧ o = .string (ofL (beK n k)) ∧ x = .int .i64 ((n / 256 ^ k : Nat) : Int) ∧ Ext w wr) (fun i _ _ _ => 8 - (intOf i).toNat)
  case atStart => exact ⟨0, by omega, rfl, rfl, by simp, Ext.rfl' _⟩
  case round =>
    obtain ⟨k, hk, rfl, rfl, rfl, hE⟩ := hrel
    by_cases hlt : k < 8
    · obtain ⟨m, hm⟩ : ∃ m, n / 256 ^ k = m := ⟨_, rfl⟩
      have hm2 : n / 256 ^ (k + 1) = m / 256 := by rw [Nat.pow_succ, ← Nat.div_div_eq_div_mul, hm]
      have hml : m ≤ 100000000 := by rw [← hm]; exact Nat.le_trans (Nat.div_le_self _ _) hn
      have hsz : (ofL (beK n k)).size = k := by rw [size_ofL, length_beK]
      have happ : ofL [byteOf ((m : Int) % 256)] ++ ofL (beK n k) = ofL (beK n (k + 1)) := by
        rw [ofL_append, beK, hm]
        congr 1
        show byteOf ((m : Int) % 256) :: beK n k = _
        congr 1
        rw [show (m : Int) % 256 = ((m % 256 : Nat) : Int) by omega, byteOf_nat _ (by omega)]
      rw [hm]
      have HM := Lib.hid hm; have HM2 := Lib.hid hm2; have HA := Lib.hid happ
      clear hm hm2 happ
      go_wp2_with ((with_reducible refine (rbyte_any _ _).mono ?_); rintro e w2 ⟨rfl, hE2⟩)
      go_roundw
      case rel => exact ⟨k + 1, by omega, by go_num, by rw [HA.out], by rw [HM2.out]; go_num, hE.tr hE2⟩
      case measure => simp [intOf]; omega
    · go_wp2
      go_ret
      obtain rfl : k = 8 := by omega
      exact ⟨ret_str (by rw [be8_beK]), hE⟩
end Go.Proofs.YtejhiekikblbiaaGreatDoor

namespace Go.Proofs.YtejhiekikblbiaaGreatDoor
open Go.RowKit

theorem isBuilder_ext {T e : TypeId} {B b : Nat} {bs : List Value} {w w' : World} (h : Lib.IsBuilder T e B b bs w) (hE : Ext w w') : Lib.IsBuilder T e B b bs w' := by
  have key : ∀ p, Lib.BuilderAt T e B b p bs w → Lib.BuilderAt T e B b p bs w' := by
    rintro p ⟨hB, v, hb, hown, hne⟩
    exact ⟨hB, v, (hE.block b (Array.getElem?_eq_some_iff.1 hb).1).trans hb, own_ext hown (fun j _ hj => hE.block j hj), hne⟩
  exact h.elim (fun h => .inl (key _ h)) (fun h => .inr (key _ h))
theorem strCells_ofL (l : List UInt8) : Lib.strCells (ofL l) = Lib.byteCells l := rfl
theorem byteCells_append (a b : List UInt8) : Lib.byteCells a ++ Lib.byteCells b = Lib.byteCells (a ++ b) := by simp [Lib.byteCells]
theorem below_ext {w wr w' : World} (h : Ext w wr) (hB : Below w.heap.size wr w') : Ext w w' := Below.trans h hB
/-- A part written behind. -/
theorem bld_writeL (B b : Nat) (l p : List UInt8) (w : World) (h : Lib.IsBuilder 101 5 B b (Lib.byteCells l) w) (hlen : l.length + p.length ≤ 1000000) (hBw : B ≤ w.heap.size) :
    Calls Tryz.prog 68 #[.pointer (some ⟨b, 0, none⟩), .string (ofL p)] w fun e w' => e = .returned (.tuple #[.int .i64 p.length, .nilIface]) ∧ Lib.IsBuilder 101 5 B b (Lib.byteCells (l ++ p)) w' ∧ Below B w w' := by
  refine (bld_write B b _ (ofL p) w h (by rw [Lib.byteCells_length, size_ofL]; omega) hBw).mono ?_
  rintro e w' ⟨rfl, hb, hB⟩
  rw [strCells_ofL, byteCells_append] at hb
  exact ⟨by rw [size_ofL], .inr hb, hB⟩
theorem take_frame (l : List (List UInt8)) (k : Nat) (h : k < l.length) : frameL (l.take (k + 1)) = (frameL (l.take k) ++ be8 l[k].length) ++ l[k] := by
  rw [List.take_succ_eq_append_getElem h, frameL_snoc, List.append_assoc]
theorem take_frame_le (l : List (List UInt8)) (k : Nat) : (frameL (l.take k)).length ≤ (frameL l).length := by
  have h := frameL_append (l.take k) (l.drop k)
  rw [List.take_append_drop] at h
  rw [h, List.length_append]; omega

set_option maxHeartbeats 2000000 in
theorem frame_any (l : List (List UInt8)) (v : Value) (w : World) (h : Rd w w.heap.size 1 v l.length (l.map Str)) (hlen : (frameL l).length ≤ 1000000) :
    Calls Tryz.prog 36 #[v] w fun e w' => e = .returned (.string (ofL (frameL l))) ∧ Ext w w' := by
  obtain ⟨A, c, rfl, hn, hl, hca⟩ := h
  have Hca := Lib.hid hca; clear hca hl
  have HL := Lib.hid hlen; clear hlen
  go_enter Tryz.func36, Tryz.ntmps36
  go_wp2
  have hb0 := Lib.fresh_isBuilder 101 5 w
  have hE0 := (Ext.rfl' w).al (.cells #[.pointer none, .slice none 0 0] 101)
  go_loopw [8] (fun i wr => ∃ k : Nat, k ≤ l.length ∧ i = .int .i64 k ∧ Ext w wr ∧ Lib.IsBuilder 101 5 w.heap.size w.heap.size (Lib.byteCells (frameL (l.take k))) wr) (fun i _ => l.length - (intOf i).toNat)
  case atStart => exact ⟨0, by omega, rfl, hE0, hb0⟩
  case round =>
    clear hb0 hE0
    obtain ⟨k, hk, rfl, hE, hb⟩ := hrel
    by_cases hlt : k < l.length
    · obtain ⟨b, off, rfl, hbb, hc⟩ := Hca.out (by omega)
      obtain ⟨p, hp⟩ : ∃ p, l[k] = p := ⟨_, rfl⟩
      have f1 : wr.cell? ⟨b, off + k, none⟩ = some (Str p) := ((bcell hE).1 b _ hbb).trans (hc k _ (by simp [List.getElem?_eq_getElem hlt, hp]))
      unfold Str at f1
      clear hc Hca
      have ht := take_frame l k hlt
      have hle := take_frame_le l (k + 1)
      rw [hp] at ht
      rw [ht] at hle
      obtain ⟨O, hO⟩ : ∃ O, frameL (l.take k) = O := ⟨_, rfl⟩
      rw [hO] at hb ht hle
      have h1 : O.length + 8 + p.length ≤ 1000000 := by simp only [List.length_append, length_be8] at hle; have := HL.out; omega
      have HT := Lib.hid ht; clear ht hle hO hp
      go_wp2_with fail
      refine (long_any p.length _ (by omega)).mono ?_
      rintro e w2 ⟨rfl, hE2⟩
      have hb2 := isBuilder_ext hb hE2
      have hE2' := hE.tr hE2
      clear hb hE hE2
      go_wp2_with fail
      refine (bld_writeL _ _ O _ _ hb2 (by rw [length_be8]; omega) (by have := hE2'.size; omega)).mono ?_
      rintro e w3 ⟨rfl, hb3, hB3⟩
      have hE3 := below_ext hE2' hB3
      clear hb2 hE2' hB3
      go_wp2_with fail
      refine (bld_writeL _ _ _ p _ hb3 (by rw [List.length_append, length_be8]; omega) (by have := hE3.size; omega)).mono ?_
      rintro e w4 ⟨rfl, hb4, hB4⟩
      have hE4 := below_ext hE3 hB4
      clear hb3 hE3 hB4
      go_wp2
      go_roundw
      case rel => exact ⟨k + 1, by omega, by go_num, hE4, by rw [HT.out]; exact hb4⟩
      case measure => simp [intOf]; omega
    · rw [List.take_of_length_le (by omega)] at hb
      go_wp2_with fail
      refine (Tryz.Builder_String_any _ _ _ _ hb (by have := hE.size; omega)).mono ?_
      rintro e w2 ⟨rfl, hB⟩
      go_wp2
      go_ret
      exact ⟨rfl, below_ext hE hB⟩

set_option maxRecDepth 100000 in
set_option maxHeartbeats 4000000 in
theorem rframe_any (l : List (List UInt8)) (v : Value) (w : World) (h : Rd w w.heap.size 1 v l.length (l.map Str)) (hlen : (frameL l).length ≤ 1000000) :
    Calls Tryz.prog 38 #[v] w fun e w' => e = .returned (.string (ofL (frameL l))) ∧ Ext w w' := by
  obtain ⟨A, c, rfl, hn, hl, hca⟩ := h
  have Hca := Lib.hid hca; clear hca hl
  have HL := Lib.hid hlen; clear hlen
  go_enter Tryz.func38, Tryz.ntmps38
  go_wp2
  go_loopw [4, 3] (fun i o wr => ∃ k : Nat, k ≤ l.length ∧ i = .int .i64 k ∧ Ext w wr ∧ o = .string (ofL (frameL (l.take k)))) (fun i _ _ => l.length - (intOf i).toNat)
  case atStart => exact ⟨0, by omega, rfl, Ext.rfl' _, rfl⟩
  case round =>
    obtain ⟨k, hk, rfl, hE, rfl⟩ := hrel
    by_cases hlt : k < l.length
    · obtain ⟨b, off, rfl, hbb, hc⟩ := Hca.out (by omega)
      obtain ⟨p, hp⟩ : ∃ p, l[k] = p := ⟨_, rfl⟩
      have f1 : ∀ W, Ext wr W → W.cell? ⟨b, off + k, none⟩ = some (.string (ofL p)) := fun W hW => ((bcell (hE.tr hW)).1 b _ hbb).trans (hc k _ (by simp [List.getElem?_eq_getElem hlt, hp, Str]))
      clear hc Hca
      have ht := take_frame l k hlt
      have hle := take_frame_le l (k + 1)
      rw [hp] at ht
      rw [ht] at hle
      obtain ⟨O, hO⟩ : ∃ O, frameL (l.take k) = O := ⟨_, rfl⟩
      rw [hO] at ht hle ⊢
      have h1 : O.length + 8 + p.length ≤ 1000000 := by simp only [List.length_append, length_be8] at hle; have := HL.out; omega
      have h2 : (ofL O).size = O.length := size_ofL _
      have h3 : (ofL p).size = p.length := size_ofL _
      have h4 : (ofL (be8 p.length)).size = 8 := rfl
      have h5 : (ofL (O ++ be8 p.length)).size = O.length + 8 := by rw [size_ofL, List.length_append, length_be8]
      have a1 : ofL O ++ ofL (be8 p.length) = ofL (O ++ be8 p.length) := ofL_append _ _
      have a2 : ofL (O ++ be8 p.length) ++ ofL p = ofL (O ++ be8 p.length ++ p) := ofL_append _ _
      have HT := Lib.hid ht; have HC := Lib.hid f1; clear ht hle hO hp f1
      go_upto_region 5 with fail
      refine wp_region_tails (fun i v W => match i with
        | 0 => v = .string (ofL O)
        | 1 => v = .slice (some ⟨b, off, none⟩) l.length c
        | 2 => v = .int .i64 k
        | 3 => v = .pointer (some ⟨b, off + k, none⟩)
        | 4 => v = .string (ofL p)
        | 5 => v = .int .i64 p.length
        | 6 => v = .string (ofL (be8 p.length))
        | 7 => v = .string (ofL (O ++ be8 p.length))
        | 8 => v = .slice (some ⟨b, off, none⟩) l.length c
        | 9 => v = .int .i64 k
        | 10 => v = .pointer (some ⟨b, off + k, none⟩)
        | 11 => v = .string (ofL p)
        | 12 => v = .string (ofL (O ++ be8 p.length ++ p))
        | _ => True) 13 (by kernel_rfl) (by kernel_rfl) (by kernel_rfl) (by decide) (by kernel_rfl) (by kernel_rfl) (by kernel_rfl) ?_ ?_ ?_
      · intro i v W1 W2 e1 e2 h
        match i, h with
        | 0, h => exact h
        | 1, h => exact h
        | 2, h => exact h
        | 3, h => exact h
        | 4, h => exact h
        | 5, h => exact h
        | 6, h => exact h
        | 7, h => exact h
        | 8, h => exact h
        | 9, h => exact h
        | 10, h => exact h
        | 11, h => exact h
        | 12, h => exact h
        | (i + 13), h => exact h
      · refine localsR_cons (fun u W hW hd => leaves_val rfl (v := .string (ofL O)) (by go_simp) rfl) ?_
        refine localsR_cons (fun u W hW hd => leaves_val rfl (v := .slice (some ⟨b, off, none⟩) l.length c) (by go_simp) rfl) ?_
        refine localsR_cons (fun u W hW hd => leaves_val rfl (v := .int .i64 k) (by go_simp) rfl) ?_
        refine localsR_cons (fun u W hW hd => ?_) ?_
        · have h1 : u 1 = _ := hd 1 (by kernel_rfl)
          have h2 : u 2 = _ := hd 2 (by kernel_rfl)
          exact leaves_val rfl (v := .pointer (some ⟨b, off + k, none⟩)) (by go_simp) rfl
        refine localsR_cons (fun u W hW hd => ?_) ?_
        · have h3 : u 3 = _ := hd 3 (by kernel_rfl)
          have hc := HC.out W hW
          exact leaves_val rfl (v := .string (ofL p)) (by go_simp) rfl
        refine localsR_cons (fun u W hW hd => ?_) ?_
        · have h4 : u 4 = _ := hd 4 (by kernel_rfl)
          exact leaves_val rfl (v := .int .i64 p.length) (by go_simp) rfl
        refine localsR_cons (fun u W hW hd => ?_) ?_
        · have h5 : u 5 = _ := hd 5 (by kernel_rfl)
          exact leaves_call rfl (f := 80) (args := #[.int .i64 p.length]) (by go_simp) ((rlong_any p.length W (by omega)).mono (by rintro e9 W9 ⟨rfl, h9⟩; exact ⟨_, rfl, h9, rfl⟩))
        refine localsR_cons (fun u W hW hd => ?_) ?_
        · have h0 : u 0 = _ := hd 0 (by kernel_rfl)
          have h6 : u 6 = _ := hd 6 (by kernel_rfl)
          exact leaves_val rfl (v := .string (ofL (O ++ be8 p.length))) (by go_simp; omega) rfl
        refine localsR_cons (fun u W hW hd => leaves_val rfl (v := .slice (some ⟨b, off, none⟩) l.length c) (by go_simp) rfl) ?_
        refine localsR_cons (fun u W hW hd => leaves_val rfl (v := .int .i64 k) (by go_simp) rfl) ?_
        refine localsR_cons (fun u W hW hd => ?_) ?_
        · have h8 : u 8 = _ := hd 8 (by kernel_rfl)
          have h9 : u 9 = _ := hd 9 (by kernel_rfl)
          exact leaves_val rfl (v := .pointer (some ⟨b, off + k, none⟩)) (by go_simp) rfl
        refine localsR_cons (fun u W hW hd => ?_) ?_
        · have h10 : u 10 = _ := hd 10 (by kernel_rfl)
          have hc := HC.out W hW
          exact leaves_val rfl (v := .string (ofL p)) (by go_simp) rfl
        refine localsR_cons (fun u W hW hd => ?_) localsR_nil
        · have h7 : u 7 = _ := hd 7 (by kernel_rfl)
          have h11 : u 11 = _ := hd 11 (by kernel_rfl)
          exact leaves_val rfl (v := .string (ofL (O ++ be8 p.length ++ p))) (by go_simp; omega) rfl
      · intro u W hW hV
        have h12 : u 12 = .string (ofL (O ++ be8 p.length ++ p)) := hV 12 (by decide)
        clear hV a1 a2 h2 h3 h4 h5 HC
        have hEW := hE.tr hW
        rw [← HT.out] at h12
        go_wp2
        go_roundw
        case rel => exact ⟨k + 1, by omega, by go_num, hEW, rfl⟩
        case measure => simp [intOf]; omega
    · rw [List.take_of_length_le (by omega)]
      go_wp2
      go_ret
      exact ⟨rfl, hE⟩
end Go.Proofs.YtejhiekikblbiaaGreatDoor

namespace Go
open Go.RowKit
variable {F : Fence} {n : Nat} {P : Program}

/-- What is said abides new blocks, and turns of the blocks C. -/
def AbidesC {β : Type} (C : Nat → Prop) (J : β → World → Prop) : Prop :=
  ∀ s W W' row, J s W → W.grownBy W' row → (∀ r, row = some r → C r) → J s W'
/-- .. and turns of blocks from B on that hold no cells. -/
def AbidesB {β : Type} (C : Nat → Prop) (B : Nat) (I : β → World → Prop) : Prop :=
  ∀ s W W' row, I s W → W.grownBy W' row → (∀ r, row = some r → C r ∨ (B ≤ r ∧ ∃ o : Obj, W.heap[r]? = some o ∧ o.isCells = false)) → I s W'
/-- The iterator's promise. -/
def SeqC {α : Type} (F : Fence) (n : Nat) (P : Program) (g : Nat) (lb : Array Value) (encs : α → Array Value) (C : Nat → Prop) (Kp : World → World → Prop) (S Sp : List α → Prop) (N : Nat) (w : World) : Prop :=
  ∀ (l : Nat) (J Jx : List α → World → Prop) (W : World), Below w.heap.size w W → AbidesC C J → AbidesC C Jx →
    (∀ pre x W1, J pre W1 → pre.length < N → YieldAt F (n - 1) P l (encs x) W1 fun e W' => (e = .returned (.bool true) ∧ J (pre ++ [x]) W' ∧ Kp W1 W') ∨ (e = .returned (.bool false) ∧ Jx (pre ++ [x]) W')) →
    J [] W → CallsIn F n P g (#[.func (.yield l) #[] #[]] ++ lb) W fun e W' => (∃ v, e = .returned v) ∧ ((∃ xs, S xs ∧ J xs W') ∨ (∃ pre, Sp pre ∧ Jx pre W'))

/-- A block that is not turned. -/
theorem grownBy_at {W W' : World} {row : Option Nat} (hg : W.grownBy W' row) {k : Nat} {o : Obj} (hk : W.heap[k]? = some o) (hne : ∀ r, row = some r → r ≠ k) : W'.heap[k]? = some o :=
  (hg.block k (Array.getElem?_eq_some_iff.1 hk).1 (fun e => hne k e.symm rfl)).trans hk

theorem wpIn_range_C {α : Type} {g : Operand} {ps : Array Tmp} {assign body : Code} {Q : Exit → Act → World → Prop} {a : Act} {w : World}
    (hro : F.round = none) (h1 : 1 ≤ n) {gf : Nat} {lb : Array Value} (hg : a.eval g = .func (.func gf) #[] lb) (hFg : F.fn gf) (eg : ∀ args w, (callFunc gf args).run P w = .ok (.enter gf args) w)
    {encs : α → Array Value} {C : Nat → Prop} {Kp : World → World → Prop} {S Sp : List α → Prop} {N : Nat} {w0 : World} (hseq : SeqC F (n - 1) P gf lb encs C Kp S Sp N w0) (hC : ∀ r, C r → r < w.heap.size)
    (hKt : ∀ {A B C : World}, Kp A B → Kp B C → Kp A C) (hKb : ∀ (W : World) (l : Nat) (o o' : Obj), w.heap.size ≤ l → W.heap[l]? = some o → o.isCells = false → o.isWalk = false → Kp W (W.putObj l o'))
    (hb0 : Below w0.heap.size w0 w) (hps : ∀ x, (encs x).size = ps.size)
    (I : List α → World → Prop) (Ix : Code → List α → World → Prop) (hI : AbidesB C w.heap.size I) (hIx : ∀ c, AbidesB C w.heap.size (Ix c)) (h0 : I [] w) (a₁ : α → Act)
    (hassign : ∀ (l : Nat) (x : α) (W : World) (K : Act → World → Prop), K (a₁ x) W → assign.wpIn (F.inRound l) (n - 1 - 1) P (Exit.then K (fun _ _ _ => False)) { tmps := (ps.zip (encs x)).foldl (fun t (p, v) => t.setIfInBounds p v) a.tmps, defers := [] } W)
    (hbody : ∀ (l : Nat) (pre : List α) (x : α) (W : World), I pre W → pre.length < N → w.heap.size ≤ W.heap.size → body.wpIn (F.inRound l) (n - 1 - 1) P (ownPostG w.heap.size Kp I Ix (pre ++ [x]) W) (a₁ x) W)
    (hdone : ∀ (D : Nat) (xs : List α) (W : World), w.heap.size ≤ D → S xs → I xs W → W.heap[D]? = some (.deferred (some [])) → Q .normal { a with defers := { target := .collected D, args := #[] } :: a.defers } W)
    (hstop : ∀ (D : Nat) (c : Code) (pre : List α) (W : World), w.heap.size ≤ D → Sp pre → Ix c pre W → W.heap[D]? = some (.deferred (some [])) → c.wpIn F n P Q { a with defers := { target := .collected D, args := #[] } :: a.defers } W) :
    (Code.rangeFunc g ps assign body).wpIn F n P Q a w := by
  have put : ∀ {J : List α → World → Prop} {s : List α} {W : World} {l : Nat} {o : Obj} (o' : Obj), AbidesB C w.heap.size J → J s W → w.heap.size ≤ l → W.heap[l]? = some o → o.isCells = false → J s (W.putObj l o') :=
    fun o' hJ hs hl ho hn => hJ _ _ _ _ hs (grownBy_putObj' _ _ o') (fun r e => by cases e; exact .inr ⟨hl, _, ho, hn⟩)
  refine wpIn_rangeFunc fun fn hfn => ?_
  rw [hro]
  obtain ⟨rc, hrc⟩ : ∃ rc : LoopState → Option Code → Loop, rc = fun st pe => { state := st, pending := pe, fn, tmps := a.tmps, params := ps, assign, body, defers := w.heap.size } := ⟨_, rfl⟩
  obtain ⟨L, hL⟩ : ∃ L, w.heap.size + 1 = L := ⟨_, rfl⟩
  obtain ⟨W1, hW1⟩ : ∃ W1, (w.alloc (.deferred (some []))).alloc (.loop (rc .ready none)) = W1 := ⟨_, rfl⟩
  have rec1 : W1.heap[L]? = some (.loop (rc .ready none)) := by
    have := World.alloc_heap_new (w.alloc (.deferred (some []))) (.loop (rc .ready none))
    rw [World.size_alloc, hW1, hL] at this
    exact this
  have def1 : W1.heap[w.heap.size]? = some (.deferred (some [])) := by
    rw [← hW1]; exact (Below.heap_alloc _ _ _ (by simp)).trans (World.alloc_heap_new w _)
  have up : ∀ s, I s w → I s W1 := fun s hs => by
    rw [← hW1]
    exact hI _ _ _ none (hI _ _ _ none hs (World.grownBy_alloc w _ none) (fun r e => by cases e)) (World.grownBy_alloc _ _ none) (fun r e => by cases e)
  have b1 : Below w0.heap.size w0 W1 := by
    rw [← hW1]; exact hb0.trans ((((Below.refl _ w).alloc (Nat.le_refl _) _).alloc (by simp) _).mono hb0.size)
  refine ⟨L, [{ target := .collected w.heap.size, args := #[] }], W1, { target := .fn (.func gf) lb, args := #[.func (.yield L) #[] #[]] }, W1, gf, #[.func (.yield L) #[] #[]] ++ lb, W1, ?_, ?_, ?_, ?_, fun _ => h1, ?_⟩
  · rw [← hW1, hrc, ← hL]; exact run_enterLoop_outer _ _ _ _ _
  · simp only [resolve, hg]
    simp [go_sem]
  · intro f' hf'; simp [Target.leads] at hf'; subst hf'; exact hFg
  · simp [invoke, go_sem, eg]
  · have apart : ∀ {row : Option Nat} (k : Nat), w.heap.size ≤ k → (∀ r, row = some r → C r) → ∀ r, row = some r → r ≠ k := fun k hk hr r e => by have := hC r (hr r e); omega
    refine (hseq L (fun pre W => I pre W ∧ W.heap[L]? = some (.loop (rc .ready none)) ∧ W.heap[w.heap.size]? = some (.deferred (some [])))
      (fun pre W => ∃ c, Ix c pre W ∧ W.heap[L]? = some (.loop (rc .done (some c))) ∧ W.heap[w.heap.size]? = some (.deferred (some []))) W1 b1
      (fun s A B row ⟨hs, hl, hk⟩ hgr hr => ⟨hI _ _ _ _ hs hgr (fun r e => .inl (hr r e)), grownBy_at hgr hl (apart L (by omega) hr), grownBy_at hgr hk (apart _ (Nat.le_refl _) hr)⟩)
      (fun s A B row ⟨c, hs, hl, hk⟩ hgr hr => ⟨c, hIx c _ _ _ _ hs hgr (fun r e => .inl (hr r e)), grownBy_at hgr hl (apart L (by omega) hr), grownBy_at hgr hk (apart _ (Nat.le_refl _) hr)⟩)
      ?_ ⟨up _ h0, rec1, def1⟩).mono ?_
    · rintro pre x W ⟨hi, hl, hk⟩ hlen
      have hlt : L < W.heap.size := (Array.getElem?_eq_some_iff.1 hl).1
      have hy := run_yield (P := P) (args := encs x) hl (by rw [hrc]; exact hps x)
      rw [hrc] at hy
      refine ⟨fn, _, assign, body, hy, roundIn_of_wpIn hfn (hassign _ x W _ ⟨_, run_beginRound hl (by rw [hrc]), ?_⟩)⟩
      have hl2 : (W.putObj L (.loop { rc .ready none with state := .busy })).heap[L]? = some (.loop { rc .ready none with state := .busy }) := World.putObj_heap_same hlt
      have hk2 : (W.putObj L (.loop { rc .ready none with state := .busy })).heap[w.heap.size]? = some (.deferred (some [])) := (World.putObj_heap_other (by omega)).trans hk
      have hw2 : Kp W (W.putObj L (.loop { rc .ready none with state := .busy })) := hKb _ _ _ _ (by omega) hl rfl rfl
      refine wpIn_mono (hbody _ pre x _ (put _ hI hi (by omega) hl rfl) hlen (by simp; omega)) ?_
      have fin : ∀ (jump : Option Code) (W3 : World), KeepsFrom w.heap.size (W.putObj L (.loop { rc .ready none with state := .busy })) W3 →
          (Instr.endRound L jump).run P W3 = .ok (.bool jump.isNone) (W3.putObj L (.loop (rc (if jump.isNone then .ready else .done) jump))) ∧ W3.heap[L]? = some (.loop { rc .ready none with state := .busy }) ∧
          (W3.putObj L (.loop (rc (if jump.isNone then .ready else .done) jump))).heap[L]? = some (.loop (rc (if jump.isNone then .ready else .done) jump)) ∧
          (W3.putObj L (.loop (rc (if jump.isNone then .ready else .done) jump))).heap[w.heap.size]? = some (.deferred (some [])) := fun jump W3 hk3 => by
        have hl3 := hk3.same _ _ (by omega) hl2 rfl
        have := run_endRound (P := P) jump hl3
        rw [hrc] at this ⊢
        exact ⟨this, by rw [hrc] at hl3; exact hl3, World.putObj_heap_same (Array.getElem?_eq_some_iff.1 hl3).1, (World.putObj_heap_other (by omega)).trans (hk3.same _ _ (Nat.le_refl _) hk2 rfl)⟩
      rintro e a3 W3 hp
      cases e with
      | normal =>
        obtain ⟨hk3, hkp3, hi3⟩ := hp
        obtain ⟨hr, hl3, hl4, hk4⟩ := fin none W3 hk3
        exact ⟨_, _, hr, .inl ⟨rfl, ⟨put _ hI hi3 (by omega) hl3 rfl, hl4, hk4⟩, hKt (hKt hw2 hkp3) (hKb _ _ _ _ (by omega) hl3 rfl rfl)⟩⟩
      | ret =>
        obtain ⟨hk3, hi3⟩ := hp
        obtain ⟨hr, hl3, hl4, hk4⟩ := fin (some .ret) W3 hk3
        exact ⟨_, _, hr, .inr ⟨rfl, .ret, put _ (hIx _) hi3 (by omega) hl3 rfl, hl4, hk4⟩⟩
      | exit id =>
        obtain ⟨hk3, hi3⟩ := hp
        obtain ⟨hr, hl3, hl4, hk4⟩ := fin (some (.exit id)) W3 hk3
        exact ⟨_, _, hr, .inr ⟨rfl, .exit id, put _ (hIx _) hi3 (by omega) hl3 rfl, hl4, hk4⟩⟩
      | goto t =>
        obtain ⟨hk3, hi3⟩ := hp
        obtain ⟨hr, hl3, hl4, hk4⟩ := fin (some (.goto t)) W3 hk3
        exact ⟨_, _, hr, .inr ⟨rfl, .goto t, put _ (hIx _) hi3 (by omega) hl3 rfl, hl4, hk4⟩⟩
      | panic ch => exact hp.elim
      | outgrown => exact hp.elim
    · rintro e W2 ⟨⟨v, rfl⟩, (⟨xs, hS, hi, hl, hk⟩ | ⟨pre, hSp, c, hi, hl, hk⟩)⟩
      · exact ⟨none, _, by have := run_endLoop (P := P) hl (by rw [hrc]; simp); rw [hrc] at this; exact this, hdone _ xs _ (Nat.le_refl _) hS (put _ hI hi (by omega) hl rfl) ((World.putObj_heap_other (by omega)).trans hk)⟩
      · exact ⟨some c, _, by have := run_endLoop (P := P) hl (by rw [hrc]; simp); rw [hrc] at this; exact this, hstop _ c pre _ (Nat.le_refl _) hSp (put _ (hIx c) hi (by omega) hl rfl) ((World.putObj_heap_other (by omega)).trans hk)⟩
end Go

namespace Go.Proofs.YtejhiekikblbiaaGreatDoor
open Go.RowKit Go.Shelf
attribute [local go_sem] Oper.semAt_some

/-- What the iterator hands. -/
def encI (x : List UInt8 × Bool) : Array Value := #[.string (ofL x.1), .bool x.2]
/-- The captured text. -/
def CapS (W : World) (b : Nat) (r : List UInt8) : Prop := W.heap[b]? = some (.cells #[.string (ofL r)] 9 (0, 0))
theorem CapS.cell {W : World} {b : Nat} {r : List UInt8} (h : CapS W b r) : W.cell? ⟨b, 0, none⟩ = some (.string (ofL r)) ∧ W.frozen? ⟨b, 0, none⟩ = false := by
  unfold CapS at h
  exact ⟨by rw [cell_of_row W b 0 _ _ _ h]; rfl, by simp [World.frozen?, h]⟩
theorem CapS.lt {W : World} {b : Nat} {r : List UInt8} (h : CapS W b r) : b < W.heap.size := (Array.getElem?_eq_some_iff.1 h).1
theorem CapS.put {W : World} {b : Nat} {r : List UInt8} (h : CapS W b r) (r' : List UInt8) : CapS (W.setCell ⟨b, 0, none⟩ (.string (ofL r'))) b r' := by
  unfold CapS
  rw [heap_setCell_same W b 0 _ _ _ h]
  rfl
def capLen (W : World) (b : Nat) : Nat := match W.cell? ⟨b, 0, none⟩ with | some (.string r) => r.size | _ => 0
theorem capLen_eq {W : World} {b : Nat} {r : List UInt8} (h : CapS W b r) : capLen W b = r.length := by
  unfold capLen; rw [h.cell.1]; simp [size_ofL]
theorem grownBy_setCell (W : World) (b j : Nat) (u : Value) : W.grownBy (W.setCell ⟨b, j, none⟩ u) (some b) :=
  ⟨rfl, rfl, rfl, by simp, fun k _ hk => heap_setCell_other W ⟨b, j, none⟩ k u (fun e => hk (by simp [e]))⟩

set_option maxRecDepth 100000 in
set_option maxHeartbeats 4000000 in
theorem cuts1_seq (F : Fence) (n : Nat) (hF : F.fn 121) (hro : F.round = none) (hn : 1 ≤ n) (b : Nat) (s : List UInt8) (hs : s.length ≤ 1000000) (w : World) (hb : CapS w b s) :
    SeqC F n Tryz.prog 121 #[.pointer (some ⟨b, 0, none⟩)] encI (fun r => r = b) (fun W W' => W'.heap[b]? = W.heap[b]?) (fun xs => xs = itemsL s) (fun pre => pre <+: itemsL s) (itemsL s).length w := by
  intro l J Jx W hW hJ hJx hY h0
  have hbW : CapS W b s := (hW.block b hb.lt).trans hb
  clear hb hW
  refine callsIn_of_wp Tryz.func121 rfl hF ?_ hro
  simp only [Tryz.ntmps121, List.size_toArray, List.length_cons, List.length_nil, Nat.reduceAdd, Nat.reduceSub, Array.replicate_succ, Array.replicate_zero, List.push_toArray, List.append_toArray, List.nil_append, List.cons_append]
  gi_wp2
  gi_loopw [] (fun wr => ∃ pre rest : List _, itemsL s = pre ++ itemsL rest ∧ rest.length ≤ 1000000 ∧ CapS wr b rest ∧ J pre wr) (fun wr => capLen wr b)
  case atStart => exact ⟨[], s, rfl, hs, hbW, h0⟩
  case round =>
    obtain ⟨pre, rest, hit, hrl, hcap, hJs⟩ := hrel
    have hsz : (ofL rest).size = rest.length := size_ofL _
    obtain ⟨hc, hf⟩ := hcap.cell
    by_cases h0 : rest.length = 0
    · have hi : itemsL s = pre := by rw [hit, itemsL_nil h0, List.append_nil]
      have HI := Lib.hid hi
      clear hi hit
      gi_wp2
      go_end0
      exact ⟨⟨_, rfl⟩, .inl ⟨pre, HI.out.symm, hJs⟩⟩
    · by_cases h8 : rest.length < 8
      · have hi : itemsL s = pre ++ [([], false)] := by rw [hit, itemsL_short (by omega) h8]
        have hlt : pre.length < (itemsL s).length := by rw [hi]; simp
        obtain ⟨fn, tmps, assign, body, hy, hR⟩ := hY pre ([], false) wr hJs hlt
        dsimp only [encI] at hy
        rw [show ofL [] = ⟨#[]⟩ from rfl] at hy
        have HI := Lib.hid hi
        clear hi hit hlt
        gi_wp2
        refine hR.mono ?_
        rintro e W3 (⟨rfl, hJ3, hk3⟩ | ⟨rfl, hJx3⟩)
        · gi_wp2
          refine bodyPost_ret (results_none rfl _ _ _) rfl ?_
          exact ⟨⟨_, rfl⟩, .inl ⟨pre ++ [([], false)], HI.out.symm, hJ3⟩⟩
        · gi_wp2
          refine bodyPost_ret (results_none rfl _ _ _) rfl ?_
          exact ⟨⟨_, rfl⟩, .inr ⟨pre ++ [([], false)], ⟨[], by rw [HI.out, List.append_nil]⟩, hJx3⟩⟩
      · gi_wp2
        gi_loop [13, 3] (fun i m => ∃ k : Nat, k ≤ 8 ∧ i = .int .i64 k ∧ m = .int .u64 ((beN (rest.take k) : Nat) : Int)) (fun i _ => 8 - (intOf i).toNat)
        case atStart => exact ⟨0, by omega, rfl, rfl⟩
        case round =>
          obtain ⟨k, hk, rfl, rfl⟩ := hrel
          by_cases hlt : k < 8
          · have hkr : k < rest.length := by omega
            obtain ⟨m, hm⟩ : ∃ m, beN (rest.take k) = m := ⟨_, rfl⟩
            have hm2 : beN (rest.take (k + 1)) = m * 256 + (rest[k]).toNat := by rw [List.take_succ_eq_append_getElem hkr, beN_snoc, hm]
            have hml : m < 72057594037927936 := by
              have h1 := beN_lt (rest.take k)
              rw [hm, List.length_take, Nat.min_eq_left (by omega)] at h1
              exact Nat.lt_of_lt_of_le h1 (Nat.pow_le_pow_right (n := 256) (by decide) (show k ≤ 7 by omega))
            have hb8 := (rest[k]).toNat_lt
            have hg : (ofL rest)[k]'(by rw [hsz]; exact hkr) = rest[k] := by rw [toL_get]; simp only [toL_ofL]
            obtain ⟨c, hcc⟩ : ∃ c, (rest[k]).toNat = c := ⟨_, rfl⟩
            rw [hcc] at hm2 hb8
            have e0 : ((ofL rest)[k]'(by rw [hsz]; exact hkr)).toNat = c := by rw [hg, hcc]
            have e1 : IntKind.u64.wrap ((m : Int) * 256) = (m : Int) * 256 := IntWalk.u64_in _ ⟨by omega, by omega⟩
            have e2 : IntKind.u64.wrap (c : Int) = (c : Int) := IntWalk.u64_in _ ⟨by omega, by omega⟩
            have e3 : bits .or .u64 ((m : Int) * 256) (c : Int) = (m : Int) * 256 + c := bits_join .u64 64 (by decide) (fun n h0 h1 => IntWalk.u64_in n ⟨h0, by omega⟩) 8 _ _ (by omega) (by omega) (by omega) (by omega) (by omega) (by omega)
            rw [hm]
            have HM := Lib.hid hm; have HM2 := Lib.hid hm2
            clear hm hm2 hg hcc
            gi_wp2
            go_round
            case rel => exact ⟨k + 1, by omega, by go_num, by rw [HM2.out]; go_num⟩
            case measure => simp [intOf]; omega
          · obtain ⟨N, hN⟩ : ∃ N, beN (rest.take 8) = N := ⟨_, rfl⟩
            obtain ⟨R, hR0⟩ : ∃ R, rest.drop 8 = R := ⟨_, rfl⟩
            have hk8 : beN (rest.take k) = N := by rw [← hN]; congr 2; omega
            have hNl : N < 18446744073709551616 := by
              have h1 := beN_lt (rest.take 8)
              rw [hN, List.length_take, Nat.min_eq_left (by omega)] at h1
              exact h1
            have hRl : R.length ≤ 1000000 := by rw [← hR0, List.length_drop]; omega
            have hRr : R.length + 8 ≤ rest.length := by rw [← hR0, List.length_drop]; omega
            have ex : (ofL rest).extract 8 rest.length = ofL R := by
              have := extract_from (ofL rest) 8
              rw [hsz, toL_ofL, hR0] at this
              exact this
            have hszR : (ofL R).size = R.length := size_ofL _
            have hcap2 := hcap.put R
            have hJ2 := hJ _ _ _ _ hJs (grownBy_setCell wr b 0 (.string (ofL R))) (fun r e => by cases e; rfl)
            have hc2 := hcap2.cell.1
            have hf2 := hcap2.cell.2
            rw [hk8]
            clear hJs
            by_cases hfar : R.length < N
            · have hi : itemsL s = pre ++ [([], false)] := by rw [hit, itemsL_far (by omega) (by rw [hR0, hN]; exact hfar)]
              have hlt : pre.length < (itemsL s).length := by rw [hi]; simp
              obtain ⟨fn, tmps, assign, body, hy, hR⟩ := hY pre ([], false) _ hJ2 hlt
              dsimp only [encI] at hy
              rw [show ofL [] = ⟨#[]⟩ from rfl] at hy
              have HI := Lib.hid hi
              clear hi hit hlt hN hR0 hk8
              gi_wp2
              refine hR.mono ?_
              rintro e W3 (⟨rfl, hJ3, hk3⟩ | ⟨rfl, hJx3⟩)
              · gi_wp2
                refine bodyPost_ret (results_none rfl _ _ _) rfl ?_
                exact ⟨⟨_, rfl⟩, .inl ⟨pre ++ [([], false)], HI.out.symm, hJ3⟩⟩
              · gi_wp2
                refine bodyPost_ret (results_none rfl _ _ _) rfl ?_
                exact ⟨⟨_, rfl⟩, .inr ⟨pre ++ [([], false)], ⟨[], by rw [HI.out, List.append_nil]⟩, hJx3⟩⟩
            · have hi : itemsL s = (pre ++ [(R.take N, true)]) ++ itemsL (R.drop N) := by
                rw [hit, itemsL_cons (by omega) (by rw [hR0, hN]; omega), hR0, hN, List.append_assoc]; rfl
              have hlt : pre.length < (itemsL s).length := by rw [hi]; simp
              obtain ⟨fn, tmps, assign, body, hy, hR⟩ := hY pre (R.take N, true) _ hJ2 hlt
              dsimp only [encI] at hy
              have exT : (ofL R).extract 0 N = ofL (R.take N) := by rw [extract_to, toL_ofL]
              have exD : (ofL R).extract N R.length = ofL (R.drop N) := by
                have := extract_from (ofL R) N
                rw [hszR, toL_ofL] at this
                exact this
              have HI := Lib.hid hi
              clear hi hit hlt hN hR0 hk8
              gi_wp2
              refine hR.mono ?_
              rintro e W3 (⟨rfl, hJ3, hk3⟩ | ⟨rfl, hJx3⟩)
              · have hcap3 : CapS W3 b R := hk3.trans hcap2
                have hc3 := hcap3.cell.1
                have hf3 := hcap3.cell.2
                have hcap4 := hcap3.put (R.drop N)
                have hJ4 := hJ _ _ _ _ hJ3 (grownBy_setCell W3 b 0 (.string (ofL (R.drop N)))) (fun r e => by cases e; rfl)
                gi_wp2
                go_roundw
                case rel => exact ⟨pre ++ [(R.take N, true)], R.drop N, HI.out, by rw [List.length_drop]; omega, hcap4, hJ4⟩
                case measure => rw [capLen_eq hcap4, capLen_eq hcap, List.length_drop]; omega
              · gi_wp2
                refine bodyPost_ret (results_none rfl _ _ _) rfl ?_
                exact ⟨⟨_, rfl⟩, .inr ⟨pre ++ [(R.take N, true)], ⟨_, HI.out.symm⟩, hJx3⟩⟩
end Go.Proofs.YtejhiekikblbiaaGreatDoor

namespace Go.Proofs.YtejhiekikblbiaaGreatDoor
open Go.RowKit Go.Shelf
attribute [local go_sem] Oper.semAt_some

theorem length_itemsF : ∀ (k : Nat) (s : List UInt8), (itemsF k s).length ≤ k
  | 0, _ => Nat.le_refl _
  | k + 1, s => by
    have ih := length_itemsF k
    simp only [itemsF]
    split
    · simp
    · split
      · simp
      · split
        · simp
        · simpa using ih _
theorem length_itemsL (s : List UInt8) : (itemsL s).length ≤ s.length := length_itemsF _ _

theorem cuts_any (s : ByteArray) (w : World) : Calls Tryz.prog 83 #[.string s] w fun e w' => e = .returned (.func (.func 121) #[] #[.pointer (some ⟨w.heap.size, 0, none⟩)]) ∧ w' = w.alloc (.cells #[.string s] 9) := by
  go_enter Tryz.func83, Tryz.ntmps83
  go_wp2
  go_ret
  exact ⟨rfl, rfl⟩

/-- A cell block kept. -/
theorem arr_kept {W W' : World} {row : Option Nat} {k : Nat} {t : TypeId} {xs : List Value} (h : Arr W k t xs) (hg : W.grownBy W' row) (hne : ∀ r, row = some r → r ≠ k) : Arr W' k t xs := grownBy_at hg h hne
theorem own_more {w : World} {base base' : Nat} {e : TypeId} {size n : Nat} {v : Value} {xs : List Value} (h : w.ownsRow base e size v n xs) (hb : base' ≤ base) : w.ownsRow base' e size v n xs := by
  refine ⟨h.1, ?_⟩
  rcases h.2 with hn | ⟨g, cap, cur, rfl, hb', rest⟩
  · exact .inl hn
  · exact .inr ⟨g, cap, cur, rfl, Nat.le_trans hb hb', rest⟩
theorem own_kept {W W' : World} {row : Option Nat} {base : Nat} {e : TypeId} {size n : Nat} {v : Value} {xs : List Value} (h : W.ownsRow base e size v n xs) (hg : W.grownBy W' row) (hr : ∀ r, row = some r → r < base ∨ ∃ o : Obj, W.heap[r]? = some o ∧ o.isCells = false) : W'.ownsRow base e size v n xs := by
  refine h.kept hg ?_
  rcases h.2 with ⟨rfl, _⟩ | ⟨g, cap, cur, rfl, hb, hgb, _⟩
  · exact .inl rfl
  · refine .inr fun e' => ?_
    have e2 : row = some g := by rw [← e']; rfl
    rcases hr g e2 with h1 | ⟨o, ho, hc⟩
    · omega
    · rw [hgb] at ho; cases ho; cases hc
theorem arr_cell0 {W : World} {k : Nat} {t : TypeId} {v : Value} (h : Arr W k t [v]) : W.cell? ⟨k, 0, none⟩ = some v ∧ W.frozen? ⟨k, 0, none⟩ = false := ⟨h.cell 0, h.frozen 0⟩
theorem arr_set0 {W : World} {k : Nat} {t : TypeId} {v : Value} (h : Arr W k t [v]) (u : Value) : Arr (W.setCell ⟨k, 0, none⟩ u) k t [u] := h.set 0 u
theorem own_sliceS {w : World} {base : Nat} {e : TypeId} {size n : Nat} {v : Value} {xs : List Value} (h : w.ownsRow base e size v n xs) : ∃ A c, v = .slice A n c := by
  rcases h.2 with ⟨rfl, h0⟩ | ⟨g, cap, cur, rfl, _⟩
  · exact ⟨none, 0, by rw [h0]⟩
  · exact ⟨_, _, rfl⟩
theorem own_ne {w : World} {base : Nat} {e : TypeId} {size n : Nat} {v : Value} {xs : List Value} (h : w.ownsRow base e size v n xs) {k : Nat} (hk : k < base) : v.ownBlock = none ∨ v.ownBlock ≠ some k :=
  .inr fun e => by have := (h.lt k e).1; omega
/-- Between two rounds. -/
def SpI (w : World) (pre : List (List UInt8 × Bool)) (W : World) : Prop :=
  (∀ x ∈ pre, x.2 = true) ∧ Ext w W ∧ Arr W w.heap.size 23 [.slice none 0 0] ∧ Arr W (w.heap.size + 1) 4 [.bool false] ∧
    ∃ v, Arr W (w.heap.size + 2) 23 [v] ∧ W.ownsRow (w.heap.size + 4) 9 1 v pre.length (pre.map fun x => Str x.1)
/-- A round has left. -/
def SpX (w : World) (c : Code) (pre : List (List UInt8 × Bool)) (W : World) : Prop :=
  c = .ret ∧ (∃ x ∈ pre, x.2 = false) ∧ Ext w W ∧ Arr W w.heap.size 23 [.slice none 0 0] ∧ Arr W (w.heap.size + 1) 4 [.bool false]
def SplitPost (w : World) (s : List UInt8) (e : Ending) (w' : World) : Prop :=
  (∀ l, splitL s = some l → ∃ v, e = .returned (.tuple #[v, .bool true]) ∧ w'.ownsRow w.heap.size 9 1 v l.length (l.map Str)) ∧
    (splitL s = none → e = .returned (.tuple #[.slice none 0 0, .bool false])) ∧ Ext w w'

set_option maxRecDepth 100000 in
set_option maxHeartbeats 4000000 in
theorem split_any (s : List UInt8) (w : World) (hs : s.length ≤ 1000000) : Calls Tryz.prog 40 #[.string (ofL s)] w (SplitPost w s) := by
  refine (callsIn_wide (n := 3)).1 ?_
  refine callsIn_of_wp_marks Tryz.func40 rfl trivial ?_ rfl
  simp only [Tryz.ntmps40, List.size_toArray, List.length_cons, List.length_nil, Nat.reduceAdd, Nat.reduceSub, Array.replicate_succ, Array.replicate_zero, List.push_toArray, List.append_toArray, List.nil_append, List.cons_append]
  gi_wp2_with (refine ⟨trivial, ?_⟩; gi_at_call 83; refine (callsIn_wide.2 (cuts_any _ _)).mono ?_; rintro e w' ⟨rfl, rfl⟩)
  have A0 := (((Arr.new w 23 [.slice none 0 0]).alloc (.cells #[.bool false] 4)).alloc (.cells #[.slice none 0 0] 23)).alloc (.cells #[.string (ofL s)] 9)
  have A1 := ((Arr.new (w.alloc (.cells #[.slice none 0 0] 23)) 4 [.bool false]).alloc (.cells #[.slice none 0 0] 23)).alloc (.cells #[.string (ofL s)] 9)
  have A2 := (Arr.new ((w.alloc (.cells #[.slice none 0 0] 23)).alloc (.cells #[.bool false] 4)) 23 [.slice none 0 0]).alloc (.cells #[.string (ofL s)] 9)
  have A3 : CapS ((((w.alloc (.cells #[.slice none 0 0] 23)).alloc (.cells #[.bool false] 4)).alloc (.cells #[.slice none 0 0] 23)).alloc (.cells #[.string (ofL s)] 9)) (((w.alloc (.cells #[.slice none 0 0] 23)).alloc (.cells #[.bool false] 4)).alloc (.cells #[.slice none 0 0] 23)).heap.size s := Arr.new (((w.alloc (.cells #[.slice none 0 0] 23)).alloc (.cells #[.bool false] 4)).alloc (.cells #[.slice none 0 0] 23)) 9 [.string (ofL s)]
  have E0 := ((((Ext.rfl' w).al (.cells #[.slice none 0 0] 23)).al (.cells #[.bool false] 4)).al (.cells #[.slice none 0 0] 23)).al (.cells #[.string (ofL s)] 9)
  have S0 : ((((w.alloc (.cells #[.slice none 0 0] 23)).alloc (.cells #[.bool false] 4)).alloc (.cells #[.slice none 0 0] 23)).alloc (.cells #[.string (ofL s)] 9)).heap.size = w.heap.size + 4 := by simp only [World.size_alloc]
  simp only [World.size_alloc, Nat.add_assoc, Nat.reduceAdd] at A0 A1 A2 A3 ⊢
  generalize (((w.alloc (.cells #[.slice none 0 0] 23)).alloc (.cells #[.bool false] 4)).alloc (.cells #[.slice none 0 0] 23)).alloc (.cells #[.string (ofL s)] 9) = W0 at *
  obtain ⟨i0, hi, hz0, hz1, hz2⟩ := Tryz.elemStr.hi
  refine wpIn_range_C (F := Fence.wide) (n := 3) rfl (by omega) (gf := 121) (lb := #[.pointer (some ⟨w.heap.size + 3, 0, none⟩)]) rfl trivial (enters_of Tryz.func121 (by kernel_rfl) rfl)
    (encs := encI) (C := fun r => r = w.heap.size + 3) (cuts1_seq Fence.wide (3 - 1) trivial rfl (by omega) (w.heap.size + 3) s hs W0 A3) (fun r e => by omega)
    (fun h1 h2 => h2.trans h1) (fun W l o o' hl _ _ _ => World.putObj_heap_other (by omega)) (Below.refl _ _) (fun _ => rfl)
    (SpI w) (SpX w) ?hI ?hIx ⟨by simp, E0, A0, A1, _, A2, World.ownsRow_nil _ _ _ _⟩
    (fun x => { tmps := #[.string (ofL s), undef, .pointer (some ⟨w.heap.size, 0, none⟩), .pointer (some ⟨w.heap.size + 1, 0, none⟩), .pointer (some ⟨w.heap.size + 2, 0, none⟩), .string (ofL x.1), .bool x.2, .string (ofL s), .func (.func 121) #[] #[.pointer (some ⟨w.heap.size + 3, 0, none⟩)], .string (ofL x.1), .bool x.2, undef, undef, undef, undef, undef, undef, undef], defers := [] }) ?assign ?body ?done ?stop
  case hI =>
    rintro pre A B row ⟨h1, h2, h3, h4, v, h5, h6⟩ hg hr
    have ne : ∀ k, k < w.heap.size + 3 → ∀ r, row = some r → r ≠ k := fun k hk r e => by rcases hr r e with h | ⟨h, _⟩ <;> omega
    refine ⟨h1, h2.grown hg h2.size (fun k e => by rcases hr k e with h | ⟨h, _⟩ <;> omega), arr_kept h3 hg (ne _ (by omega)), arr_kept h4 hg (ne _ (by omega)), v, arr_kept h5 hg (ne _ (by omega)), own_kept h6 hg fun r e => ?_⟩
    rcases hr r e with h | ⟨_, h⟩
    · exact .inl (by omega)
    · exact .inr h
  case hIx =>
    rintro c pre A B row ⟨h0, h1, h2, h3, h4⟩ hg hr
    have ne : ∀ k, k < w.heap.size + 3 → ∀ r, row = some r → r ≠ k := fun k hk r e => by rcases hr r e with h | ⟨h, _⟩ <;> omega
    exact ⟨h0, h1, h2.grown hg h2.size (fun k e => by rcases hr k e with h | ⟨h, _⟩ <;> omega), arr_kept h3 hg (ne _ (by omega)), arr_kept h4 hg (ne _ (by omega))⟩
  case assign =>
    intro l x W K hK
    simp only [encI]
    gi_wp2
    exact hK
  case body =>
    rintro l pre ⟨p, b⟩ W ⟨h1, h2, h3, h4, v, h5, h6⟩ hlen hsz
    have hlen2 := length_itemsL s
    cases b with
    | false =>
      obtain ⟨c3, f3⟩ := arr_cell0 h3
      obtain ⟨c4, f4⟩ := arr_cell0 h4
      gi_wp2
      refine ⟨((KeepsOthers.setCell _ _ _).trans (KeepsOthers.setCell _ _ _)).from _, rfl, ⟨(p, false), by simp, rfl⟩, (h2.st (p := ⟨w.heap.size, 0, none⟩) (Nat.le_refl _) _).st (p := ⟨w.heap.size + 1, 0, none⟩) (by simp) _, ?_, ?_⟩
      · exact (arr_set0 h3 _).other _ (by omega)
      · exact arr_set0 (h4.other _ (by omega)) _
    | true =>
      obtain ⟨c5, f5⟩ := arr_cell0 h5
      gi_wp2_with (gi_at_builtin; refine wpListIn_append_own _ rfl _ _ 23 rfl (w.heap.size + 4) 9 i0 (.string ⟨#[]⟩) 1 16 Tryz.underlying23 hi hz0 hz1 hz2 rfl (by decide) _ _ _ rfl (h6.alloc _) ⟨W.heap.size, 0, none⟩ 1 1 [.string (ofL p)] rfl rfl (cell_one_new _ _ _) (by simp [Value.oneCell']) (by unfold maxLen; omega) (by omega) (by simp; omega) ?_; intro v' w1 hown' hgrow _; obtain ⟨g', cap', rfl⟩ := ownsRow_succ hown'; replace hgrow : (W.alloc (.cells #[.string (ofL p)] 9)).grownBy w1 v.ownBlock := hgrow; have hge : ∀ r, v.ownBlock = some r → w.heap.size + 4 ≤ r := fun r e => (h6.lt r e).1; have b5 : Arr w1 (w.heap.size + 2) 23 [v] := arr_kept (h5.alloc _) hgrow (fun r e => by have := hge r e; omega); obtain ⟨c6, f6⟩ := arr_cell0 b5)
      have hB : Below (w.heap.size + 4) W w1 := ((Below.refl _ W).alloc (by omega) _).grown hgrow (by simp; omega) hge
      have b3 : Arr w1 w.heap.size 23 [.slice none 0 0] := h3.ext hB (by omega)
      have b4 : Arr w1 (w.heap.size + 1) 4 [.bool false] := h4.ext hB (by omega)
      have hlt' := hown'.lt g' rfl
      refine ⟨((KeepsOthers.alloc W _).trans ((KeepsOthers.of_grownBy hgrow fun j o ej hj => ?_).trans (KeepsOthers.setCell _ _ _))).from _, (heap_setCell_other w1 ⟨w.heap.size + 2, 0, none⟩ (w.heap.size + 3) _ (by simp)).trans (hB.block _ (by omega)), ?_, ?_, b3.other _ (by omega), b4.other _ (by omega), _, arr_set0 b5 _, ?_⟩
      · rcases (h6.alloc (.cells #[.string (ofL p)] 9)).2 with ⟨rfl, _⟩ | ⟨g, cap, cur, rfl, _, hgb, _⟩
        · simp [Value.ownBlock] at ej
        · obtain rfl : g = j := by simpa [Value.ownBlock] using ej
          rw [hgb] at hj; cases hj; rfl
      · intro x hx
        rcases List.mem_append.1 hx with hx | hx
        · exact h1 x hx
        · simp at hx; rw [hx]
      · exact ((h2.al _).grown hgrow (by simp; omega) (fun k e => by have := hge k e; omega)).setCell (p := ⟨w.heap.size + 2, 0, none⟩) (by simp) _
      · have := hown'.kept (row := some (w.heap.size + 2)) (grownBy_setCell w1 (w.heap.size + 2) 0 (.slice (some ⟨g', 0, none⟩) (pre.length + 1) cap')) (.inr (by simp [Value.ownBlock]; omega))
        simpa [Str] using this
  case done =>
    rintro D xs W hD rfl ⟨h1, h2, h3, h4, v, h5, h6⟩ hK
    obtain ⟨A, c, rfl⟩ := own_sliceS h6
    obtain ⟨c3, f3⟩ := arr_cell0 h3
    obtain ⟨c4, f4⟩ := arr_cell0 h4
    obtain ⟨c5, f5⟩ := arr_cell0 h5
    have hsp : splitL s = some ((itemsL s).map (·.1)) := splitOf_good _ h1
    have HS := Lib.hid hsp; clear hsp
    obtain ⟨k, hk⟩ : ∃ k, (itemsL s).length = k := ⟨_, rfl⟩
    rw [hk] at h5 h6 c5
    have HKL := Lib.hid hk; clear hk
    gi_wp2
    have b3 : Arr ((W.setCell ⟨w.heap.size, 0, none⟩ (.slice A k c)).setCell ⟨w.heap.size + 1, 0, none⟩ (.bool true)) w.heap.size 23 [.slice A k c] := (arr_set0 h3 _).other _ (by omega)
    have b4 : Arr ((W.setCell ⟨w.heap.size, 0, none⟩ (.slice A k c)).setCell ⟨w.heap.size + 1, 0, none⟩ (.bool true)) (w.heap.size + 1) 4 [.bool true] := arr_set0 (h4.other _ (by omega)) _
    have hK' : ((W.setCell ⟨w.heap.size, 0, none⟩ (.slice A k c)).setCell ⟨w.heap.size + 1, 0, none⟩ (.bool true)).heap[D]? = some (.deferred (some [])) :=
      (heap_setCell_other _ ⟨w.heap.size + 1, 0, none⟩ D _ (by simp; omega)).trans ((heap_setCell_other _ ⟨w.heap.size, 0, none⟩ D _ (by simp; omega)).trans hK)
    refine ⟨by simp, .inl ⟨_, _, rfl, run_takeDeferred hK', ?_⟩⟩
    have d3 : Arr (((W.setCell ⟨w.heap.size, 0, none⟩ (.slice A k c)).setCell ⟨w.heap.size + 1, 0, none⟩ (.bool true)).putObj D (.deferred none)) w.heap.size 23 [.slice A k c] := (World.putObj_heap_other (by omega)).trans b3
    have d4 : Arr (((W.setCell ⟨w.heap.size, 0, none⟩ (.slice A k c)).setCell ⟨w.heap.size + 1, 0, none⟩ (.bool true)).putObj D (.deferred none)) (w.heap.size + 1) 4 [.bool true] := (World.putObj_heap_other (by omega)).trans b4
    have e3 := (arr_cell0 d3).1
    have e4 := (arr_cell0 d4).1
    refine ⟨.tuple #[.slice A k c, .bool true], by simp [results, Tryz.f40, go_sem, e3, e4], ?_, fun hn => ?_, ?_⟩
    · intro l hl
      rw [HS.out] at hl
      cases hl
      refine ⟨_, rfl, ?_⟩
      have q := ((h6.kept (grownBy_setCell W w.heap.size 0 (.slice A k c)) (own_ne h6 (by omega))).kept (grownBy_setCell _ (w.heap.size + 1) 0 (.bool true)) (own_ne h6 (by omega)))
      have q2 := ownsRow_putObj q (.deferred none) hK' rfl
      refine own_eq (own_more q2 (by omega)) ?_ (by rw [List.length_map, HKL.out])
      rw [List.map_map]; rfl
    · rw [HS.out] at hn; cases hn
    · exact ((h2.st (p := ⟨w.heap.size, 0, none⟩) (Nat.le_refl _) _).st (p := ⟨w.heap.size + 1, 0, none⟩) (by simp) _).grown (grownBy_putObj' _ D _) (by have := h2.size; simp; omega) (fun r e => by cases e; omega)
  case stop =>
    rintro D c pre W hD ⟨more, hpre⟩ ⟨rfl, ⟨x, hx, hxf⟩, h2, h3, h4⟩ hK
    have hsp : splitL s = none := splitOf_bad _ ⟨x, by rw [← hpre]; simp [hx], hxf⟩
    have HS := Lib.hid hsp; clear hsp hpre
    gi_wp2
    refine ⟨by simp, .inl ⟨_, _, rfl, run_takeDeferred hK, ?_⟩⟩
    have d3 : Arr (W.putObj D (.deferred none)) w.heap.size 23 [.slice none 0 0] := (World.putObj_heap_other (by omega)).trans h3
    have d4 : Arr (W.putObj D (.deferred none)) (w.heap.size + 1) 4 [.bool false] := (World.putObj_heap_other (by omega)).trans h4
    have e3 := (arr_cell0 d3).1
    have e4 := (arr_cell0 d4).1
    refine ⟨.tuple #[.slice none 0 0, .bool false], by simp [results, Tryz.f40, go_sem, e3, e4], ?_, fun hn => rfl, ?_⟩
    · intro l hl
      rw [HS.out] at hl; cases hl
    · exact h2.grown (grownBy_putObj' _ D _) h2.size (fun r e => by cases e; omega)
end Go.Proofs.YtejhiekikblbiaaGreatDoor
