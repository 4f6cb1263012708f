/-
  Package sha's reference: the constants out of cube roots: products digit by digit. Condition: digits below 2 to the 32.
-/
import Derived.Test.YteclfeeeaokddaaDoorSha18
namespace Go.Proofs.YteclfeeeaokddaaDoor
open Go.RowKit

def tstep (d : List Nat) (lo hi : Nat) (out : List Nat) (i : Nat) : List Nat := putL (putL out i (d.getD i 0 * lo)) (i + 1) (d.getD i 0 * hi)
def tgo (d : List Nat) (lo hi : Nat) : Nat → List Nat
  | 0 => List.replicate (d.length + 3) 0
  | i + 1 => tstep d lo hi (tgo d lo hi i) i
def timesL (d : List Nat) (n : Nat) : List Nat := tgo d (n % 4294967296) (n / 4294967296) d.length
theorem length_tgo (d : List Nat) (lo hi : Nat) : ∀ i, (tgo d lo hi i).length = d.length + 3
  | 0 => by simp [tgo]
  | i + 1 => by unfold tgo tstep; rw [length_putL, length_putL, length_tgo d lo hi i]
theorem dig_tgo (d : List Nat) (lo hi : Nat) : ∀ i, Dig (tgo d lo hi i)
  | 0 => by intro x hx; unfold tgo at hx; rw [List.eq_of_mem_replicate hx]; decide
  | i + 1 => by unfold tgo tstep; exact dig_putL (dig_putL (dig_tgo d lo hi i) _ _) _ _
theorem length_timesL (d : List Nat) (n : Nat) : (timesL d n).length = d.length + 3 := length_tgo _ _ _ _
theorem dig_timesL (d : List Nat) (n : Nat) : Dig (timesL d n) := dig_tgo _ _ _ _
theorem mul_lt64 (x y : Nat) (hx : x < 4294967296) (hy : y < 4294967296) : x * y < 18446744073709551616 := by
  have h := Nat.mul_lt_mul'' hx hy
  exact Nat.lt_of_lt_of_eq h (by decide)

set_option maxRecDepth 100000 in
set_option maxHeartbeats 2000000 in
theorem times_any (d : List Nat) (n : Nat) (v : Value) (w : World) (hv : Rd w w.heap.size 1 v d.length (d.map V64)) (hd : Dig d) (hl : d.length ≤ 100) (hn : n < 18446744073709551616) :
    Calls Tryd.prog 36 #[v, V64 n] w (RetOwn w 49 1 (d.length + 3) ((timesL d n).map V64)) := by
  obtain ⟨A, c, rfl, _, _, hcell⟩ := hv
  have HC := Kp.mk hcell; clear hcell
  obtain ⟨lo, hlo⟩ : ∃ lo, n % 4294967296 = lo := ⟨_, rfl⟩
  obtain ⟨hi, hhi⟩ : ∃ hi, n / 4294967296 = hi := ⟨_, rfl⟩
  have loB : lo < 4294967296 := by rw [← hlo]; exact Nat.mod_lt _ (by decide)
  have hiB : hi < 4294967296 := by rw [← hhi]; exact Nat.div_lt_of_lt_mul hn
  have e1 : (n : Int) % 4294967296 = lo := by omega
  have e2 : (n : Int) / 4294967296 = hi := by omega
  have hT : timesL d n = tgo d lo hi d.length := by unfold timesL; rw [hlo, hhi]
  rw [hT]
  clear hT hlo hhi hn
  go_enter Tryd.func36, Tryd.ntmps36
  go_wp2_with (at_make; refine wpl_make Tryd.elemU64 rfl _ rfl _ _ rfl (d.length + 3) rfl rfl (by omega) (by omega) (by omega) (by omega) ?_)
  intro w1 hown hE
  go_wp2
  clear e1 e2
  go_loopw [8] (fun x8 wr => ∃ i : Nat, ∃ out : List Nat, i ≤ d.length ∧ x8 = .int .i64 i ∧ tgo d lo hi i = out ∧ Ext w wr ∧ wr.ownsRow w.heap.size 49 1 (.slice (some ⟨w.heap.size, 0, none⟩) (d.length + 3) (d.length + 3)) (d.length + 3) (out.map V64)) (fun x8 _ => d.length - (intOf x8).toNat)
  case atStart =>
    refine ⟨0, List.replicate (d.length + 3) 0, by omega, rfl, rfl, hE, ?_⟩
    rw [List.map_replicate]
    exact hown
  case round =>
    clear hown hE
    obtain ⟨i, out, hi1, rfl, ho, hE, hown⟩ := hrel
    have hol : out.length = d.length + 3 := by rw [← ho, length_tgo]
    have hod : Dig out := by rw [← ho]; exact dig_tgo _ _ _ _
    have HO := Kp.mk ho; clear ho
    by_cases hlt : i < d.length
    · obtain ⟨b, off, rfl, hb, hcc⟩ := HC.out (by omega)
      obtain ⟨x, hx⟩ : ∃ x, d.getD i 0 = x := ⟨_, rfl⟩
      have hxe : d[i] = x := by rw [← hx, List.getD_eq_getElem?_getD, List.getElem?_eq_getElem hlt]; rfl
      have hxB : x < 4294967296 := by rw [← hxe]; exact hd _ (List.getElem_mem _)
      have ce := hcc i (V64 x) (by rw [List.getElem?_map, List.getElem?_eq_getElem hlt, hxe]; rfl)
      have c1 := ((bcell hE).1 b (off + i) hb).trans ce
      obtain ⟨m1, hm1⟩ : ∃ m1, x * lo = m1 := ⟨_, rfl⟩
      obtain ⟨m2, hm2⟩ : ∃ m2, x * hi = m2 := ⟨_, rfl⟩
      have m1B := mul_lt64 x lo hxB loB
      have m2B := mul_lt64 x hi hxB hiB
      rw [hm1] at m1B; rw [hm2] at m2B
      have M1 : IntKind.u64.wrap ((x : Int) * lo) = m1 := by rw [← hm1, IntKind.wrap_u64, ← Int.natCast_mul]; omega
      have M2 : IntKind.u64.wrap ((x : Int) * hi) = m2 := by rw [← hm2, IntKind.wrap_u64, ← Int.natCast_mul]; omega
      have P1 := Kp.mk (put_any w.heap.size (d.length + 3) (d.length + 3) w.heap.size i m1 out wr hown hod (by omega) (by omega) m1B)
      have hstep : tgo d lo hi (i + 1) = putL (putL out i m1) (i + 1) m2 := by
        show tstep d lo hi (tgo d lo hi i) i = _
        unfold tstep
        rw [HO.out, hx, hm1, hm2]
      have HST := Kp.mk hstep
      clear hstep hm1 hm2 hx hxe HO
      go_wp2_with fail
      refine P1.out.mono ?_
      rintro e w2 ⟨rfl, hown2, hB2⟩
      have hE2 : Ext w w2 := hE.trans hB2
      have c2 := ((bcell hE2).1 b (off + i) hb).trans ce
      have P2 := Kp.mk (put_any w.heap.size (d.length + 3) (d.length + 3) w.heap.size (i + 1) m2 (putL out i m1) w2 hown2 (dig_putL hod _ _) (by omega) (by omega) m2B)
      clear P1 hown hB2 hE c1
      go_wp2_with fail
      refine P2.out.mono ?_
      rintro e w3 ⟨rfl, hown3, hB3⟩
      have hE3 : Ext w w3 := hE2.trans hB3
      clear P2 hown2 hB3 hE2 c2
      go_wp2
      go_roundw
      case rel => exact ⟨i + 1, _, by omega, by go_num, HST.out, hE3, hown3⟩
      case measure => simp [intOf]; omega
    · obtain rfl : i = d.length := by omega
      have h := HO.out
      subst h
      go_wp2
      go_ret
      exact ⟨_, rfl, hown, hE⟩

/-! ### is a number's cube at most p times 2 to the 96? -/
def belowB (n p : Nat) : Bool :=
  let c := timesL (timesL [n % 4294967296, n / 4294967296] n) n
  !(decide (c.getD 7 0 + c.getD 6 0 + c.getD 5 0 + c.getD 4 0 > 0) || decide (p < c.getD 3 0)) && (decide (c.getD 3 0 < p) || (decide (c.getD 0 0 = 0) && decide (c.getD 1 0 = 0) && decide (c.getD 2 0 = 0)))
def rootGo (p : Nat) : Nat → Nat → Nat
  | 0, k => k
  | b + 1, k => rootGo p b (if belowB (k + 2 ^ b) p then k + 2 ^ b else k)
def rootL (p : Nat) : Nat := rootGo p 36 0 % 4294967296
def primeB (p : Nat) : Bool := (List.range (p - 2)).all fun d => p % (d + 2) != 0
def constGo : Nat → Nat → List Nat → List Nat
  | 0, _, acc => acc
  | f + 1, p, acc => if acc.length < 64 then constGo f (p + 1) (if primeB p then acc ++ [rootL p] else acc) else acc
set_option maxRecDepth 100000 in
theorem const_tab : constGo 398 2 [] = kTab.map fun x => x.toNat := by decide +kernel
end Go.Proofs.YteclfeeeaokddaaDoor
