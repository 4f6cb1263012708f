/-
  Package frame and its reference: a mark's bytes, the number that bytes tell. Condition: the mark is from 0 on; eight bytes.
-/
import Derived.Test.YtjpcedgonjmchaaOct
import Derived.Test.YtjpcedgonjmchaaVarPlain
import Derived.Test.YtjpcedgonjmchaaFramePlain
import Derived.Deep.DeepCutAuto
namespace Go.Proofs.Ytjpcedgonjmchaa
open Go.RowKit

theorem or_step (n b k : Nat) (hn : n < 256 ^ k) (hb : b < 256) (hk : k < 8) : bits .or .u64 (n : Int) (IntKind.u64.wrap (IntKind.u64.wrap (b : Int) * ((256 ^ k : Nat) : Int))) = ((n + 256 ^ k * b : Nat) : Int) := by
  have hp : 256 ^ k * 256 ≤ 18446744073709551616 := by
    have : 256 ^ k ≤ 256 ^ 7 := Nat.pow_le_pow_right (by omega) (by omega)
    omega
  have h1 : b * 256 ^ k < 18446744073709551616 := by
    have : b * 256 ^ k ≤ 255 * 256 ^ k := Nat.mul_le_mul_right _ (by omega)
    omega
  rw [U64.wrap (show U64 b from by show _ < _; omega), show ((b : Int) * ((256 ^ k : Nat) : Int)) = ((b * 256 ^ k : Nat) : Int) from (Int.natCast_mul _ _).symm, U64.wrap h1, u64_or_nat _ _ (by omega) h1]
  congr 1
  rw [show 256 ^ k = 2 ^ (8 * k) by rw [show (256 : Nat) = 2 ^ 8 by decide, ← Nat.pow_mul]] at hn ⊢
  rw [Nat.or_comm, Nat.mul_comm, ← Nat.two_pow_add_eq_or_of_lt hn]
  omega

theorem U8_byte (n : Nat) : U8 (n % 256).toUInt8 = .int .u8 ((n : Int) % 256) := by
  unfold U8; congr 1; rw [UInt8.toNat_ofNat']; omega

set_option maxRecDepth 100000 in
set_option maxHeartbeats 2000000 in
theorem mark_any (n : Nat) (w : World) (hn : n < 9223372036854775808) :
    Calls Try.prog 42 #[.int .i64 n] w fun e w' => e = .returned (.string (ofL (leN 8 n))) ∧ Ext w w' := by
  have hs : ∀ (W : World) (b : Nat), (∀ j u, ((leN 8 n).map U8)[j]? = some u → W.cell? ((⟨b, 0, none⟩ : Addr).add j) = some u) → (convert 47 9 (.slice (some ⟨b, 0, none⟩) 8 8)).run Try.prog W = .ok (.string (ofL (leN 8 n))) W := fun W b hb =>
    run_str_cells W _ _ _ Try.underlying47 Try.underlying5 Try.underlying9 ⟨b, 0, none⟩ 8 8 (leN 8 n) (length_leN 8 n) hb
  have hl : (leN 8 n).map U8 = [.int .u8 ((n : Int) % 256), .int .u8 ((n : Int) / 256 % 256), .int .u8 ((n : Int) / 65536 % 256), .int .u8 ((n : Int) / 16777216 % 256), .int .u8 ((n : Int) / 4294967296 % 256), .int .u8 ((n : Int) / 1099511627776 % 256), .int .u8 ((n : Int) / 281474976710656 % 256), .int .u8 ((n : Int) / 72057594037927936)] := by
    have e : leN 8 n = [(n % 256).toUInt8, (n / 256 % 256).toUInt8, (n / 256 / 256 % 256).toUInt8, (n / 256 / 256 / 256 % 256).toUInt8, (n / 256 / 256 / 256 / 256 % 256).toUInt8, (n / 256 / 256 / 256 / 256 / 256 % 256).toUInt8, (n / 256 / 256 / 256 / 256 / 256 / 256 % 256).toUInt8, (n / 256 / 256 / 256 / 256 / 256 / 256 / 256 % 256).toUInt8] := rfl
    rw [e]
    simp only [List.map_cons, List.map_nil, U8_byte]
    have q : ∀ a b : Int, a = b → Value.int IntKind.u8 a = .int .u8 b := fun a b h => by rw [h]
    rw [q _ _ (show ((n / 256 : Nat) : Int) % 256 = (n : Int) / 256 % 256 by omega), q _ _ (show ((n / 256 / 256 : Nat) : Int) % 256 = (n : Int) / 65536 % 256 by omega), q _ _ (show ((n / 256 / 256 / 256 : Nat) : Int) % 256 = (n : Int) / 16777216 % 256 by omega), q _ _ (show ((n / 256 / 256 / 256 / 256 : Nat) : Int) % 256 = (n : Int) / 4294967296 % 256 by omega), q _ _ (show ((n / 256 / 256 / 256 / 256 / 256 : Nat) : Int) % 256 = (n : Int) / 1099511627776 % 256 by omega), q _ _ (show ((n / 256 / 256 / 256 / 256 / 256 / 256 : Nat) : Int) % 256 = (n : Int) / 281474976710656 % 256 by omega), q _ _ (show ((n / 256 / 256 / 256 / 256 / 256 / 256 / 256 : Nat) : Int) % 256 = (n : Int) / 72057594037927936 by omega)]
  have hw : ∀ j u, ((leN 8 n).map U8)[j]? = some u → (w.alloc (.cells #[.int .u8 ((n : Int) % 256), .int .u8 ((n : Int) / 256 % 256), .int .u8 ((n : Int) / 65536 % 256), .int .u8 ((n : Int) / 16777216 % 256), .int .u8 ((n : Int) / 4294967296 % 256), .int .u8 ((n : Int) / 1099511627776 % 256), .int .u8 ((n : Int) / 281474976710656 % 256), .int .u8 ((n : Int) / 72057594037927936)] 93)).cell? ((⟨w.heap.size, 0, none⟩ : Addr).add j) = some u := by
    intro j u hu
    rw [hl] at hu
    rw [WideShapes.add_plain]
    refine (cell_of_row _ w.heap.size _ _ _ _ (heap_alloc_new w _)).trans ?_
    rw [Nat.zero_add]
    simpa using hu
  have hs' := hs _ _ hw
  clear hs hl hw
  go_enter Try.func42, Try.ntmps42
  go_wp2
  refine wp_loop_rounds 9 ?_
  rw [rounds_succ]
  go_wp2
  rw [rounds_succ]
  go_wp2
  rw [rounds_succ]
  go_wp2
  rw [rounds_succ]
  go_wp2
  rw [rounds_succ]
  go_wp2
  rw [rounds_succ]
  go_wp2
  rw [rounds_succ]
  go_wp2
  rw [rounds_succ]
  go_wp2
  rw [rounds_succ]
  go_wp2
  go_ret
  exact ⟨rfl, (Ext.rfl' _).al _⟩

end Go.Proofs.Ytjpcedgonjmchaa
