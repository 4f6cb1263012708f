/-
  The functions of package octet and of its reference return the named plain functions of their arguments. Condition: the strings are at most 1000000 bytes long where a contract says so.
-/
import Derived.Test.YtjpcedgonjmchaaRows
import Derived.Test.YtjpcedgonjmchaaOctPlain
import Derived.Test.YtjpcedgonjmchaaShelf
namespace Go.Proofs.Ytjpcedgonjmchaa
open Go.RowKit

theorem Try.elemU8 : Elem Try.prog 47 5 (.int .u8 0) 1 1 :=
  ⟨Try.underlying47, info_parts (by kernel_rfl), rfl, by decide⟩
theorem Try.elemStr : Elem Try.prog 73 9 (.string ⟨#[]⟩) 1 16 :=
  ⟨Try.underlying73, info_parts (by kernel_rfl), rfl, by decide⟩
theorem Try.str {w : World} {base : Nat} {v : Value} {n : Nat} {l : List UInt8} (hown : w.ownsRow base 5 1 v n (l.map U8)) : (convert 47 9 v).run Try.prog w = .ok (.string (ofL l)) w :=
  run_str_own _ _ _ Try.underlying47 Try.underlying5 Try.underlying9 hown
theorem Try.str1 (w : World) (n : Int) : (convert 47 9 (.slice (some ⟨w.heap.size, 0, none⟩) 1 1)).run Try.prog (w.alloc (.cells #[.int .u8 (n % 256)] 5)) = .ok (.string (ofL [byteOf n])) (w.alloc (.cells #[.int .u8 (n % 256)] 5)) :=
  Try.str (base := 0) (n := 1) (by rw [List.map_cons, U8_byteOf]; exact World.ownsRow_lit w _ 1 (Nat.zero_le _) (by decide) rfl)

set_option maxHeartbeats 400000 in
theorem rbyte_any (n : Int) (w : World) :
    Calls Try.prog 27 #[.int .i64 n] w fun e w' => e = .returned (.string (ofL [byteOf n])) ∧ Ext w w' := by
  have hs := Try.str1 w n
  go_enter Try.func27, Try.ntmps27
  go_wp2
  go_ret
  exact ⟨rfl, (Ext.rfl' _).al _⟩








end Go.Proofs.Ytjpcedgonjmchaa
