/-
  The functions of package octet and of its reference return the named plain functions of their arguments. Condition: the strings are at most 1000000 bytes long where a contract says so.
-/
import Derived.Test.YtmnpbpfeoackiaaDoorRows
import Derived.Test.YtmnpbpfeoackiaaDoorOctPlain
import Derived.Test.YtmnpbpfeoackiaaDoorShelf
namespace Go.Proofs.YtmnpbpfeoackiaaDoor
open Go.RowKit

theorem Tryd.elemU8 : Elem Tryd.prog 56 5 (.int .u8 0) 1 1 :=
  ⟨Tryd.underlying56, info_parts (by kernel_rfl), rfl, by decide⟩
theorem Tryd.elemStr : Elem Tryd.prog 53 9 (.string ⟨#[]⟩) 1 16 :=
  ⟨Tryd.underlying53, info_parts (by kernel_rfl), rfl, by decide⟩
theorem Tryd.str {w : World} {base : Nat} {v : Value} {n : Nat} {l : List UInt8} (hown : w.ownsRow base 5 1 v n (l.map U8)) : (convert 56 9 v).run Tryd.prog w = .ok (.string (ofL l)) w :=
  run_str_own _ _ _ Tryd.underlying56 Tryd.underlying5 Tryd.underlying9 hown
theorem Tryd.str1 (w : World) (n : Int) : (convert 56 9 (.slice (some ⟨w.heap.size, 0, none⟩) 1 1)).run Tryd.prog (w.alloc (.cells #[.int .u8 (n % 256)] 5)) = .ok (.string (ofL [byteOf n])) (w.alloc (.cells #[.int .u8 (n % 256)] 5)) :=
  Tryd.str (base := 0) (n := 1) (by rw [List.map_cons, U8_byteOf]; exact World.ownsRow_lit w _ 1 (Nat.zero_le _) (by decide) rfl)

set_option maxHeartbeats 400000 in
theorem rbyte_any (n : Int) (w : World) :
    Calls Tryd.prog 50 #[.int .i64 n] w fun e w' => e = .returned (.string (ofL [byteOf n])) ∧ Ext w w' := by
  have hs := Tryd.str1 w n
  go_enter Tryd.func50, Tryd.ntmps50
  go_wp2
  go_ret
  exact ⟨rfl, (Ext.rfl' _).al _⟩








end Go.Proofs.YtmnpbpfeoackiaaDoor
