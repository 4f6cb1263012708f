/-
  SHA-256 in plain words over lists: what is added behind, the schedule of a block, a step, a sum. No program in sight.
-/
import Derived.Test.YtmnpbpfeoackiaaDoorBase
namespace Go.Proofs.YtmnpbpfeoackiaaDoor
open Go.RowKit

/-- Turned right. -/
def rotr (x : UInt32) (n : Nat) : UInt32 := (x >>> n.toUInt32) ||| (x <<< (32 - n).toUInt32)
def ssg0 (x : UInt32) : UInt32 := rotr x 7 ^^^ rotr x 18 ^^^ (x >>> 3)
def ssg1 (x : UInt32) : UInt32 := rotr x 17 ^^^ rotr x 19 ^^^ (x >>> 10)
def bsg0 (x : UInt32) : UInt32 := rotr x 2 ^^^ rotr x 13 ^^^ rotr x 22
def bsg1 (x : UInt32) : UInt32 := rotr x 6 ^^^ rotr x 11 ^^^ rotr x 25
/-- Four bytes as a word, the highest first. -/
def word4 (l : List UInt8) : UInt32 := ((l.getD 0 0).toUInt32 <<< 24) ||| ((l.getD 1 0).toUInt32 <<< 16) ||| ((l.getD 2 0).toUInt32 <<< 8) ||| (l.getD 3 0).toUInt32
/-- The next word of a schedule. -/
def nextW (w : List UInt32) : UInt32 := ssg1 (w.getD (w.length - 2) 0) + w.getD (w.length - 7) 0 + ssg0 (w.getD (w.length - 15) 0) + w.getD (w.length - 16) 0
def firstW (b : List UInt8) : List UInt32 := (List.range 16).map fun t => word4 (b.drop (4 * t))
def moreW : Nat → List UInt32 → List UInt32
  | 0, w => w
  | n + 1, w => moreW n (w ++ [nextW w])
def schedL (b : List UInt8) : List UInt32 := moreW 48 (firstW b)

structure St where
  a : UInt32
  b : UInt32
  c : UInt32
  d : UInt32
  e : UInt32
  f : UInt32
  g : UInt32
  h : UInt32
deriving DecidableEq
def roundS (v : St) (k w : UInt32) : St :=
  let t1 := v.h + bsg1 v.e + ((v.e &&& v.f) ^^^ (~~~v.e &&& v.g)) + k + w
  let t2 := bsg0 v.a + ((v.a &&& v.b) ^^^ (v.a &&& v.c) ^^^ (v.b &&& v.c))
  ⟨t1 + t2, v.a, v.b, v.c, v.d + t1, v.e, v.f, v.g⟩
def kTab : List UInt32 := [
  0x428a2f98, 0x71374491, 0xb5c0fbcf, 0xe9b5dba5, 0x3956c25b, 0x59f111f1, 0x923f82a4, 0xab1c5ed5,
  0xd807aa98, 0x12835b01, 0x243185be, 0x550c7dc3, 0x72be5d74, 0x80deb1fe, 0x9bdc06a7, 0xc19bf174,
  0xe49b69c1, 0xefbe4786, 0x0fc19dc6, 0x240ca1cc, 0x2de92c6f, 0x4a7484aa, 0x5cb0a9dc, 0x76f988da,
  0x983e5152, 0xa831c66d, 0xb00327c8, 0xbf597fc7, 0xc6e00bf3, 0xd5a79147, 0x06ca6351, 0x14292967,
  0x27b70a85, 0x2e1b2138, 0x4d2c6dfc, 0x53380d13, 0x650a7354, 0x766a0abb, 0x81c2c92e, 0x92722c85,
  0xa2bfe8a1, 0xa81a664b, 0xc24b8b70, 0xc76c51a3, 0xd192e819, 0xd6990624, 0xf40e3585, 0x106aa070,
  0x19a4c116, 0x1e376c08, 0x2748774c, 0x34b0bcb5, 0x391c0cb3, 0x4ed8aa4a, 0x5b9cca4f, 0x682e6ff3,
  0x748f82ee, 0x78a5636f, 0x84c87814, 0x8cc70208, 0x90befffa, 0xa4506ceb, 0xbef9a3f7, 0xc67178f2]
/-- Over the first n rounds. -/
def roundsS (w : List UInt32) (v : St) : Nat → St
  | 0 => v
  | n + 1 => roundS (roundsS w v n) (kTab.getD n 0) (w.getD n 0)
def addS (v u : St) : St := ⟨v.a + u.a, v.b + u.b, v.c + u.c, v.d + u.d, v.e + u.e, v.f + u.f, v.g + u.g, v.h + u.h⟩
def stepS (v : St) (b : List UInt8) : St := if b.length ≠ 64 then v else addS v (roundsS (schedL b) v 64)
def initS : St := ⟨0x6a09e667, 0xbb67ae85, 0x3c6ef372, 0xa54ff53a, 0x510e527f, 0x9b05688c, 0x1f83d9ab, 0x5be0cd19⟩
def tell4 (x : UInt32) : List UInt8 := [(x >>> 24).toUInt8, (x >>> 16).toUInt8, (x >>> 8).toUInt8, x.toUInt8]
def tellS (v : St) : List UInt8 := tell4 v.a ++ (tell4 v.b ++ (tell4 v.c ++ (tell4 v.d ++ (tell4 v.e ++ (tell4 v.f ++ (tell4 v.g ++ tell4 v.h))))))
/-- Eight bytes of a number, the highest first. -/
def be8 (n : Nat) : List UInt8 := [(n / 72057594037927936 % 256).toUInt8, (n / 281474976710656 % 256).toUInt8, (n / 1099511627776 % 256).toUInt8, (n / 4294967296 % 256).toUInt8, (n / 16777216 % 256).toUInt8, (n / 65536 % 256).toUInt8, (n / 256 % 256).toUInt8, (n % 256).toUInt8]
def endingL (n : Nat) : List UInt8 := 128 :: (List.replicate ((119 - n % 64) % 64) 0 ++ be8 (8 * n))
def shaPad (s : List UInt8) : List UInt8 := s ++ endingL s.length
/-- Over all whole blocks. -/
def overS : Nat → St → List UInt8 → St
  | 0, v, _ => v
  | n + 1, v, s => overS n (stepS v (s.take 64)) (s.drop 64)
def sumL (s : List UInt8) : List UInt8 := tellS (overS ((shaPad s).length / 64) initS (shaPad s))

theorem length_endingL (n : Nat) : (endingL n).length = 9 + (119 - n % 64) % 64 := by simp [endingL, be8]; omega
theorem shaPad_whole (s : List UInt8) : (shaPad s).length % 64 = 0 := by
  unfold shaPad
  rw [List.length_append, length_endingL]
  omega
theorem length_tellS (v : St) : (tellS v).length = 32 := rfl

/-- The chapter's example. -/
theorem sum_abc : sumL [97, 98, 99] = [0xba, 0x78, 0x16, 0xbf, 0x8f, 0x01, 0xcf, 0xea, 0x41, 0x41, 0x40, 0xde, 0x5d, 0xae, 0x22, 0x23, 0xb0, 0x03, 0x61, 0xa3, 0x96, 0x17, 0x7a, 0x9c, 0xb4, 0x10, 0xff, 0x61, 0xf2, 0x00, 0x15, 0xad] := by
  decide +kernel
end Go.Proofs.YtmnpbpfeoackiaaDoor
