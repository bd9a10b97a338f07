/-
  PLAIN 4: SHA-256's blocks.
-/
import Derived.Test.YtfbhiilolpamaaaP3
set_option linter.unusedVariables false
namespace Go.Inc
open Go
def wordAt (b : List UInt8) (i : Int) : Int := bor .u32 (bor .u32 (bor .u32 (shl .u32 (bI (ix b (4 * i))) 24) (shl .u32 (bI (ix b (4 * i + 1))) 16)) (shl .u32 (bI (ix b (4 * i + 2))) 8)) (bI (ix b (4 * i + 3)))
def wordOn (w : List Int) (i : Int) : Int :=
  IntKind.u32.wrap (IntKind.u32.wrap (IntKind.u32.wrap (ix w (i - 16) + ix w (i - 7)) + bxor .u32 (turnsOf (ix w (i - 15)) [7, 18]) (shr .u32 (ix w (i - 15)) 3)) + bxor .u32 (turnsOf (ix w (i - 2)) [17, 19]) (shr .u32 (ix w (i - 2)) 10))
def wordsN (b : List UInt8) : Nat → List Int
  | 0 => List.replicate 64 0
  | n + 1 => (wordsN b n).set n (if n < 16 then wordAt b n else wordOn (wordsN b n) n)
def roundOn (w x : List Int) (i : Int) : List Int :=
  let t := IntKind.u32.wrap (IntKind.u32.wrap (IntKind.u32.wrap (IntKind.u32.wrap (ix x 7 + turnsOf (ix x 4) [6, 11, 25]) + bxor .u32 (band .u32 (ix x 4) (ix x 5)) (band .u32 (bxor .u32 4294967295 (ix x 4)) (ix x 6))) + ix shaK i) + ix w i)
  let u := IntKind.u32.wrap (turnsOf (ix x 0) [2, 13, 22] + bxor .u32 (bxor .u32 (band .u32 (ix x 0) (ix x 1)) (band .u32 (ix x 0) (ix x 2))) (band .u32 (ix x 1) (ix x 2)))
  [IntKind.u32.wrap (t + u), ix x 0, ix x 1, ix x 2, IntKind.u32.wrap (ix x 3 + t), ix x 4, ix x 5, ix x 6]
def roundsN (w x : List Int) : Nat → List Int
  | 0 => x
  | n + 1 => roundOn w (roundsN w x n) n
def addN (s x : List Int) : Nat → List Int
  | 0 => s
  | n + 1 => (addN s x n).set n (IntKind.u32.wrap (ix (addN s x n) n + ix x n))
def takeW (s : List Int) (b : List UInt8) : List Int := addN s (roundsN (wordsN b 64) s 64) 8
end Go.Inc
namespace Go.Inc
open Go
abbrev Hh := List Int × (Int × List UInt8)
/-- whole blocks are taken, the rest stays -/
def eat (s : List Int) (n : Int) (r : List UInt8) : Hh :=
  if 64 ≤ r.length then eat (takeW (if n = 0 then shaH else s) (r.take 64)) (IntKind.u64.wrap (n + 1)) (r.drop 64) else (s, n, r)
termination_by r.length
decreasing_by simp only [List.length_drop]; omega
def hWrite (h : Hh) (l : List (List UInt8)) : Hh := eat h.1 h.2.1 (h.2.2 ++ l.flatten)
end Go.Inc
namespace Go.Inc
open Go
def hLen (h : Hh) : Int := IntKind.u64.wrap (IntKind.u64.wrap (64 * h.2.1) + IntKind.u64.wrap (h.2.2.length : Int))
def padOf (h : Hh) : List (List UInt8) := [[toB 128], List.replicate (Int.tmod (IntKind.i64.wrap (119 - (h.2.2.length : Int))) 64).toNat 0, be (IntKind.u64.wrap (8 * hLen h)).toNat 8]
def sumN (x : List Int) : Nat → List UInt8
  | 0 => List.replicate 32 0
  | n + 1 => (sumN x n).take (4 * n) ++ ((be (ix x (n : Int)).toNat 8).drop 4).take (32 - 4 * n) ++ (sumN x n).drop (4 * n + min ((be (ix x (n : Int)).toNat 8).drop 4).length (32 - 4 * n))
def hSum (h : Hh) : List UInt8 := sumN (hWrite h (padOf h)).1 8
end Go.Inc
