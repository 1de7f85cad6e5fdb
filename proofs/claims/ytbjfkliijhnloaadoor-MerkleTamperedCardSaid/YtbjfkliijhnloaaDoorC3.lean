/- The hash in plain words: padding, blocks, the hash, the digest with its tag. -/
import Derived.Test.YtbjfkliijhnloaaDoorC2
namespace Go.Proofs.YtbjfkliijhnloaaDoor
open Go.RowKit
set_option linter.unusedVariables false

def zeros (n : Nat) : Nat := (119 - n % 64) % 64
def padded (bs : List UInt8) : List UInt8 := bs ++ [128] ++ List.replicate (zeros bs.length) 0 ++ beTop (8 * bs.length) 8 8
def chunkOf (m : List UInt8) (k : Nat) : List UInt8 := (m.drop (64 * k)).take 64
def blocks (m : List UInt8) : Nat → H8
  | 0 => start
  | k + 1 => compress (blocks m k) (chunkOf m k)
def H8.out (s : H8) : Nat → List UInt8
  | 0 => []
  | k + 1 => s.out k ++ beTop (s.at k).toNat 4 4
def sum (bs : List UInt8) : List UInt8 := (blocks (padded bs) ((padded bs).length / 64)).out 8
def digest (tag : UInt8) (parts : List (List UInt8)) : List UInt8 := (sum (tag :: parts.flatMap encBytes)).take 16

theorem padded_length (bs : List UInt8) : (padded bs).length = bs.length + 9 + zeros bs.length := by
  simp [padded, beTop_length]; omega
theorem padded_64 (bs : List UInt8) : ∃ nb, (padded bs).length = 64 * nb := by
  refine ⟨(bs.length + 9 + zeros bs.length) / 64, ?_⟩
  rw [padded_length]; unfold zeros; omega
theorem chunkOf_length {m : List UInt8} {nb k : Nat} (hm : m.length = 64 * nb) (hk : k < nb) : (chunkOf m k).length = 64 := by
  unfold chunkOf; simp; omega
theorem out_length (s : H8) (k : Nat) : (s.out k).length = 4 * k := by
  induction k with
  | zero => rfl
  | succ k ih => simp [H8.out, ih, beTop_length]; omega
theorem sum_length (bs : List UInt8) : (sum bs).length = 32 := out_length _ 8
theorem digest_length (tag : UInt8) (parts : List (List UInt8)) : (digest tag parts).length = 16 := by simp [digest, sum_length]
/-- The state after some blocks. -/
def after (m : List UInt8) {nb : Nat} (l : List (Fin nb)) : H8 := l.foldl (fun h k => compress h (chunkOf m k.1)) start
theorem after_snoc (m : List UInt8) {nb : Nat} (l : List (Fin nb)) (x : Fin nb) : after m (l ++ [x]) = compress (after m l) (chunkOf m x.1) := by simp [after]
theorem after_ups (m : List UInt8) {nb : Nat} (k : Nat) (hk : k ≤ nb) : after m (ups nb k) = blocks m k := by
  induction k with
  | zero => simp [ups, after, blocks]
  | succ k ih => rw [ups_succ (by omega), after_snoc, ih (by omega), blocks]
theorem after_all (m : List UInt8) (nb : Nat) : after m (List.finRange nb) = blocks m nb := by rw [← ups_all, after_ups m nb (Nat.le_refl _)]
end Go.Proofs.YtbjfkliijhnloaaDoor
