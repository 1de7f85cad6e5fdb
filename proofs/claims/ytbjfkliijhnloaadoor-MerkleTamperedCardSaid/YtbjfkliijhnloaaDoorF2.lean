/- What MerkleTampered wants besides: a digest with one bit turned; the laws of a proof that was lengthened or shortened. -/
import Derived.Test.YtbjfkliijhnloaaDoorE2
import Derived.Test.YtbjfkliijhnloaaDoorF0
namespace Go.Proofs.YtbjfkliijhnloaaDoor
open Go.RowKit
set_option linter.unusedVariables false

theorem xor8 (b : UInt8) : bits BinOp.xor IntKind.u8 (n8 b) 1 = n8 (b ^^^ 1) := by
  have key : ∀ k : Fin 256, bits BinOp.xor IntKind.u8 ((k.1 : Nat) : Int) 1 = n8 (UInt8.ofNat k.1 ^^^ 1) := by decide +kernel
  have := key ⟨b.toNat, b.toNat_lt⟩
  simpa [n8] using this
theorem xor_ne (b : UInt8) : b ^^^ 1 ≠ b := by
  intro h
  have key : ∀ k : Fin 256, ¬ (UInt8.ofNat k.1 ^^^ 1 = UInt8.ofNat k.1) := by decide +kernel
  have := key ⟨b.toNat, b.toNat_lt⟩
  simp at this
  exact this h
theorem range_set {W : World} {b : Nat} {r : List UInt8} (h : W.rangeAt b 0 (r.map u8)) (j : Nat) (y : UInt8) (hj : j < r.length) : (W.setCell ⟨b, j, none⟩ (u8 y)).rangeAt b 0 ((r.set j y).map u8) := by
  intro i v hv
  have hc : W.cell? ⟨b, j, none⟩ = some (u8 r[j]) := by have := h j (u8 r[j]) (by simp [hj]); rwa [Nat.zero_add] at this
  rw [Nat.zero_add, setCell_cell hc]
  by_cases e : j = i
  · subst e
    rw [if_pos rfl, ← hv]
    simp [hj]
  · rw [if_neg e]
    have := h i v (by rw [← hv]; simp [e])
    rwa [Nat.zero_add] at this
theorem set_ne {r : List UInt8} {j : Nat} (hj : j < r.length) : r.set j (r[j] ^^^ 1) ≠ r := by
  intro h
  have := congrArg (fun l : List UInt8 => l[j]?) h
  simp [hj] at this
  exact xor_ne _ this
theorem verify_bad_root (ds : List (List UInt8)) (i : Nat) (hi : i < ds.length) (bad : List UInt8) (hb : bad ≠ rootF ds) : verifyF bad ds.length i (ds.getD i []) (proveF ds i) = false := by
  obtain ⟨e1, e2⟩ := prove_sides (ds.length + 1) ds i (Nat.lt_succ_self _) hi
  unfold verifyF
  rw [e2]
  have h : decide (rootF ds = bad) = false := decide_eq_false (fun h => hb h.symm)
  rw [h, Bool.and_false]
theorem verify_bad_length (root : List UInt8) (n i : Nat) (leaf : List UInt8) (p : List (List UInt8)) (h : (sidesF n i).length ≠ p.length) : verifyF root n i leaf p = false := by
  unfold verifyF
  rw [decide_eq_false h, Bool.false_and]
end Go.Proofs.YtbjfkliijhnloaaDoor
