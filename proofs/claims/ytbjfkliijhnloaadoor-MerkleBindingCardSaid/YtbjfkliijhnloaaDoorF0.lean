/- The plain laws of the trees: a proof that was made verifies, and is short. -/
import Derived.Test.YtbjfkliijhnloaaDoorE2
namespace Go.Proofs.YtbjfkliijhnloaaDoor
open Go.RowKit
set_option linter.unusedVariables false

theorem getD_take {ds : List (List UInt8)} {k i : Nat} (h : i < k) : (ds.take k).getD i [] = ds.getD i [] := by
  simp [List.getD, h]
theorem getD_drop {ds : List (List UInt8)} {k i : Nat} (h : k ≤ i) : (ds.drop k).getD (i - k) [] = ds.getD i [] := by
  simp [List.getD, List.getElem?_drop, show k + (i - k) = i by omega]
theorem climb_snoc (d : List UInt8) (l : List (Bool × List UInt8)) (b : Bool) (x : List UInt8) : climb d (l ++ [(b, x)]) = if b then nodeD (climb d l) x else nodeD x (climb d l) := by simp [climb]
theorem prove_sides (f : Nat) : ∀ (ds : List (List UInt8)) (i : Nat), ds.length < f → i < ds.length → (sidesF ds.length i).length = (proveF ds i).length ∧ climb (leafD (ds.getD i [])) ((sidesF ds.length i).reverse.zip (proveF ds i)) = rootF ds := by
  induction f with
  | zero => intro ds i h; omega
  | succ f ih =>
    intro ds i hf hi
    by_cases h1 : ds.length = 1
    · obtain ⟨d, rfl⟩ := List.length_eq_one_iff.1 h1
      obtain rfl : i = 0 := by simpa using hi
      exact ⟨rfl, rfl⟩
    · have hs := splitF_spec (show 1 < ds.length by omega)
      by_cases hlt : i < splitF ds.length
      · have lt : (ds.take (splitF ds.length)).length = splitF ds.length := by rw [List.length_take]; omega
        obtain ⟨e1, e2⟩ := ih (ds.take (splitF ds.length)) i (by omega) (by omega)
        rw [lt] at e1 e2
        rw [getD_take hlt] at e2
        rw [sidesF_left (by omega) hlt, proveF_left (by omega) hlt]
        refine ⟨by simp [e1], ?_⟩
        rw [List.reverse_cons, List.zip_append (by simpa using e1), List.zip_cons_cons, List.zip_nil_left, climb_snoc, e2, rootF_more (ds := ds) (by omega)]
        rfl
      · have ld : (ds.drop (splitF ds.length)).length = ds.length - splitF ds.length := by rw [List.length_drop]
        obtain ⟨e1, e2⟩ := ih (ds.drop (splitF ds.length)) (i - splitF ds.length) (by omega) (by omega)
        rw [ld] at e1 e2
        rw [getD_drop (by omega)] at e2
        rw [sidesF_right (by omega) hlt, proveF_right (by omega) hlt]
        refine ⟨by simp [e1], ?_⟩
        rw [List.reverse_cons, List.zip_append (by simpa using e1), List.zip_cons_cons, List.zip_nil_left, climb_snoc, e2, rootF_more (ds := ds) (by omega)]
        rfl
theorem verify_made (ds : List (List UInt8)) (i : Nat) (hi : i < ds.length) : verifyF (rootF ds) ds.length i (ds.getD i []) (proveF ds i) = true := by
  obtain ⟨e1, e2⟩ := prove_sides (ds.length + 1) ds i (Nat.lt_succ_self _) hi
  unfold verifyF
  rw [decide_eq_true e1, e2, decide_eq_true rfl]; rfl
theorem sides_short : ∀ n, n < 41 → ∀ i, i < n → (sidesF n i).length ≤ 6 := by decide +kernel
theorem prove_short (ds : List (List UInt8)) (i : Nat) (hi : i < ds.length) (hn : ds.length ≤ 40) : (proveF ds i).length ≤ 6 := by
  rw [← (prove_sides (ds.length + 1) ds i (Nat.lt_succ_self _) hi).1]
  exact sides_short ds.length (by omega) i hi
end Go.Proofs.YtbjfkliijhnloaaDoor
