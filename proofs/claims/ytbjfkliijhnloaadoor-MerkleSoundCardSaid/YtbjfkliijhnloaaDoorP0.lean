/- The reference's way from a leaf to the root, and the two collision finders, in plain words; their laws. -/
import Derived.Test.YtbjfkliijhnloaaDoorF0
namespace Go.Proofs.YtbjfkliijhnloaaDoor
open Go.RowKit
set_option linter.unusedVariables false

def zero16 : List UInt8 := List.replicate 16 0
def combN : Nat → Nat → Nat → List UInt8 → List (List UInt8) → List UInt8 × Bool
  | 0, _, _, _, _ => (zero16, false)
  | f + 1, n, i, leaf, proof =>
    if n = 1 then (leafD leaf, decide (proof.length = 0))
    else if proof.length = 0 then (zero16, false)
    else if i < splitF n then (nodeD (combN f (splitF n) i leaf proof.dropLast).1 (proof.getD (proof.length - 1) []), (combN f (splitF n) i leaf proof.dropLast).2)
    else (nodeD (proof.getD (proof.length - 1) []) (combN f (n - splitF n) (i - splitF n) leaf proof.dropLast).1, (combN f (n - splitF n) (i - splitF n) leaf proof.dropLast).2)
def combF (n i : Nat) (leaf : List UInt8) (proof : List (List UInt8)) : List UInt8 × Bool := combN (n + 1) n i leaf proof
theorem combN_stable : ∀ (f g n i : Nat) (leaf : List UInt8) (proof : List (List UInt8)), n < f → n < g → i < n → combN f n i leaf proof = combN g n i leaf proof
  | 0, _, _, _, _, _, h, _, _ => by omega
  | f + 1, 0, _, _, _, _, _, h, _ => by omega
  | f + 1, g + 1, n, i, leaf, proof, hf, hg, hi => by
    unfold combN
    by_cases h1 : n = 1
    · rw [if_pos h1, if_pos h1]
    · have hs := splitF_spec (show 1 < n by omega)
      rw [if_neg h1, if_neg h1]
      by_cases h0 : proof.length = 0
      · rw [if_pos h0, if_pos h0]
      · rw [if_neg h0, if_neg h0]
        by_cases hl : i < splitF n
        · rw [if_pos hl, if_pos hl, combN_stable f g _ _ _ _ (by omega) (by omega) hl]
        · rw [if_neg hl, if_neg hl, combN_stable f g _ _ _ _ (by omega) (by omega) (by omega)]
theorem combF_one (i : Nat) (leaf : List UInt8) (proof : List (List UInt8)) : combF 1 i leaf proof = (leafD leaf, decide (proof.length = 0)) := by unfold combF combN; rw [if_pos rfl]
theorem combF_nil {n : Nat} (h : 1 < n) (i : Nat) (leaf : List UInt8) (proof : List (List UInt8)) (h0 : proof.length = 0) : combF n i leaf proof = (zero16, false) := by unfold combF combN; rw [if_neg (by omega), if_pos h0]
theorem combF_left {n i : Nat} (h : 1 < n) (hi : i < splitF n) (leaf : List UInt8) (proof : List (List UInt8)) (h0 : proof.length ≠ 0) :
    combF n i leaf proof = (nodeD (combF (splitF n) i leaf proof.dropLast).1 (proof.getD (proof.length - 1) []), (combF (splitF n) i leaf proof.dropLast).2) := by
  have hs := splitF_spec h
  unfold combF
  rw [combN, if_neg (by omega), if_neg h0, if_pos hi, combN_stable n (splitF n + 1) (splitF n) i leaf _ (by omega) (by omega) hi]
theorem combF_right {n i : Nat} (h : 1 < n) (hi : ¬ i < splitF n) (hin : i < n) (leaf : List UInt8) (proof : List (List UInt8)) (h0 : proof.length ≠ 0) :
    combF n i leaf proof = (nodeD (proof.getD (proof.length - 1) []) (combF (n - splitF n) (i - splitF n) leaf proof.dropLast).1, (combF (n - splitF n) (i - splitF n) leaf proof.dropLast).2) := by
  have hs := splitF_spec h
  unfold combF
  rw [combN, if_neg (by omega), if_neg h0, if_neg hi, combN_stable n (n - splitF n + 1) (n - splitF n) (i - splitF n) leaf _ (by omega) (by omega) (by omega)]
theorem comb_length (f : Nat) : ∀ (n i : Nat) (leaf : List UInt8) (proof : List (List UInt8)), n < f → i < n → (combF n i leaf proof).1.length = 16 := by
  induction f with
  | zero => intro n i leaf proof h; omega
  | succ f ih =>
    intro n i leaf proof hf hi
    by_cases h1 : n = 1
    · subst h1; rw [combF_one]; exact leafD_length _
    · have hs := splitF_spec (show 1 < n by omega)
      by_cases h0 : proof.length = 0
      · rw [combF_nil (by omega) _ _ _ h0]; rfl
      · by_cases hl : i < splitF n
        · rw [combF_left (by omega) hl _ _ h0]; exact nodeD_length _ _
        · rw [combF_right (by omega) hl hi _ _ h0]; exact nodeD_length _ _
theorem last_split (proof : List (List UInt8)) (h : proof.length ≠ 0) : proof = proof.dropLast ++ [proof.getD (proof.length - 1) []] := by
  have hne : proof ≠ [] := fun e => h (by rw [e]; rfl)
  have e : proof.getD (proof.length - 1) [] = proof.getLast hne := by
    rw [List.getLast_eq_getElem, List.getD, List.getElem?_eq_getElem (by omega)]; rfl
  rw [e, List.dropLast_concat_getLast hne]
/-- The reference's way up is the climb. -/
theorem comb_climb (f : Nat) : ∀ (n i : Nat) (leaf : List UInt8) (proof : List (List UInt8)), n < f → i < n →
    (combF n i leaf proof).2 = decide ((sidesF n i).length = proof.length) ∧ ((sidesF n i).length = proof.length → (combF n i leaf proof).1 = climb (leafD leaf) ((sidesF n i).reverse.zip proof)) := by
  induction f with
  | zero => intro n i leaf proof h; omega
  | succ f ih =>
    intro n i leaf proof hf hi
    by_cases h1 : n = 1
    · subst h1
      rw [combF_one, sidesF_one (Nat.le_refl _)]
      refine ⟨?_, fun _ => rfl⟩
      by_cases h : proof.length = 0
      · rw [decide_eq_true h, decide_eq_true (by rw [h]; rfl)]
      · rw [decide_eq_false h, decide_eq_false (by intro e; exact h e.symm)]
    · have hs := splitF_spec (show 1 < n by omega)
      by_cases h0 : proof.length = 0
      · rw [combF_nil (by omega) _ _ _ h0]
        by_cases hl : i < splitF n
        · rw [sidesF_left (by omega) hl]
          refine ⟨(decide_eq_false (by simp; omega)).symm, fun h => by simp at h; omega⟩
        · rw [sidesF_right (by omega) hl]
          refine ⟨(decide_eq_false (by simp; omega)).symm, fun h => by simp at h; omega⟩
      · have hsp := last_split proof h0
        have hdl : proof.dropLast.length = proof.length - 1 := List.length_dropLast
        obtain ⟨x, hx⟩ : ∃ x, proof.getD (proof.length - 1) [] = x := ⟨_, rfl⟩
        by_cases hl : i < splitF n
        · obtain ⟨e1, e2⟩ := ih (splitF n) i leaf proof.dropLast (by omega) hl
          rw [combF_left (by omega) hl _ _ h0, sidesF_left (by omega) hl]
          refine ⟨by rw [e1]; congr 1; rw [hdl, List.length_cons]; exact propext ⟨fun h => by omega, fun h => by omega⟩, fun h => ?_⟩
          have hlen : (sidesF (splitF n) i).length = proof.dropLast.length := by rw [hdl]; simp at h; omega
          rw [hx] at hsp ⊢
          rw [hsp]
          rw [List.reverse_cons, List.zip_append (by simpa using hlen), List.zip_cons_cons, List.zip_nil_left, climb_snoc, List.dropLast_concat]
          simp only [if_true]
          rw [e2 hlen]
        · obtain ⟨e1, e2⟩ := ih (n - splitF n) (i - splitF n) leaf proof.dropLast (by omega) (by omega)
          rw [combF_right (by omega) hl hi _ _ h0, sidesF_right (by omega) hl]
          refine ⟨by rw [e1]; congr 1; rw [hdl, List.length_cons]; exact propext ⟨fun h => by omega, fun h => by omega⟩, fun h => ?_⟩
          have hlen : (sidesF (n - splitF n) (i - splitF n)).length = proof.dropLast.length := by rw [hdl]; simp at h; omega
          rw [hx] at hsp ⊢
          rw [hsp]
          rw [List.reverse_cons, List.zip_append (by simpa using hlen), List.zip_cons_cons, List.zip_nil_left, climb_snoc, List.dropLast_concat]
          simp only [Bool.false_eq_true, if_false]
          rw [e2 hlen]
theorem comb_verify (root : List UInt8) (n i : Nat) (leaf : List UInt8) (proof : List (List UInt8)) (hi : i < n) : ((combF n i leaf proof).2 && decide ((combF n i leaf proof).1 = root)) = verifyF root n i leaf proof := by
  obtain ⟨e1, e2⟩ := comb_climb (n + 1) n i leaf proof (Nat.lt_succ_self _) hi
  unfold verifyF
  rw [e1]
  by_cases h : (sidesF n i).length = proof.length
  · rw [e2 h]
  · rw [decide_eq_false h, Bool.false_and, Bool.false_and]

/-! ### Collisions -/
def collN : Nat → List (List UInt8) → Nat → List UInt8 → List (List UInt8) → Bool
  | 0, _, _, _, _ => false
  | f + 1, ds, i, leaf, proof =>
    if ds.length = 1 then (!decide (ds.getD 0 [] = leaf)) && decide (leafD (ds.getD 0 []) = leafD leaf)
    else if proof.length = 0 then false
    else
      let k := splitF ds.length
      let l := rootF (ds.take k)
      let r := rootF (ds.drop k)
      let x := proof.getD (proof.length - 1) []
      if i < k then
        let d := (combF k i leaf proof.dropLast).1
        if (!decide (d = l) || !decide (x = r)) && decide (nodeD d x = nodeD l r) then true
        else collN f (ds.take k) i leaf proof.dropLast
      else
        let d := (combF (ds.length - k) (i - k) leaf proof.dropLast).1
        if (!decide (x = l) || !decide (d = r)) && decide (nodeD x d = nodeD l r) then true
        else collN f (ds.drop k) (i - k) leaf proof.dropLast
def collF (ds : List (List UInt8)) (i : Nat) (leaf : List UInt8) (proof : List (List UInt8)) : Bool := collN (ds.length + 1) ds i leaf proof
theorem collN_stable : ∀ (f g : Nat) (ds : List (List UInt8)) (i : Nat) (leaf : List UInt8) (proof : List (List UInt8)), ds.length < f → ds.length < g → 0 < ds.length → collN f ds i leaf proof = collN g ds i leaf proof
  | 0, _, _, _, _, _, h, _, _ => by omega
  | f + 1, 0, _, _, _, _, _, h, _ => by omega
  | f + 1, g + 1, ds, i, leaf, proof, hf, hg, h0 => by
    unfold collN
    by_cases h1 : ds.length = 1
    · rw [if_pos h1, if_pos h1]
    · have hs := splitF_spec (show 1 < ds.length by omega)
      rw [if_neg h1, if_neg h1]
      by_cases hp : proof.length = 0
      · rw [if_pos hp, if_pos hp]
      · rw [if_neg hp, if_neg hp]
        simp only
        rw [collN_stable f g (ds.take (splitF ds.length)) i leaf _ (by rw [List.length_take]; omega) (by rw [List.length_take]; omega) (by rw [List.length_take]; omega)]
        rw [collN_stable f g (ds.drop (splitF ds.length)) (i - splitF ds.length) leaf _ (by rw [List.length_drop]; omega) (by rw [List.length_drop]; omega) (by rw [List.length_drop]; omega)]
theorem collF_one {ds : List (List UInt8)} (h : ds.length = 1) (i : Nat) (leaf : List UInt8) (proof : List (List UInt8)) : collF ds i leaf proof = ((!decide (ds.getD 0 [] = leaf)) && decide (leafD (ds.getD 0 []) = leafD leaf)) := by
  unfold collF collN; rw [if_pos h]
theorem collF_nil {ds : List (List UInt8)} (h : 1 < ds.length) (i : Nat) (leaf : List UInt8) (proof : List (List UInt8)) (h0 : proof.length = 0) : collF ds i leaf proof = false := by
  unfold collF collN; rw [if_neg (by omega), if_pos h0]
theorem collF_left {ds : List (List UInt8)} (h : 1 < ds.length) {i : Nat} (hi : i < splitF ds.length) (leaf : List UInt8) (proof : List (List UInt8)) (h0 : proof.length ≠ 0) {d l r x : List UInt8}
    (hd : (combF (splitF ds.length) i leaf proof.dropLast).1 = d) (hl : rootF (ds.take (splitF ds.length)) = l) (hr : rootF (ds.drop (splitF ds.length)) = r) (hx : proof.getD (proof.length - 1) [] = x) :
    collF ds i leaf proof = if (!decide (d = l) || !decide (x = r)) && decide (nodeD d x = nodeD l r) then true else collF (ds.take (splitF ds.length)) i leaf proof.dropLast := by
  have hs := splitF_spec h
  subst hd hl hr hx
  unfold collF
  rw [collN, if_neg (by omega), if_neg h0]
  simp only
  rw [if_pos hi, collN_stable ds.length _ (ds.take (splitF ds.length)) i leaf _ (by rw [List.length_take]; omega) (Nat.lt_succ_self _) (by rw [List.length_take]; omega)]
theorem collF_right {ds : List (List UInt8)} (h : 1 < ds.length) {i : Nat} (hi : ¬ i < splitF ds.length) (leaf : List UInt8) (proof : List (List UInt8)) (h0 : proof.length ≠ 0) {d l r x : List UInt8}
    (hd : (combF (ds.length - splitF ds.length) (i - splitF ds.length) leaf proof.dropLast).1 = d) (hl : rootF (ds.take (splitF ds.length)) = l) (hr : rootF (ds.drop (splitF ds.length)) = r) (hx : proof.getD (proof.length - 1) [] = x) :
    collF ds i leaf proof = if (!decide (x = l) || !decide (d = r)) && decide (nodeD x d = nodeD l r) then true else collF (ds.drop (splitF ds.length)) (i - splitF ds.length) leaf proof.dropLast := by
  have hs := splitF_spec h
  subst hd hl hr hx
  unfold collF
  rw [collN, if_neg (by omega), if_neg h0]
  simp only
  rw [if_neg hi, collN_stable ds.length _ (ds.drop (splitF ds.length)) (i - splitF ds.length) leaf _ (by rw [List.length_drop]; omega) (Nat.lt_succ_self _) (by rw [List.length_drop]; omega)]
theorem test_eq {d l x r : List UInt8} (h : ((!decide (d = l) || !decide (x = r)) && decide (nodeD d x = nodeD l r)) = false) (he : nodeD d x = nodeD l r) : d = l ∧ x = r := by
  rw [decide_eq_true he, Bool.and_true, Bool.or_eq_false_iff] at h
  simpa using h
/-- A proof that verifies is the leaf's own, or shows a collision. -/
theorem sound (f : Nat) : ∀ (ds : List (List UInt8)) (i : Nat) (leaf : List UInt8) (proof : List (List UInt8)), ds.length < f → i < ds.length → (combF ds.length i leaf proof).2 = true → (combF ds.length i leaf proof).1 = rootF ds → leaf = ds.getD i [] ∨ collF ds i leaf proof = true := by
  induction f with
  | zero => intro ds i leaf proof h; omega
  | succ f ih =>
    intro ds i leaf proof hf hi hok hd
    by_cases h1 : ds.length = 1
    · obtain ⟨x, rfl⟩ := List.length_eq_one_iff.1 h1
      obtain rfl : i = 0 := by simpa using hi
      rw [h1, combF_one] at hd
      rw [collF_one h1]
      by_cases he : x = leaf
      · exact Or.inl he.symm
      · refine Or.inr ?_
        have hd' : leafD x = leafD leaf := hd.symm
        simp [he, hd']
    · have hs := splitF_spec (show 1 < ds.length by omega)
      by_cases h0 : proof.length = 0
      · rw [combF_nil (by omega) _ _ _ h0] at hok; cases hok
      · by_cases hl : i < splitF ds.length
        · rw [combF_left (by omega) hl _ _ h0] at hok hd
          rw [rootF_more (by omega)] at hd
          rw [collF_left (by omega) hl _ _ h0 rfl rfl rfl rfl]
          split
          · exact Or.inr rfl
          · rename_i ht
            obtain ⟨hdl, hxr⟩ := test_eq (by simpa using ht) hd
            have lt : (ds.take (splitF ds.length)).length = splitF ds.length := by rw [List.length_take]; omega
            have := ih (ds.take (splitF ds.length)) i leaf proof.dropLast (by omega) (by omega) (by rw [lt]; exact hok) (by rw [lt]; exact hdl)
            rwa [getD_take hl] at this
        · rw [combF_right (by omega) hl hi _ _ h0] at hok hd
          rw [rootF_more (by omega)] at hd
          rw [collF_right (by omega) hl _ _ h0 rfl rfl rfl rfl]
          split
          · exact Or.inr rfl
          · rename_i ht
            obtain ⟨hxl, hdr⟩ := test_eq (by simpa using ht) hd
            have ld : (ds.drop (splitF ds.length)).length = ds.length - splitF ds.length := by rw [List.length_drop]
            have := ih (ds.drop (splitF ds.length)) (i - splitF ds.length) leaf proof.dropLast (by omega) (by omega) (by rw [ld]; exact hok) (by rw [ld]; exact hdr)
            rwa [getD_drop (by omega)] at this
theorem verify_sound (ds : List (List UInt8)) (i : Nat) (leaf : List UInt8) (proof : List (List UInt8)) (hi : i < ds.length) (h : verifyF (rootF ds) ds.length i leaf proof = true) : leaf = ds.getD i [] ∨ collF ds i leaf proof = true := by
  rw [← comb_verify _ _ _ _ _ hi, Bool.and_eq_true, decide_eq_true_eq] at h
  exact sound (ds.length + 1) ds i leaf proof (Nat.lt_succ_self _) hi h.1 h.2

/-! ### Two lists -/
def diffN : Nat → List (List UInt8) → List (List UInt8) → Bool
  | 0, _, _ => false
  | f + 1, a, b =>
    if a.length = 0 then false
    else if a.length = 1 then (!decide (a.getD 0 [] = b.getD 0 [])) && decide (leafD (a.getD 0 []) = leafD (b.getD 0 []))
    else
      let k := splitF a.length
      let l := rootF (a.take k)
      let r := rootF (a.drop k)
      let m := rootF (b.take k)
      let s := rootF (b.drop k)
      if (!decide (l = m) || !decide (r = s)) && decide (nodeD l r = nodeD m s) then true
      else diffN f (a.take k) (b.take k) || diffN f (a.drop k) (b.drop k)
def diffF (a b : List (List UInt8)) : Bool := diffN (a.length + 1) a b
theorem diffN_stable : ∀ (f g : Nat) (a b : List (List UInt8)), a.length < f → a.length < g → diffN f a b = diffN g a b
  | 0, _, _, _, h, _ => by omega
  | f + 1, 0, _, _, _, h => by omega
  | f + 1, g + 1, a, b, hf, hg => by
    unfold diffN
    by_cases h0 : a.length = 0
    · rw [if_pos h0, if_pos h0]
    · rw [if_neg h0, if_neg h0]
      by_cases h1 : a.length = 1
      · rw [if_pos h1, if_pos h1]
      · have hs := splitF_spec (show 1 < a.length by omega)
        rw [if_neg h1, if_neg h1]
        simp only
        rw [diffN_stable f g (a.take (splitF a.length)) _ (by rw [List.length_take]; omega) (by rw [List.length_take]; omega), diffN_stable f g (a.drop (splitF a.length)) _ (by rw [List.length_drop]; omega) (by rw [List.length_drop]; omega)]
theorem diffF_nil {a : List (List UInt8)} (h : a.length = 0) (b : List (List UInt8)) : diffF a b = false := by unfold diffF diffN; rw [if_pos h]
theorem diffF_one {a : List (List UInt8)} (h : a.length = 1) (b : List (List UInt8)) : diffF a b = ((!decide (a.getD 0 [] = b.getD 0 [])) && decide (leafD (a.getD 0 []) = leafD (b.getD 0 []))) := by unfold diffF diffN; rw [if_neg (by omega), if_pos h]
theorem diffF_more {a : List (List UInt8)} (h : 1 < a.length) (b : List (List UInt8)) {l r m s : List UInt8} (hl : rootF (a.take (splitF a.length)) = l) (hr : rootF (a.drop (splitF a.length)) = r) (hm : rootF (b.take (splitF a.length)) = m) (hs' : rootF (b.drop (splitF a.length)) = s) :
    diffF a b = if (!decide (l = m) || !decide (r = s)) && decide (nodeD l r = nodeD m s) then true else (diffF (a.take (splitF a.length)) (b.take (splitF a.length)) || diffF (a.drop (splitF a.length)) (b.drop (splitF a.length))) := by
  have hs := splitF_spec h
  subst hl hr hm hs'
  unfold diffF
  rw [diffN, if_neg (by omega), if_neg (by omega)]
  simp only
  rw [diffN_stable a.length _ (a.take (splitF a.length)) _ (by rw [List.length_take]; omega) (Nat.lt_succ_self _), diffN_stable a.length _ (a.drop (splitF a.length)) _ (by rw [List.length_drop]; omega) (Nat.lt_succ_self _)]
theorem binding (f : Nat) : ∀ (a b : List (List UInt8)), a.length < f → a.length = b.length → rootF a = rootF b → a = b ∨ diffF a b = true := by
  induction f with
  | zero => intro a b h; omega
  | succ f ih =>
    intro a b hf hlen hr
    rcases (show a.length = 0 ∨ a.length = 1 ∨ 1 < a.length by omega) with h | h | h
    · left
      rw [List.length_eq_zero_iff.1 h, List.length_eq_zero_iff.1 (show b.length = 0 by omega)]
    · obtain ⟨x, rfl⟩ := List.length_eq_one_iff.1 h
      obtain ⟨y, rfl⟩ := List.length_eq_one_iff.1 (show b.length = 1 by omega)
      rw [diffF_one h]
      by_cases he : x = y
      · exact Or.inl (by rw [he])
      · have hr' : leafD x = leafD y := hr
        exact Or.inr (by simp [he, hr'])
    · have hs := splitF_spec h
      rw [rootF_more h, rootF_more (show 1 < b.length by omega), ← hlen] at hr
      rw [diffF_more h b rfl rfl rfl rfl]
      split
      · exact Or.inr rfl
      · rename_i ht
        obtain ⟨e1, e2⟩ := test_eq (by simpa using ht) hr
        have r1 := ih (a.take (splitF a.length)) (b.take (splitF a.length)) (by rw [List.length_take]; omega) (by rw [List.length_take, List.length_take, hlen]) e1
        have r2 := ih (a.drop (splitF a.length)) (b.drop (splitF a.length)) (by rw [List.length_drop]; omega) (by rw [List.length_drop, List.length_drop, hlen]) e2
        rcases r1 with r1 | r1
        · rcases r2 with r2 | r2
          · left
            rw [← List.take_append_drop (splitF a.length) a, ← List.take_append_drop (splitF a.length) b, r1, r2]
          · exact Or.inr (by rw [r2, Bool.or_true])
        · exact Or.inr (by rw [r1, Bool.true_or])
end Go.Proofs.YtbjfkliijhnloaaDoor
