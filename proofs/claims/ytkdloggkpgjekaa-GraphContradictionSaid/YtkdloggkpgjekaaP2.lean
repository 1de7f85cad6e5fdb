/- Plain laws about Infer and Possible: no program in sight. -/
import Derived.Test.YtkdloggkpgjekaaI0
import Derived.Test.YtkdloggkpgjekaaP1
namespace Go.Proofs.Ytkdloggkpgjekaa
set_option linter.unusedVariables false

theorem valid_mk {took : List Int} {n least : Int} (h1 : (took.length : Int) = n) (h2 : ∀ i, i < took.length → least ≤ took.getD i 0 ∧ took.getD i 0 ≤ 3) : validF took n least = true := by
  unfold validF
  simp only [Bool.and_eq_true, decide_eq_true_eq, Bool.not_eq_true', List.any_eq_false, Bool.or_eq_true, not_or, Int.not_lt]
  refine ⟨h1, fun x hx => ?_⟩
  obtain ⟨i, hi, rfl⟩ := List.mem_iff_getElem.1 hx
  have := h2 i hi
  simpa [hi] using this

/-- What is known of a list that completes h, whose true outcomes are took. -/
def Between (took h l : List Int) : Prop := l.length = took.length ∧ ∀ i, i < took.length → (l.getD i 0 = -1 ∨ l.getD i 0 = took.getD i 0) ∧ (h.getD i 0 ≠ -1 → l.getD i 0 = h.getD i 0)

theorem possible_at {e : List (Int × Int)} {took : List Int} (h : possibleF e took = true) : took.length = e.length ∧ (∀ i, i < took.length → 0 ≤ took.getD i 0 ∧ took.getD i 0 ≤ 3) ∧ ∀ i, i < took.length → took.getD i 0 ≠ 0 → shutF (e.getD i (-1, 0)) took = false := by
  unfold possibleF at h
  rw [Bool.and_eq_true] at h
  obtain ⟨h1, h2⟩ := valid_len h.1
  refine ⟨by omega, h2, fun i hi h0 => ?_⟩
  have := List.all_eq_true.1 h.2 i (by simpa using hi)
  unfold okAt at this
  have hn : (took.getD i 0 != 0) = true := by simpa using h0
  rw [hn] at this
  simpa using this

theorem shut_same {e : Int × Int} {took l : List Int} (hl : l.length = took.length) (hg : e = (-1, 0) ∨ (0 ≤ e.1 ∧ e.1 < took.length)) (h : ∀ i, i < took.length → l.getD i 0 = -1 ∨ l.getD i 0 = took.getD i 0)
    (ht : ∀ i, i < took.length → 0 ≤ took.getD i 0) (hs : shutF e l = true) : shutF e took = true := by
  unfold shutF at hs ⊢
  rcases hg with hg | ⟨h0, h1⟩
  · rw [if_pos hg] at hs; cases hs
  · split at hs
    · cases hs
    · rename_i hne
      rw [if_neg hne]
      simp only at hs ⊢
      split at hs
      · cases hs
      · rename_i hn1
        have hi : e.1.toNat < took.length := by omega
        rcases h _ hi with h' | h'
        · exact absurd h' hn1
        · rw [h'] at hs
          have := ht _ hi
          rw [if_neg (by omega)]
          exact hs

theorem Between.step {e : List (Int × Int)} {took h l : List Int} (hp : possibleF e took = true) (hg : GoodE e) (hb : Between took h l) (i : Nat) (hi : i < took.length) : Between took h (stepF e l i) := by
  obtain ⟨hlen, h03, hsh⟩ := possible_at hp
  unfold stepF
  split
  · rename_i hs
    obtain ⟨hs1, hs2⟩ := hs
    have hge : e.getD i (-1, 0) = (-1, 0) ∨ (0 ≤ (e.getD i (-1, 0)).1 ∧ (e.getD i (-1, 0)).1 < took.length) := by
      have hie : i < e.length := by omega
      have e1 : e.getD i (-1, 0) = e[i] := by simp [hie]
      rw [e1]
      rcases hg i hie with h | ⟨h1, h2, _⟩
      · exact Or.inl h
      · exact Or.inr ⟨h1, by omega⟩
    have ht := shut_same hb.1 hge (fun j hj => (hb.2 j hj).1) (fun j hj => (h03 j hj).1) hs2
    have h0 : took.getD i 0 = 0 := by
      by_cases h : took.getD i 0 = 0
      · exact h
      · have := hsh i hi h
        rw [ht] at this; cases this
    refine ⟨by simpa using hb.1, fun j hj => ?_⟩
    have hjl : i < l.length := by rw [hb.1]; exact hi
    by_cases ej : i = j
    · subst ej
      have e2 : (l.set i 0).getD i 0 = 0 := getD_set_same _ _ _ _ hjl
      rw [e2]
      refine ⟨Or.inr h0.symm, fun hh => ?_⟩
      have := (hb.2 i hj).2 hh
      rw [hs1] at this
      exact absurd this.symm hh
    · have e2 : (l.set i 0).getD j 0 = l.getD j 0 := getD_set_other _ _ _ _ _ ej
      rw [e2]
      exact hb.2 j hj
  · exact hb

theorem Between.pass {e : List (Int × Int)} {took h l : List Int} (hp : possibleF e took = true) (hg : GoodE e) (hb : Between took h l) : Between took h (passF e l) := by
  have : ∀ k, k ≤ l.length → Between took h (passTo e l k) := by
    intro k
    induction k with
    | zero => intro _; exact hb
    | succ k ih =>
      intro hk
      rw [passTo_succ]
      exact (ih (by omega)).step hp hg k (by rw [← hb.1]; omega)
  exact this _ (Nat.le_refl _)
theorem Between.iter {e : List (Int × Int)} {took h : List Int} (hp : possibleF e took = true) (hg : GoodE e) (n : Nat) : ∀ l, Between took h l → Between took h (iterF e n l) := by
  induction n with
  | zero => intro l hb; exact hb
  | succ n ih => intro l hb; rw [iterF]; exact ih _ (hb.pass hp hg)

/-- GraphSound, plainly. -/
theorem sound {e : List (Int × Int)} {took h : List Int} (hp : possibleF e took = true) (hg : GoodE e) (hl : h.length = took.length) (hh : ∀ i, i < took.length → h.getD i 0 = -1 ∨ h.getD i 0 = took.getD i 0) :
    ∃ l, inferF e h = some l ∧ Between took h l := by
  obtain ⟨hlen, h03, hsh⟩ := possible_at hp
  have hv : validF h e.length (-1) = true := valid_mk (by omega) (fun i hi => by
    have hi' : i < took.length := by omega
    have := h03 i hi'
    rcases hh i hi' with h | h <;> rw [h] <;> omega)
  have hb : Between took h (iterF e h.length h) := Between.iter hp hg _ _ ⟨hl, fun i hi => ⟨hh i hi, fun _ => rfl⟩⟩
  refine ⟨_, ?_, hb⟩
  unfold inferF
  rw [if_pos hv, if_pos]
  refine all_range_step fun i hi => ?_
  have hi' : i < took.length := by rw [← hb.1]; exact hi
  unfold inferOk
  by_cases h0 : 0 < (iterF e h.length h).getD i 0
  · have heq : (iterF e h.length h).getD i 0 = took.getD i 0 := by
      rcases (hb.2 i hi').1 with h | h
      · rw [h] at h0; omega
      · exact h
    have hs := hsh i hi' (by omega)
    have hie : i < e.length := by omega
    have e1 : e.getD i (-1, 0) = e[i] := by simp [hie]
    cases hc : shutF (e.getD i (-1, 0)) (iterF e h.length h)
    · simp
    · have := shut_same hb.1 (by rw [e1]; rcases hg i hie with h | ⟨h1, h2, _⟩; exact Or.inl h; exact Or.inr ⟨h1, by omega⟩) (fun j hj => (hb.2 j hj).1) (fun j hj => (h03 j hj).1) hc
      rw [this] at hs; cases hs
  · rw [decide_eq_false h0]; rfl

theorem iter_inr (e : List (Int × Int)) (n : Nat) : ∀ l, InR l → InR (iterF e n l) := by
  have hst : ∀ l i, InR l → InR (stepF e l i) := fun l i h => by
    unfold stepF; split
    · exact h.set i
    · exact h
  have hp : ∀ l k, InR l → InR (passTo e l k) := fun l k h => by
    induction k with
    | zero => exact h
    | succ k ih => rw [passTo_succ]; exact hst _ _ ih
  induction n with
  | zero => intro l h; exact h
  | succ n ih => intro l h; rw [iterF]; exact ih _ (hp _ _ h)

/-- GraphIdempotent, plainly: completing completed knowledge changes nothing. -/
theorem idem {e : List (Int × Int)} {took l : List Int} (h : inferF e took = some l) : inferF e l = some l ∧ l.length = took.length ∧ InR l := by
  unfold inferF at h
  split at h
  · rename_i hv
    simp only at h
    split at h
    · rename_i ha
      have hl := Option.some.inj h
      obtain ⟨h1, h2⟩ := valid_len hv
      have hfix : passF e l = l := by rw [← hl]; exact fix_iter e _ _ (cnt_le took)
      have hlen : l.length = took.length := by rw [← hl]; simp
      have hin : InR l := by rw [← hl]; exact iter_inr e _ _ h2
      refine ⟨?_, hlen, hin⟩
      unfold inferF
      rw [if_pos (valid_mk (by omega) hin)]
      simp only [iter_fix e _ l hfix]
      rw [hl] at ha
      rw [if_pos ha]
    · cases h
  · cases h

/-- .. and knowledge without unknown outcomes is completed if and only if it is possible. -/
theorem full {e : List (Int × Int)} {took : List Int} (hf : ∀ i, i < took.length → 0 ≤ took.getD i 0) : (inferF e took).isSome = possibleF e took := by
  have hst : ∀ i, i < took.length → stepF e took i = took := fun i hi => by
    unfold stepF
    rw [if_neg]
    intro h
    have := hf i hi
    omega
  have hpass : passF e took = took := by
    have : ∀ k, k ≤ took.length → passTo e took k = took := by
      intro k
      induction k with
      | zero => intro _; rfl
      | succ k ih => intro hk; rw [passTo_succ, ih (by omega), hst k (by omega)]
    exact this _ (Nat.le_refl _)
  have hval : validF took e.length (-1) = validF took e.length 0 := by
    rw [Bool.eq_iff_iff]
    constructor
    · intro h
      obtain ⟨h1, h2⟩ := valid_len h
      exact valid_mk h1 (fun i hi => ⟨hf i hi, (h2 i hi).2⟩)
    · intro h
      obtain ⟨h1, h2⟩ := valid_len h
      exact valid_mk h1 (fun i hi => ⟨by have := hf i hi; omega, (h2 i hi).2⟩)
  unfold inferF possibleF
  rw [hval]
  cases hv : validF took e.length 0
  · rfl
  · rw [if_pos rfl, iter_fix e _ _ hpass, Bool.true_and]
    have hok : (List.range took.length).all (inferOk e took) = (List.range took.length).all (okAt e took) := by
      rw [Bool.eq_iff_iff, List.all_eq_true, List.all_eq_true]
      have : ∀ i, i < took.length → inferOk e took i = okAt e took i := fun i hi => by
        unfold inferOk okAt
        have := hf i hi
        by_cases h0 : took.getD i 0 = 0
        · rw [h0]; rfl
        · rw [decide_eq_true (by omega), show (took.getD i 0 != 0) = true by simpa using h0]
      constructor
      · intro h i hi; rw [← this i (by simpa using hi)]; exact h i hi
      · intro h i hi; rw [this i (by simpa using hi)]; exact h i hi
    simp only [hok]
    cases (List.range took.length).all (okAt e took) <;> rfl
end Go.Proofs.Ytkdloggkpgjekaa
