/- Plain laws: Infer accepts if and only if some possible outcomes agree; counting through all outcomes. No program in sight. -/
import Derived.Test.YtkdloggkpgjekaaP2
namespace Go.Proofs.Ytkdloggkpgjekaa
set_option linter.unusedVariables false

theorem fixed_step {e : List (Int × Int)} {c : List Int} (h : passF e c = c) : ∀ i, i < c.length → ¬ (c.getD i 0 = -1 ∧ shutF (e.getD i (-1, 0)) c = true) := by
  have mono : ∀ k m, k ≤ m → passTo e c k ≠ c → cnt (passTo e c m) < cnt c := by
    intro k m hkm hne
    induction m with
    | zero => obtain rfl : k = 0 := by omega
              exact absurd rfl hne
    | succ m ih =>
      by_cases hk : k = m + 1
      · subst hk
        rcases cnt_passTo e c (m + 1) with h | h
        · exact absurd h hne
        · exact h
      · have := ih (by omega)
        rw [passTo_succ]
        rcases cnt_step e (passTo e c m) m with h2 | h2
        · rw [h2]; exact this
        · omega
  have all : ∀ k, k ≤ c.length → passTo e c k = c := by
    intro k hk
    by_cases hne : passTo e c k = c
    · exact hne
    · have := mono k c.length hk hne
      have h' : cnt (passTo e c c.length) = cnt c := by rw [show passTo e c c.length = c from h]
      omega
  intro i hi hs
  have h1 := all (i + 1) (by omega)
  rw [passTo_succ, all i (by omega), stepF, if_pos hs] at h1
  have h2 := cnt_set c i hs.1
  rw [h1] at h2
  omega

theorem shut_cases {p : Int × Int} {l : List Int} (h : shutF p l = true) : p ≠ (-1, 0) ∧ l.getD p.1.toNat 0 ≠ -1 ∧ has (l.getD p.1.toNat 0) p.2 = false := by
  unfold shutF at h
  split at h
  · cases h
  · rename_i h1
    simp only at h
    split at h
    · cases h
    · rename_i h2
      exact ⟨h1, h2, by simpa using h⟩

/-- Unknown outcomes taken for both sides. -/
def fillF (c : List Int) : List Int := c.map fun t => if t = -1 then 3 else t
theorem fill_get (c : List Int) (i : Nat) (hi : i < c.length) : (fillF c).getD i 0 = if c.getD i 0 = -1 then 3 else c.getD i 0 := by
  simp [fillF, hi]

theorem accept {e : List (Int × Int)} {took c : List Int} (hg : GoodE e) (h : inferF e took = some c) (hlen : took.length = e.length) : possibleF e (fillF c) = true ∧ (fillF c).length = took.length ∧ (∀ i, i < took.length → 0 ≤ (fillF c).getD i 0 ∧ (fillF c).getD i 0 ≤ 3) := by
  obtain ⟨hidm, hll, hin⟩ := idem h
  have hfl : (fillF c).length = c.length := by simp [fillF]
  have hfix : passF e c = c ∧ (List.range c.length).all (inferOk e c) = true := by
    unfold inferF at h
    split at h
    · simp only at h
      split at h
      · rename_i ha
        have hc := Option.some.inj h
        rw [hc] at ha
        exact ⟨by rw [← hc]; exact fix_iter e _ _ (cnt_le took), ha⟩
      · cases h
    · cases h
  obtain ⟨hfix, hok⟩ := hfix
  have hst := fixed_step hfix
  have hr : ∀ i, i < took.length → 0 ≤ (fillF c).getD i 0 ∧ (fillF c).getD i 0 ≤ 3 := fun i hi => by
    rw [fill_get c i (by omega)]
    have := hin i (by omega)
    split <;> omega
  refine ⟨?_, by omega, hr⟩
  unfold possibleF
  rw [valid_mk (by omega) (fun i hi => hr i (by omega)), Bool.true_and]
  refine all_range_step fun i hi => ?_
  have hic : i < c.length := by omega
  unfold okAt
  by_cases h0 : (fillF c).getD i 0 = 0
  · rw [h0]; rfl
  · have hn : ((fillF c).getD i 0 != 0) = true := by simpa using h0
    rw [hn, Bool.true_and]
    cases hs : shutF (e.getD i (-1, 0)) (fillF c)
    · rfl
    · exfalso
      obtain ⟨h1, h2, h3⟩ := shut_cases hs
      have hie : i < e.length := by omega
      have e1 : e.getD i (-1, 0) = e[i] := by simp [hie]
      rw [e1] at h1 h2 h3 hs
      rcases hg i hie with hgi | ⟨g1, g2, g3⟩
      · exact h1 hgi
      · have hp : e[i].1.toNat < c.length := by omega
        rw [fill_get c _ hp] at h2 h3
        by_cases hcp : c.getD e[i].1.toNat 0 = -1
        · rw [if_pos hcp] at h3
          rcases g3 with g | g <;> rw [g] at h3 <;> revert h3 <;> decide
        · rw [if_neg hcp] at h2 h3
          have hsc : shutF (e.getD i (-1, 0)) c = true := by
            rw [e1]
            unfold shutF
            rw [if_neg h1]
            simp only
            rw [if_neg hcp, h3]; rfl
          have hci : c.getD i 0 ≠ -1 := fun hc => hst i hic ⟨hc, hsc⟩
          have hok' := List.all_eq_true.1 hok i (by simpa using hic)
          unfold inferOk at hok'
          rw [hsc] at hok'
          have hle : ¬ 0 < c.getD i 0 := by
            intro hlt
            rw [decide_eq_true hlt] at hok'
            cases hok'
          have := hin i hic
          apply h0
          rw [fill_get c i hic, if_neg hci]
          omega

/-- The k-th list of n outcomes. -/
def dig (n k : Nat) : List Int := (List.range n).map fun i => ((k / 4 ^ i % 4 : Nat) : Int)
theorem dig_succ (n k : Nat) : dig (n + 1) k = dig n k ++ [((k / 4 ^ n % 4 : Nat) : Int)] := by simp [dig, List.range_succ]
@[simp] theorem dig_length (n k : Nat) : (dig n k).length = n := by simp [dig]
theorem dig_get (n k i : Nat) (h : i < n) : (dig n k).getD i 0 = ((k / 4 ^ i % 4 : Nat) : Int) := by simp [dig, h]
def agreesF (took l : List Int) (n : Nat) : Bool := (List.range n).all fun i => took.getD i 0 == -1 || took.getD i 0 == l.getD i 0

theorem dig_exists (n : Nat) (l : List Int) (hl : l.length = n) (h : ∀ i, i < n → 0 ≤ l.getD i 0 ∧ l.getD i 0 ≤ 3) : ∃ k, k < 4 ^ n ∧ dig n k = l := by
  induction n generalizing l with
  | zero => exact ⟨0, by simp, by rw [List.length_eq_zero_iff.1 hl]; rfl⟩
  | succ n ih =>
    obtain ⟨k, hk, hd⟩ := ih l.dropLast (by simp [hl]) (fun i hi => by
      have := h i (by omega)
      have e : l.dropLast.getD i 0 = l.getD i 0 := by
        rw [List.getD_eq_getElem?_getD, List.getD_eq_getElem?_getD, List.getElem?_dropLast, if_pos (by omega)]
      rw [e]; exact this)
    obtain ⟨d, hd3⟩ : ∃ d : Nat, l.getD n 0 = (d : Int) := ⟨(l.getD n 0).toNat, by have := h n (by omega); omega⟩
    have hd4 : d < 4 := by have := h n (by omega); omega
    refine ⟨k + d * 4 ^ n, ?_, ?_⟩
    · have : d * 4 ^ n ≤ 3 * 4 ^ n := Nat.mul_le_mul_right _ (by omega)
      rw [Nat.pow_succ]; omega
    · have hne : l ≠ [] := by intro h; rw [h] at hl; simp at hl
      have hlast : l = l.dropLast ++ [(d : Int)] := by
        conv => lhs; rw [← List.dropLast_concat_getLast hne]
        congr 2
        rw [← hd3, List.getLast_eq_getElem]
        simp [hl]
      rw [dig_succ, hlast]
      congr 1
      · rw [← hd]
        apply List.map_congr_left
        intro i hi
        have hin : i < n := by simpa using hi
        congr 1
        have : 4 ^ n = 4 ^ i * 4 * 4 ^ (n - i - 1) := by
          rw [← Nat.pow_succ, ← Nat.pow_add]; congr 1; omega
        rw [this, show d * (4 ^ i * 4 * 4 ^ (n - i - 1)) = 4 ^ i * (4 * (d * 4 ^ (n - i - 1))) by
          rw [Nat.mul_comm d, Nat.mul_assoc, Nat.mul_assoc, Nat.mul_comm _ d]]
        rw [Nat.add_mul_div_left _ _ (Nat.pow_pos (by omega)), Nat.add_mul_mod_self_left]
      · congr 2
        rw [Nat.mul_comm d, Nat.add_mul_div_left _ _ (Nat.pow_pos (by omega)), Nat.div_eq_of_lt hk, Nat.zero_add, Nat.mod_eq_of_lt hd4]

def goodK (e : List (Int × Int)) (took : List Int) (k : Nat) : Bool := agreesF took (dig took.length k) took.length && possibleF e (dig took.length k)

/-- GraphContradiction, plainly. -/
theorem contra {e : List (Int × Int)} {took : List Int} (hg : GoodE e) (hlen : took.length = e.length) :
    (inferF e took).isSome = true ↔ ∃ k, k < 4 ^ took.length ∧ goodK e took k = true := by
  constructor
  · intro h
    obtain ⟨c, hc⟩ := Option.isSome_iff_exists.1 h
    obtain ⟨h1, h2, h3⟩ := accept hg hc hlen
    obtain ⟨k, hk, hd⟩ := dig_exists took.length (fillF c) h2 h3
    refine ⟨k, hk, ?_⟩
    unfold goodK
    rw [hd, h1, Bool.and_true]
    unfold agreesF
    refine all_range_step fun i hi => ?_
    have hll := (idem hc).2.1
    rw [fill_get c i (by omega)]
    by_cases ht : took.getD i 0 = -1
    · rw [ht]; rfl
    · have hkeep : c.getD i 0 = took.getD i 0 := by
        have key : ∀ (l : List Int) (j : Nat), l.getD i 0 ≠ -1 → (stepF e l j).getD i 0 = l.getD i 0 := fun l j hl => by
          unfold stepF
          split
          · rename_i hs
            by_cases e2 : j = i
            · subst e2; exact absurd hs.1 hl
            · exact getD_set_other _ _ _ _ _ e2
          · rfl
        have kp : ∀ (l : List Int) (m : Nat), l.getD i 0 ≠ -1 → (passTo e l m).getD i 0 = l.getD i 0 := fun l m hl => by
          induction m with
          | zero => rfl
          | succ m ih => rw [passTo_succ, key _ _ (by rw [ih]; exact hl), ih]
        have ki : ∀ (m : Nat) (l : List Int), l.getD i 0 ≠ -1 → (iterF e m l).getD i 0 = l.getD i 0 := fun m => by
          induction m with
          | zero => intro l _; rfl
          | succ m ih => intro l hl; rw [iterF, ih _ (by rw [passF, kp _ _ hl]; exact hl), passF, kp _ _ hl]
        unfold inferF at hc
        split at hc
        · simp only at hc
          split at hc
          · rw [← Option.some.inj hc]; exact ki _ _ ht
          · cases hc
        · cases hc
      rw [hkeep, if_neg ht]
      simp
  · rintro ⟨k, hk, hgk⟩
    unfold goodK at hgk
    rw [Bool.and_eq_true] at hgk
    obtain ⟨l, hl, _⟩ := sound (h := took) hgk.2 hg (by simp) (fun i hi => by
      have hi' : i < took.length := by simpa using hi
      have := List.all_eq_true.1 hgk.1 i (by simpa using hi')
      simpa using this)
    rw [hl]; rfl
end Go.Proofs.Ytkdloggkpgjekaa
