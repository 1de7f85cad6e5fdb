/- Plain laws: the enclosing points that visit finds form a forest. No program in sight. -/
import Derived.Test.YtkdloggkpgjekaaI1
namespace Go.Proofs.Ytkdloggkpgjekaa
set_option linter.unusedVariables false

def Around (np : Nat) (st : St) (ar : Int × Int) : Prop := ar = (-1, 0) ∨ ∃ (q : Nat) (s : Int), q < np ∧ st.fnd.getD q false = true ∧ (s = 1 ∨ s = 2) ∧ ar = ((q : Int), s)

structure FInv (np : Nat) (r : Nat → Nat) (st : St) : Prop where
  lf : st.fnd.length = np
  lo : st.out.length = np
  fd : ∀ j, j < np → st.fnd.getD j false = true → r j < st.fnd.count true ∧ (st.out.getD j (0, 0) = (-1, 0) ∨ ∃ (q : Nat) (s : Int), q < np ∧ st.fnd.getD q false = true ∧ r q < r j ∧ (s = 1 ∨ s = 2) ∧ st.out.getD j (0, 0) = ((q : Int), s))
  nf : ∀ j, j < np → st.fnd.getD j false = false → st.out.getD j (0, 0) = (-1, 0)

theorem count_set_false (l : List Bool) (k : Nat) (h : k < l.length) (hf : l.getD k false = false) : (l.set k true).count true = l.count true + 1 := by
  induction l generalizing k with
  | nil => simp at h
  | cons b l ih =>
    cases k with
    | zero => simp at hf; subst hf; simp
    | succ k =>
      simp only [List.getD_cons_succ] at hf
      have := ih k (by simpa using h) hf
      simp only [List.set_cons_succ, List.count_cons]
      omega

theorem getD_set_same {α : Type} (l : List α) (k : Nat) (v d : α) (h : k < l.length) : (l.set k v).getD k d = v := by simp [h]
theorem getD_set_other {α : Type} (l : List α) (k j : Nat) (v d : α) (h : k ≠ j) : (l.set k v).getD j d = l.getD j d := by simp [List.getD, h]

theorem FInv.mark {np : Nat} {r : Nat → Nat} {st : St} (h : FInv np r st) (pt : Bool) (nd : Nd) (ar : Int × Int) (k : Nat) (hpt : pt = isPoint nd np st.fnd) (har : Around np st ar) :
    (∃ r', FInv np r' (markF pt nd ar k st)) ∧ (∀ q, st.fnd.getD q false = true → (markF pt nd ar k st).fnd.getD q false = true) ∧ (pt = true → ∃ j : Nat, nd.n = j ∧ j < np ∧ (markF pt nd ar k st).fnd.getD j false = true) := by
  cases hp : pt
  · exact ⟨⟨r, h.lf, h.lo, h.fd, h.nf⟩, fun q hq => hq, fun h => by cases h⟩
  · rw [hp] at hpt
    unfold isPoint at hpt
    have hpt := hpt.symm
    simp only [Bool.and_eq_true, decide_eq_true_eq, Bool.not_eq_true'] at hpt
    obtain ⟨_, h1, h2, h3⟩ := hpt
    obtain ⟨j, hj⟩ := Int.eq_ofNat_of_zero_le h1
    have hjl : j < np := by omega
    rw [hj, Int.toNat_natCast] at h3
    have hjf : j < st.fnd.length := by rw [h.lf]; exact hjl
    have hjo : j < st.out.length := by rw [h.lo]; exact hjl
    have keep : ∀ q, st.fnd.getD q false = true → (st.fnd.set j true).getD q false = true := fun q hq => by
      by_cases e : j = q
      · subst e; exact getD_set_same _ _ _ _ hjf
      · rw [getD_set_other _ _ _ _ _ e]; exact hq
    have hm : markF true nd ar k st = ⟨st.vis.set k true, st.fnd.set j true, st.out.set j ar⟩ := by simp [markF, hj]
    rw [hm]
    refine ⟨⟨fun x => if x = j then st.fnd.count true else r x, by simpa using h.lf, by simpa using h.lo, fun i hi hf => ?_, fun i hi hf => ?_⟩, keep, fun _ => ⟨j, hj, hjl, getD_set_same _ _ _ _ hjf⟩⟩
    · simp only [count_set_false _ _ hjf h3]
      by_cases e : i = j
      · subst e
        refine ⟨by simp, ?_⟩
        rw [getD_set_same _ _ _ _ hjo]
        rcases har with har | ⟨q, s, hq, hfq, hs, har⟩
        · exact Or.inl har
        · right
          have hqi : q ≠ i := by rintro rfl; rw [h3] at hfq; cases hfq
          refine ⟨q, s, hq, keep q hfq, ?_, hs, har⟩
          rw [if_neg hqi, if_pos rfl]
          exact (h.fd q hq hfq).1
      · have hf' : st.fnd.getD i false = true := by rw [getD_set_other _ _ _ _ _ (Ne.symm e)] at hf; exact hf
        obtain ⟨g1, g2⟩ := h.fd i hi hf'
        rw [if_neg e]
        refine ⟨by omega, ?_⟩
        rw [getD_set_other _ _ _ _ _ (Ne.symm e)]
        rcases g2 with g2 | ⟨q, s, hq, hfq, hr, hs, g2⟩
        · exact Or.inl g2
        · right
          have hqj : q ≠ j := by rintro rfl; rw [h3] at hfq; cases hfq
          exact ⟨q, s, hq, keep q hfq, by rw [if_neg hqj]; exact hr, hs, g2⟩
    · have e : j ≠ i := by
        rintro rfl
        rw [getD_set_same _ _ _ _ hjf] at hf; cases hf
      rw [getD_set_other _ _ _ _ _ e] at hf
      rw [getD_set_other _ _ _ _ _ e]
      exact h.nf i hi hf

theorem Around.mono {np : Nat} {st st' : St} {ar : Int × Int} (h : Around np st ar) (hk : ∀ q, st.fnd.getD q false = true → st'.fnd.getD q false = true) : Around np st' ar := by
  rcases h with h | ⟨q, s, hq, hf, hs, h⟩
  · exact Or.inl h
  · exact Or.inr ⟨q, s, hq, hk q hf, hs, h⟩

theorem inner_around {np : Nat} {s : St} {pt : Bool} {nd : Nd} {ar : Int × Int} (n : Nat) (h : Around np s ar) (hp : pt = true → ∃ j : Nat, nd.n = j ∧ j < np ∧ s.fnd.getD j false = true) : Around np s (innerF pt nd ar n) := by
  unfold innerF
  cases pt with
  | false => exact h
  | true =>
    obtain ⟨j, hj, hjl, hjf⟩ := hp rfl
    simp only [Bool.true_and, beq_iff_eq]
    split
    · exact Or.inr ⟨j, 1, hjl, hjf, Or.inl rfl, by rw [hj]⟩
    · split
      · exact Or.inr ⟨j, 2, hjl, hjf, Or.inr rfl, by rw [hj]⟩
      · exact h

theorem fold_forest (ns : List Nd) (np m : Nat) (ih : ∀ (k : Int) (ar : Int × Int) (st : St), (∃ r, FInv np r st) → Around np st ar →
    (∃ r, FInv np r (visit ns m k ar st)) ∧ ∀ q, st.fnd.getD q false = true → (visit ns m k ar st).fnd.getD q false = true)
    (pt : Bool) (nd : Nd) (ar : Int × Int) (st2 : St) (h2 : ∃ r, FInv np r st2) (har2 : Around np st2 ar) (hp2 : pt = true → ∃ j : Nat, nd.n = j ∧ j < np ∧ st2.fnd.getD j false = true) (n : Nat) :
    (∃ r, FInv np r ((List.range n).foldl (fun s i => visit ns m (nd.of.getD i 0) (innerF pt nd ar i) s) st2)) ∧
      ∀ q, st2.fnd.getD q false = true → ((List.range n).foldl (fun s i => visit ns m (nd.of.getD i 0) (innerF pt nd ar i) s) st2).fnd.getD q false = true := by
  induction n with
  | zero => exact ⟨h2, fun q hq => hq⟩
  | succ n ihn =>
    rw [List.range_succ, List.foldl_append]
    simp only [List.foldl_cons, List.foldl_nil]
    obtain ⟨g1, g2⟩ := ihn
    have hin := inner_around (nd := nd) n (har2.mono g2) (fun h => let ⟨j, h1, h2, h3⟩ := hp2 h; ⟨j, h1, h2, g2 j h3⟩)
    obtain ⟨a1, a2⟩ := ih (nd.of.getD n 0) (innerF pt nd ar n) _ g1 hin
    exact ⟨a1, fun q hq => a2 q (g2 q hq)⟩

theorem visit_forest (ns : List Nd) (np : Nat) (m : Nat) : ∀ (k : Int) (ar : Int × Int) (st : St), (∃ r, FInv np r st) → Around np st ar →
    (∃ r, FInv np r (visit ns m k ar st)) ∧ ∀ q, st.fnd.getD q false = true → (visit ns m k ar st).fnd.getD q false = true := by
  induction m with
  | zero => intro k ar st h _; exact ⟨h, fun q hq => hq⟩
  | succ m ih =>
    intro k ar st h har
    rw [visit]
    split
    · exact ⟨h, fun q hq => hq⟩
    · obtain ⟨r, h⟩ := h
      obtain ⟨h2, hk2, hp2⟩ := h.mark (isPoint (ns.getD k.toNat default) np st.fnd) (ns.getD k.toNat default) ar k.toNat rfl har
      have hf := fold_forest ns np m ih (isPoint (ns.getD k.toNat default) np st.fnd) (ns.getD k.toNat default) ar _ h2 (har.mono hk2) hp2 (ns.getD k.toNat default).of.length
      rw [h.lf]
      exact ⟨hf.1, fun q hq => hf.2 q (hk2 q hq)⟩

/-- A forest: each point leads to none, or to a point of a smaller rank. -/
def Forest (e : List (Int × Int)) : Prop := ∃ r : Nat → Nat, ∀ i, (h : i < e.length) → r i < e.length ∧ (e[i] = (-1, 0) ∨ ∃ (q : Nat) (s : Int), q < e.length ∧ r q < r i ∧ (s = 1 ∨ s = 2) ∧ e[i] = ((q : Int), s))

theorem enclF_length (ns : List Nd) (root pts : Int) : (enclF ns root pts).length = nPts pts := by
  have h0 : FInv (nPts pts) (fun _ => 0) (startSt ns.length (nPts pts)) :=
    ⟨by simp [startSt], by simp [startSt], fun j hj hf => by simp [startSt, hj] at hf, fun j hj _ => by simp [startSt, hj]⟩
  obtain ⟨⟨r, h⟩, _⟩ := visit_forest ns (nPts pts) ns.length root (-1, 0) _ ⟨_, h0⟩ (Or.inl rfl)
  exact h.lo

theorem enclF_forest (ns : List Nd) (root pts : Int) : Forest (enclF ns root pts) := by
  have h0 : FInv (nPts pts) (fun _ => 0) (startSt ns.length (nPts pts)) :=
    ⟨by simp [startSt], by simp [startSt], fun j hj hf => by simp [startSt, hj] at hf, fun j hj _ => by simp [startSt, hj]⟩
  obtain ⟨⟨r, h⟩, _⟩ := visit_forest ns (nPts pts) ns.length root (-1, 0) _ ⟨_, h0⟩ (Or.inl rfl)
  have hl := enclF_length ns root pts
  have hout : ∀ i (hi : i < (enclF ns root pts).length), (visit ns ns.length root (-1, 0) (startSt ns.length (nPts pts))).out.getD i (0, 0) = (enclF ns root pts)[i] := by
    intro i hi
    show (enclF ns root pts).getD i (0, 0) = _
    simp [hi]
  generalize hv : visit ns ns.length root (-1, 0) (startSt ns.length (nPts pts)) = sv at *
  refine ⟨fun x => if sv.fnd.getD x false = true then r x else 0, fun i hi => ?_⟩
  have hi' : i < nPts pts := by rw [← hl]; exact hi
  have hcnt : sv.fnd.count true ≤ nPts pts := by rw [← h.lf]; exact List.count_le_length
  rw [← hout i hi]
  rcases hf : sv.fnd.getD i false with _ | _
  · simp only [hf]
    exact ⟨by simp; omega, Or.inl (h.nf i hi' hf)⟩
  · simp only [hf, if_true]
    obtain ⟨g1, g2⟩ := h.fd i hi' hf
    refine ⟨by omega, ?_⟩
    rcases g2 with g2 | ⟨q, s, hq, hfq, hr, hs, g2⟩
    · exact Or.inl g2
    · exact Or.inr ⟨q, s, by omega, by rw [if_pos hfq]; exact hr, hs, g2⟩

theorem Forest.good {e : List (Int × Int)} (h : Forest e) : GoodE e := by
  obtain ⟨r, h⟩ := h
  intro i hi
  rcases (h i hi).2 with h | ⟨q, s, hq, _, hs, h⟩
  · exact Or.inl h
  · rw [h]
    exact Or.inr ⟨by simp, by simp; omega, hs⟩
end Go.Proofs.Ytkdloggkpgjekaa
