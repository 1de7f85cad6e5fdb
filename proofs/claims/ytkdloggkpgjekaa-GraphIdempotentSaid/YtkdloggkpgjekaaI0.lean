/- The plain function that Infer computes: no program in sight. -/
import Derived.Test.YtkdloggkpgjekaaI1
namespace Go.Proofs.Ytkdloggkpgjekaa

def stepF (e : List (Int × Int)) (l : List Int) (i : Nat) : List Int := if l.getD i 0 = -1 ∧ shutF (e.getD i (-1, 0)) l = true then l.set i 0 else l
def passTo (e : List (Int × Int)) (l : List Int) (k : Nat) : List Int := (List.range k).foldl (stepF e) l
def passF (e : List (Int × Int)) (l : List Int) : List Int := passTo e l l.length
def iterF (e : List (Int × Int)) : Nat → List Int → List Int
  | 0, l => l
  | n + 1, l => iterF e n (passF e l)
def inferOk (e : List (Int × Int)) (l : List Int) (i : Nat) : Bool := !(decide (0 < l.getD i 0) && shutF (e.getD i (-1, 0)) l)
def inferF (e : List (Int × Int)) (took : List Int) : Option (List Int) :=
  if validF took e.length (-1) = true then
    let l := iterF e took.length took
    if (List.range l.length).all (inferOk e l) then some l else none
  else none
def cnt (l : List Int) : Nat := l.count (-1)

theorem passTo_succ (e : List (Int × Int)) (l : List Int) (k : Nat) : passTo e l (k + 1) = stepF e (passTo e l k) k := by
  simp [passTo, List.range_succ]
@[simp] theorem stepF_length (e : List (Int × Int)) (l : List Int) (i : Nat) : (stepF e l i).length = l.length := by
  unfold stepF; split <;> simp
@[simp] theorem passTo_length (e : List (Int × Int)) (l : List Int) (k : Nat) : (passTo e l k).length = l.length := by
  induction k with
  | zero => rfl
  | succ k ih => rw [passTo_succ, stepF_length, ih]
@[simp] theorem passF_length (e : List (Int × Int)) (l : List Int) : (passF e l).length = l.length := passTo_length _ _ _
@[simp] theorem iterF_length (e : List (Int × Int)) (n : Nat) : ∀ l : List Int, (iterF e n l).length = l.length := by
  induction n with
  | zero => intro l; rfl
  | succ n ih => intro l; rw [iterF, ih, passF_length]

theorem cnt_set (l : List Int) (i : Nat) (h : l.getD i 0 = -1) : cnt (l.set i 0) + 1 = cnt l := by
  unfold cnt
  induction l generalizing i with
  | nil => simp at h
  | cons b l ih =>
    cases i with
    | zero => simp at h; subst h; simp
    | succ i =>
      simp only [List.getD_cons_succ] at h
      have := ih i h
      simp only [List.set_cons_succ, List.count_cons]
      omega
theorem cnt_step (e : List (Int × Int)) (l : List Int) (i : Nat) : stepF e l i = l ∨ cnt (stepF e l i) < cnt l := by
  unfold stepF
  split
  · rename_i h
    have := cnt_set l i h.1
    right; omega
  · exact Or.inl rfl
theorem cnt_passTo (e : List (Int × Int)) (l : List Int) (k : Nat) : passTo e l k = l ∨ cnt (passTo e l k) < cnt l := by
  induction k with
  | zero => exact Or.inl rfl
  | succ k ih =>
    rw [passTo_succ]
    rcases ih with h | h
    · rw [h]; exact cnt_step e l k
    · right
      rcases cnt_step e (passTo e l k) k with h2 | h2
      · rw [h2]; exact h
      · omega
theorem cnt_pass (e : List (Int × Int)) (l : List Int) : passF e l = l ∨ cnt (passF e l) < cnt l := cnt_passTo e l _
theorem iter_fix (e : List (Int × Int)) (n : Nat) : ∀ l, passF e l = l → iterF e n l = l := by
  induction n with
  | zero => intro l _; rfl
  | succ n ih => intro l h; rw [iterF, h]; exact ih l h
theorem fix_iter (e : List (Int × Int)) (n : Nat) : ∀ l, cnt l ≤ n → passF e (iterF e n l) = iterF e n l := by
  induction n with
  | zero =>
    intro l h
    rcases cnt_pass e l with h1 | h1
    · exact h1
    · omega
  | succ n ih =>
    intro l h
    rcases cnt_pass e l with h1 | h1
    · rw [iter_fix e _ l h1]; exact h1
    · rw [iterF]; exact ih _ (by omega)
theorem iter_add (e : List (Int × Int)) (n m : Nat) : ∀ l, iterF e (n + m) l = iterF e m (iterF e n l) := by
  induction n with
  | zero => intro l; rw [Nat.zero_add]; rfl
  | succ n ih => intro l; rw [Nat.succ_add, iterF, iterF, ih]
theorem iter_unique (e : List (Int × Int)) (n m : Nat) (l : List Int) (h1 : passF e (iterF e n l) = iterF e n l) (h2 : passF e (iterF e m l) = iterF e m l) : iterF e n l = iterF e m l := by
  rcases Nat.le_total n m with h | h
  · obtain ⟨k, rfl⟩ := Nat.le.dest h
    rw [iter_add, iter_fix e k _ h1]
  · obtain ⟨k, rfl⟩ := Nat.le.dest h
    rw [iter_add, iter_fix e k _ h2]
theorem cnt_le (l : List Int) : cnt l ≤ l.length := List.count_le_length
/-- Whatever number of passes ended in a fixed list: it is the one. -/
theorem reached (e : List (Int × Int)) (took l : List Int) (n : Nat) (h : l = iterF e n took) (hf : passF e l = l) : l = iterF e took.length took := by
  subst h
  exact iter_unique e _ _ _ hf (fix_iter e _ _ (cnt_le took))

/-- Each outcome of the list is from -1 to 3. -/
def InR (l : List Int) : Prop := ∀ i, i < l.length → -1 ≤ l.getD i 0 ∧ l.getD i 0 ≤ 3
theorem InR.set {l : List Int} (h : InR l) (k : Nat) : InR (l.set k 0) := by
  intro i hi
  simp only [List.length_set] at hi
  by_cases e : k = i
  · subst e; simp [hi]
  · have := h i hi
    simpa [List.getD, List.getElem?_set, e] using this
end Go.Proofs.Ytkdloggkpgjekaa
