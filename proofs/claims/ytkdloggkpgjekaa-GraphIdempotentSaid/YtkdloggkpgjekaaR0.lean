/- What the rows' readings give: a program, a slice of integers, with the form's own reach. -/
import Derived.Test.YtkdloggkpgjekaaE1
import Derived.ProofKit
import Derived.OpenShut
import Derived.SizedLaws
import Derived.Deep.Slices
namespace Go.Proofs.Ytkdloggkpgjekaa
open Go.ChangeShapes Go.WideShapes Go.ChangeAt Go.RowKit Go.Deep
set_option linter.unusedVariables false

theorem c3 : Try.prog.cellsOf 3 = 1 := by kernel_rfl
theorem c9 : Try.prog.cellsOf 9 = 1 := by kernel_rfl
theorem c22 : Try.prog.cellsOf 22 = 1 := by kernel_rfl
theorem c23 : Try.prog.cellsOf 23 = 1 := by kernel_rfl
theorem c31 : Try.prog.cellsOf 31 = 1 := by kernel_rfl
theorem c41 : Try.prog.cellsOf 41 = 4 := by kernel_rfl
theorem c25 : Try.prog.cellsOf 25 = 4 := by kernel_rfl
theorem by3 : Try.prog.bytesOf 3 = 8 := by kernel_rfl
theorem by41 : Try.prog.bytesOf 41 = 56 := by kernel_rfl
theorem by69 : Try.prog.bytesOf 69 = 40 := by kernel_rfl

theorem weightsAll_mem {H : Type} {P : Program} {e : TypeId} : ∀ {l : List (DataW H)} {d : DataW H}, d ∈ l → ∀ n ∈ d.weights P e, n ∈ DataW.weightsAll P e l
  | d' :: r, d, hd, n, hn => by
    simp only [DataW.weightsAll, List.mem_append]
    rcases List.mem_cons.1 hd with rfl | h
    · exact Or.inl hn
    · exact Or.inr (weightsAll_mem h n hn)

/-- Each weight is within the form's reach. -/
def Light {H : Type} (P : Program) (t : TypeId) (d : DataW H) : Prop := ∀ n ∈ d.weights P t, n ≤ reachBytes

theorem spot_of {w : World} {b o : Nat} {s : Option Nat} {v : Value} (h : w.cell? ⟨b, o, s⟩ = some v) : s = none := by
  cases s with
  | none => rfl
  | some s => simp [World.cell?] at h; split at h <;> simp_all
theorem add_at (b o n : Nat) : Addr.add ⟨b, o, none⟩ n = ⟨b, o + n, none⟩ := by
  unfold Addr.add
  by_cases h : n = 0 <;> simp [h]

section
variable {H : Type} {enc : TypeId × Value → H} {w : World} {held : Bool}

theorem open_ints' {fuel : Nat} {v : Value} {x : DataW H × List MemPlace} (h : DataW.trod enc Try.prog w 0 (fun _ => true) held fuel 31 [v] = some x) (hl : Light Try.prog 31 x.1) :
    ∃ (a : Option Addr) (cap : Nat) (xs : List Int), v = .slice a xs.length cap ∧ (a = none → cap = 0) ∧ IntsAt w a xs ∧ xs.length ≤ 17592186044400 ∧ ∀ i, i < xs.length → (Lit.int .i64 (xs.getD i 0)).wf = true := by
  rcases open_slice1 Try.underlying31 c3 h with ⟨hc, hx⟩ | ⟨a, len, cap, m, n, V, D, Pl, hc, _, hle, _, hm, hx, hel⟩
  · obtain rfl : v = .slice none 0 0 := by simpa using hc
    exact ⟨none, 0, [], rfl, fun _ => rfl, (fun i hi => by simp at hi), by simp, fun i hi => by simp at hi⟩
  · obtain rfl : v = .slice (some a) len cap := by simpa using hc
    rw [if_pos rfl] at hm
    subst hm
    subst hx
    have hN := hl ((len + (m - len)) * 8) (by simp [DataW.weights, Try.underlying31, by3])
    have hall : ∀ i, i < len → ∃ z : Int, V i = .int .i64 z ∧ (Lit.int .i64 z).wf = true := fun i hi => by
      obtain ⟨_, ht⟩ := hel i (by omega)
      obtain ⟨z, hz, _, hwf⟩ := DataW.trod_int Try.underlying3 ht
      exact ⟨z, by simpa using hz, hwf⟩
    obtain ⟨Z, hZ⟩ := choose_lt hall
    refine ⟨some a, m, (List.range len).map Z, by simp, (fun h => by cases h), fun i hi => ?_, by simp [reachBytes] at hN ⊢; omega, fun i hi => ?_⟩
    · have hi' : i < len := by simpa using hi
      obtain ⟨hci, _⟩ := hel i (by omega)
      have h0 := (hel 0 (by omega)).1
      obtain ⟨ab, ao, sp⟩ := a
      obtain rfl : sp = none := spot_of (by simpa [Addr.add] using h0)
      rw [add_at, (hZ i hi').1] at hci
      exact ⟨ab, ao, rfl, cell_lt hci, by rw [hci]; simp [hi']⟩
    · have hi' : i < len := by simpa using hi
      have := (hZ i hi').2
      simpa [hi'] using this

theorem open_node {fuel : Nat} {cs : List Value} {x : DataW H × List MemPlace} (h : DataW.trod enc Try.prog w 0 (fun _ => true) held fuel 41 cs = some x) (hl : Light Try.prog 41 x.1) :
    ∃ nd : Nd, cs = [.int .i64 nd.kind, .int .i64 nd.n, .string nd.name, .slice nd.ofA nd.of.length nd.ofC] ∧ nd.of.length ≤ 17592186044400 ∧ IntsAt w nd.ofA nd.of := by
  obtain ⟨xs, n, _, rfl, hlen, hxl, hf⟩ := DataW.trod_struct Try.underlying41 h
  rw [c41] at hlen
  match cs, hlen with
  | [v0, v1, v2, v3], _ =>
    match xs, hxl with
    | [y0, y1, y2, y3], _ =>
      have f0 : DataW.trod enc Try.prog w 0 (fun _ => true) held n 3 [v0] = some y0 := by simpa [c3] using hf 0 _ rfl
      have f1 : DataW.trod enc Try.prog w 0 (fun _ => true) held n 3 [v1] = some y1 := by simpa [c3] using hf 1 _ rfl
      have f2 : DataW.trod enc Try.prog w 0 (fun _ => true) held n 9 [v2] = some y2 := by simpa [c9] using hf 2 _ rfl
      have f3 : DataW.trod enc Try.prog w 0 (fun _ => true) held n 31 [v3] = some y3 := by simpa [c31] using hf 3 _ rfl
      obtain ⟨k, hk, _, _⟩ := DataW.trod_int Try.underlying3 f0
      obtain ⟨nn, hn, _, _⟩ := DataW.trod_int Try.underlying3 f1
      obtain ⟨s, hs, _, _⟩ := DataW.trod_string Try.underlying9 f2
      obtain ⟨a, cap, zs, rfl, _, hz, hzl, _⟩ := open_ints' f3 (fun m hm => hl m (by
        simp only [DataW.weights, Try.underlying41, List.map_cons, List.map_nil, DataW.weightsEach, List.mem_append]
        exact Or.inr (Or.inr (Or.inr (Or.inl hm)))))
      simp only [List.cons.injEq, and_true] at hk hn hs
      subst hk; subst hn; subst hs
      exact ⟨⟨k, nn, s, zs, a, cap⟩, rfl, hzl, hz⟩

theorem cells_get {base n : Nat} {a : Addr} {cs : List Value} (h : w.cells? base a n = some cs) {j : Nat} {v : Value} (hj : cs[j]? = some v) : w.cell? (a.add j) = some v := by
  obtain ⟨_, hl, hc⟩ := World.cells?_some h
  have hjl : j < n := by
    rw [← hl]
    rcases Nat.lt_or_ge j cs.length with h | h
    · exact h
    · simp [List.getElem?_eq_none h] at hj
  rw [hc j hjl, hj]

theorem open_nodes {fuel : Nat} {v : Value} {x : DataW H × List MemPlace} (h : DataW.trod enc Try.prog w 0 (fun _ => true) held fuel 23 [v] = some x) (hl : Light Try.prog 23 x.1) :
    ∃ (a : Option Addr) (cap : Nat) (ns : List Nd), v = .slice a ns.length cap ∧ ProgAt w a ns := by
  rcases open_slice Try.underlying23 h with ⟨hc, hx⟩ | ⟨a, len, cap, m, n, D, Pl, hc, _, hle, _, hm, hx, hel⟩
  · obtain rfl : v = .slice none 0 0 := by simpa using hc
    exact ⟨none, 0, [], rfl, ⟨by simp, (fun i hi => by simp at hi), fun i hi => by simp at hi⟩⟩
  · obtain rfl : v = .slice (some a) len cap := by simpa using hc
    rw [if_pos rfl] at hm
    subst hm
    subst hx
    have hN := hl ((len + (m - len)) * 56) (by simp [DataW.weights, Try.underlying23, by41])
    have hall : ∀ i, i < len → ∃ nd : Nd, w.cells? 0 (a.add (i * 4)) 4 = some [.int .i64 nd.kind, .int .i64 nd.n, .string nd.name, .slice nd.ofA nd.of.length nd.ofC] ∧ nd.of.length ≤ 17592186044400 ∧ IntsAt w nd.ofA nd.of := fun i hi => by
      obtain ⟨cs, hcs, ht⟩ := hel i (by omega)
      obtain ⟨nd, rfl, h1, h2⟩ := open_node ht (fun k hk => hl k (by
        simp only [DataW.weights, Try.underlying23, List.mem_cons, List.mem_append]
        exact Or.inr (Or.inl (weightsAll_mem (List.mem_map.2 ⟨i, List.mem_range.2 hi, rfl⟩) k hk))))
      rw [c41] at hcs
      exact ⟨nd, hcs, h1, h2⟩
    obtain ⟨Z, hZ⟩ := choose_lt hall
    have hcell : ∀ i, i < len → ∃ bn on, a = ⟨bn, on, none⟩ ∧ ∀ j v, [Value.int .i64 (Z i).kind, .int .i64 (Z i).n, .string (Z i).name, .slice (Z i).ofA (Z i).of.length (Z i).ofC][j]? = some v → w.cell? ⟨bn, on + i * 4 + j, none⟩ = some v := fun i hi => by
      have h0 := cells_get (hZ 0 (by omega)).1 (j := 0) rfl
      obtain ⟨bn, on, sp⟩ := a
      obtain rfl : sp = none := spot_of (by simpa [Addr.add] using h0)
      refine ⟨bn, on, rfl, fun j v hj => ?_⟩
      have := cells_get (hZ i hi).1 hj
      rwa [add_at, add_at] at this
    refine ⟨some a, m, (List.range len).map Z, by simp, ⟨by simp [reachBytes] at hN ⊢; omega, fun i hi => ?_, fun i hi => ?_⟩⟩
    · have hi' : i < len := by simpa using hi
      have e : ((List.range len).map Z)[i] = Z i := by simp
      rw [e]
      obtain ⟨bn, on, rfl, hcc⟩ := hcell i hi'
      have c0 := hcc 0 _ rfl
      exact ⟨bn, on, rfl, cell_lt c0, c0, hcc 1 _ rfl, hcc 2 _ rfl, hcc 3 _ rfl⟩
    · have hi' : i < len := by simpa using hi
      have e : ((List.range len).map Z)[i] = Z i := by simp
      rw [e]
      obtain ⟨_, hl2, hz⟩ := hZ i hi'
      exact ⟨by omega, fun j hj => hz.get hj⟩

/-- The argument p of a law. -/
theorem open_prog {v : Value} {d : DataW H} {p : List MemPlace} {base : Nat} (hv : Value.okWide Try.prog w .any base 25 v) (h : DataW.Trod enc Try.prog w 0 (fun _ => true) held 25 v d p) (hl : Light Try.prog 25 d) :
    ∃ (ia : Option Addr) (il ic : Nat) (an : Option Addr) (cn : Nat) (ns : List Nd) (root pts : Int), v = .agg #[.slice ia il ic, .slice an ns.length cn, .int .i64 root, .int .i64 pts] ∧ ProgAt w an ns ∧ il ≤ 140737488355328 := by
  obtain ⟨cs, rfl, hsz⟩ := okWide_struct Try.underlying25 hv
  rw [c25] at hsz
  obtain ⟨fuel, hf⟩ := h
  simp only [Value.cells] at hf
  obtain ⟨xs, n, _, hx, _, hxl, hff⟩ := DataW.trod_struct Try.underlying25 hf
  obtain ⟨cs⟩ := cs
  match cs, hsz with
  | [v0, v1, v2, v3], _ =>
    match xs, hxl with
    | [y0, y1, y2, y3], _ =>
      have f0 : DataW.trod enc Try.prog w 0 (fun _ => true) held n 22 [v0] = some y0 := by simpa [c22] using hff 0 _ rfl
      have f1 : DataW.trod enc Try.prog w 0 (fun _ => true) held n 23 [v1] = some y1 := by simpa [c23] using hff 1 _ rfl
      have f2 : DataW.trod enc Try.prog w 0 (fun _ => true) held n 3 [v2] = some y2 := by simpa [c3] using hff 2 _ rfl
      have f3 : DataW.trod enc Try.prog w 0 (fun _ => true) held n 3 [v3] = some y3 := by simpa [c3] using hff 3 _ rfl
      have hd : d = .agg [y0.1, y1.1, y2.1, y3.1] := by
        have := congrArg Prod.fst hx
        simpa using this
      subst hd
      obtain ⟨rt, hr, _, _⟩ := DataW.trod_int Try.underlying3 f2
      obtain ⟨pt, hp, _, _⟩ := DataW.trod_int Try.underlying3 f3
      simp only [List.cons.injEq, and_true] at hr hp
      subst hr; subst hp
      obtain ⟨an, cn, ns, rfl, hpr⟩ := open_nodes f1 (fun m hm => hl m (by
        simp only [DataW.weights, Try.underlying25, List.map_cons, List.map_nil, DataW.weightsEach, List.mem_append]
        exact Or.inr (Or.inl hm)))
      have hlight : Light Try.prog 22 y0.1 := fun m hm => hl m (by
        simp only [DataW.weights, Try.underlying25, List.map_cons, List.map_nil, DataW.weightsEach, List.mem_append]
        exact Or.inl hm)
      rcases open_slice Try.underlying22 f0 with ⟨hc, _⟩ | ⟨a, len, cap, m, n', D, Pl, hc, _, hle, _, hm, hx0, _⟩
      · obtain rfl : v0 = .slice none 0 0 := by simpa using hc
        exact ⟨none, 0, 0, an, cn, ns, rt, pt, rfl, hpr, by omega⟩
      · obtain rfl : v0 = .slice (some a) len cap := by simpa using hc
        have hN := hlight ((len + (m - len)) * 40) (by rw [hx0]; simp [DataW.weights, Try.underlying22, by69])
        exact ⟨some a, len, cap, an, cn, ns, rt, pt, rfl, hpr, by simp [reachBytes] at hN; omega⟩
end
end Go.Proofs.Ytkdloggkpgjekaa
