/- Words for the closure of Enclosing: the memory that it reads and writes, and the function that it computes. -/
import Derived.Test.YtkdloggkpgjekaaS2
namespace Go.Proofs.Ytkdloggkpgjekaa
open Go.RowKit
set_option linter.unusedVariables false

/-- A node of a program: what the code reads of it. -/
structure Nd where
  kind : Int
  n : Int
  name : ByteArray
  of : List Int
  ofA : Option Addr
  ofC : Nat
instance : Inhabited Nd := ⟨⟨0, 0, ByteArray.empty, [], none, 0⟩⟩

structure St where
  vis : List Bool
  fnd : List Bool
  out : List (Int × Int)

/-- Is node nd the branch point of a number that has not been found yet? -/
def isPoint (nd : Nd) (np : Nat) (fnd : List Bool) : Bool := decide (nd.kind = 12) && (decide (0 ≤ nd.n) && (decide (nd.n < np) && !(fnd.getD nd.n.toNat false)))
def innerF (pt : Bool) (nd : Nd) (ar : Int × Int) (i : Nat) : Int × Int := if pt && i == 1 then (nd.n, 1) else if pt && i == 2 then (nd.n, 2) else ar
def markF (pt : Bool) (nd : Nd) (ar : Int × Int) (k : Nat) (st : St) : St :=
  if pt then ⟨st.vis.set k true, st.fnd.set nd.n.toNat true, st.out.set nd.n.toNat ar⟩ else ⟨st.vis.set k true, st.fnd, st.out⟩
/-- The visit of a node, with at most m marks still to set. -/
def visit (ns : List Nd) : Nat → Int → Int × Int → St → St
  | 0, _, _, st => st
  | m + 1, k, ar, st =>
    if k < 0 ∨ (ns.length : Int) ≤ k ∨ st.vis.getD k.toNat true = true then st else
      let nd := ns.getD k.toNat default
      let pt := isPoint nd st.fnd.length st.fnd
      (List.range nd.of.length).foldl (fun s i => visit ns m (nd.of.getD i 0) (innerF pt nd ar i) s) (markF pt nd ar k.toNat st)
def unv (st : St) : Nat := st.vis.count false

theorem count_set_true (l : List Bool) (k : Nat) (h : k < l.length) (hf : l.getD k true = false) : (l.set k true).count false + 1 = l.count false := by
  induction l generalizing k with
  | nil => simp at h
  | cons b l ih =>
    cases k with
    | zero => simp at hf; subst hf; simp
    | succ k => 
      simp only [List.getD_cons_succ] at hf
      have := ih k (by simpa using h) hf
      simp only [List.set_cons_succ, List.count_cons]
      omega

structure Env where
  (bp bv bo bf bx Bv Bf Bo : Nat)
  (an : Option Addr)
  (cn cv co cf : Nat)
  ns : List Nd
  np : Nat

def Env.free (E : Env) (b : Nat) : Prop := b ≠ E.Bv ∧ b ≠ E.Bf ∧ b ≠ E.Bo

/-- The world after: only the three rows have changed, and new blocks have come. -/
structure Keeps (E : Env) (w w' : World) : Prop where
  os : w'.os = w.os
  tape : w'.tape = w.tape
  output : w'.output = w.output
  size : w.heap.size ≤ w'.heap.size
  block : ∀ k, k < w.heap.size → E.free k → w'.heap[k]? = w.heap[k]?

theorem Keeps.refl (E : Env) (w : World) : Keeps E w w := ⟨rfl, rfl, rfl, Nat.le_refl _, fun _ _ _ => rfl⟩
theorem Keeps.trans {E : Env} {a b c : World} (h : Keeps E a b) (k : Keeps E b c) : Keeps E a c :=
  ⟨k.os.trans h.os, k.tape.trans h.tape, k.output.trans h.output, Nat.le_trans h.size k.size, fun i hi hf => (k.block i (Nat.lt_of_lt_of_le hi h.size) hf).trans (h.block i hi hf)⟩
theorem Keeps.of_below {E : Env} {w w' : World} (h : Below w.heap.size w w') : Keeps E w w' := ⟨h.os, h.tape, h.output, h.size, fun k hk _ => h.block k hk⟩
theorem Keeps.alloc {E : Env} {a w : World} (h : Keeps E a w) (o : Obj) : Keeps E a (w.alloc o) :=
  h.trans (.of_below ((Below.refl _ _).alloc (Nat.le_refl _) o))
theorem Keeps.setCell {E : Env} {a w : World} (h : Keeps E a w) {p : Addr} (hp : ¬ E.free p.block) (u : Value) : Keeps E a (w.setCell p u) :=
  h.trans ⟨rfl, rfl, rfl, by simp, fun k hk hf => Below.heap_setCell _ _ _ _ (fun e => hp (e ▸ hf))⟩
/-- A store into a block that was not there at first. -/
theorem Keeps.setNew {E : Env} {a w : World} (h : Keeps E a w) {p : Addr} (hp : a.heap.size ≤ p.block) (u : Value) : Keeps E a (w.setCell p u) :=
  ⟨h.os, h.tape, h.output, by simpa using h.size, fun k hk hf => (Below.heap_setCell _ _ _ _ (by omega)).trans (h.block k hk hf)⟩
theorem Keeps.cell {E : Env} {w w' : World} (h : Keeps E w w') {p : Addr} (hp : p.block < w.heap.size) (hf : E.free p.block) : w'.cell? p = w.cell? p := World.cell?_of_block (w := w) (h.block p.block hp hf)
theorem Keeps.frozen {E : Env} {w w' : World} (h : Keeps E w w') {p : Addr} (hp : p.block < w.heap.size) (hf : E.free p.block) : w'.frozen? p = w.frozen? p := World.frozen?_of_block (w := w) (h.block p.block hp hf)

/-- What the closure reads and does not write. -/
structure VCtx (E : Env) (w : World) : Prop where
  npos : E.ns.length ≤ 140737488355328
  np8 : E.np ≤ 8
  fp : E.free E.bp
  fv : E.free E.bv
  fo : E.free E.bo
  ff : E.free E.bf
  fx : E.free E.bx
  vf : E.Bv ≠ E.Bf
  vo : E.Bv ≠ E.Bo
  fO : E.Bf ≠ E.Bo
  nodesSl : w.cell? ⟨E.bp, 1, none⟩ = some (.slice E.an E.ns.length E.cn)
  visSl : w.cell? ⟨E.bv, 0, none⟩ = some (.slice (some ⟨E.Bv, 0, none⟩) E.ns.length E.cv)
  outSl : w.cell? ⟨E.bo, 0, none⟩ = some (.slice (some ⟨E.Bo, 0, none⟩) E.np E.co)
  fndSl : w.cell? ⟨E.bf, 0, none⟩ = some (.slice (some ⟨E.Bf, 0, none⟩) E.np E.cf)
  self : w.cell? ⟨E.bx, 0, none⟩ = some (.func (.func 18) #[] #[.pointer (some ⟨E.bp, 0, none⟩), .pointer (some ⟨E.bv, 0, none⟩), .pointer (some ⟨E.bo, 0, none⟩), .pointer (some ⟨E.bf, 0, none⟩), .pointer (some ⟨E.bx, 0, none⟩)])
  node : ∀ i, (h : i < E.ns.length) → ∃ bn on, E.an = some ⟨bn, on, none⟩ ∧ bn < w.heap.size ∧ E.free bn ∧
    w.cell? ⟨bn, on + i * 4, none⟩ = some (.int .i64 E.ns[i].kind) ∧ w.cell? ⟨bn, on + i * 4 + 1, none⟩ = some (.int .i64 E.ns[i].n) ∧
    w.cell? ⟨bn, on + i * 4 + 2, none⟩ = some (.string E.ns[i].name) ∧ w.cell? ⟨bn, on + i * 4 + 3, none⟩ = some (.slice E.ns[i].ofA E.ns[i].of.length E.ns[i].ofC)
  of : ∀ i, (h : i < E.ns.length) → E.ns[i].of.length ≤ 140737488355328 ∧ ∀ j, (g : j < E.ns[i].of.length) → ∃ b off, E.ns[i].ofA = some ⟨b, off, none⟩ ∧ b < w.heap.size ∧ E.free b ∧ w.cell? ⟨b, off + j, none⟩ = some (.int .i64 E.ns[i].of[j])

theorem VCtx.keep {E : Env} {w w' : World} (h : VCtx E w) (k : Keeps E w w') : VCtx E w' where
  npos := h.npos
  np8 := h.np8
  fp := h.fp
  fv := h.fv
  fo := h.fo
  ff := h.ff
  fx := h.fx
  vf := h.vf
  vo := h.vo
  fO := h.fO
  nodesSl := by rw [k.cell (cell_lt h.nodesSl) h.fp]; exact h.nodesSl
  visSl := by rw [k.cell (cell_lt h.visSl) h.fv]; exact h.visSl
  outSl := by rw [k.cell (cell_lt h.outSl) h.fo]; exact h.outSl
  fndSl := by rw [k.cell (cell_lt h.fndSl) h.ff]; exact h.fndSl
  self := by rw [k.cell (cell_lt h.self) h.fx]; exact h.self
  node := fun i hi => by
    obtain ⟨bn, on, e, l, f, c0, c1, c2, c3⟩ := h.node i hi
    exact ⟨bn, on, e, Nat.lt_of_lt_of_le l k.size, f, by rw [k.cell l f]; exact c0, by rw [k.cell l f]; exact c1, by rw [k.cell l f]; exact c2, by rw [k.cell l f]; exact c3⟩
  of := fun i hi => ⟨(h.of i hi).1, fun j hj => by
    obtain ⟨b, off, e, l, f, c⟩ := (h.of i hi).2 j hj
    exact ⟨b, off, e, Nat.lt_of_lt_of_le l k.size, f, by rw [k.cell l f]; exact c⟩⟩

/-- The three rows that the closure writes. -/
structure StAt (E : Env) (w : World) (st : St) : Prop where
  lv : st.vis.length = E.ns.length
  lf : st.fnd.length = E.np
  lo : st.out.length = E.np
  vis : ∀ i, i < E.ns.length → w.cell? ⟨E.Bv, i, none⟩ = some (.bool (st.vis.getD i true))
  fnd : ∀ i, i < E.np → w.cell? ⟨E.Bf, i, none⟩ = some (.bool (st.fnd.getD i false))
  out : ∀ i, i < E.np → w.cell? ⟨E.Bo, i * 2, none⟩ = some (.int .i64 (st.out.getD i (0, 0)).1) ∧ w.cell? ⟨E.Bo, i * 2 + 1, none⟩ = some (.int .i64 (st.out.getD i (0, 0)).2)
  nv : ∀ o, w.frozen? ⟨E.Bv, o, none⟩ = false
  nf : ∀ o, w.frozen? ⟨E.Bf, o, none⟩ = false
  no : ∀ o, w.frozen? ⟨E.Bo, o, none⟩ = false
  zv : E.Bv < w.heap.size
  zf : E.Bf < w.heap.size
  zo : E.Bo < w.heap.size

theorem StAt.below {E : Env} {w w' : World} {st : St} (h : StAt E w st) (hb : Below w.heap.size w w') : StAt E w' st where
  lv := h.lv
  lf := h.lf
  lo := h.lo
  vis := fun i hi => by rw [hb.cell (p := ⟨E.Bv, i, none⟩) h.zv]; exact h.vis i hi
  fnd := fun i hi => by rw [hb.cell (p := ⟨E.Bf, i, none⟩) h.zf]; exact h.fnd i hi
  out := fun i hi => by rw [hb.cell (p := ⟨E.Bo, i * 2, none⟩) h.zo, hb.cell (p := ⟨E.Bo, i * 2 + 1, none⟩) h.zo]; exact h.out i hi
  nv := fun o => by rw [hb.frozen (p := ⟨E.Bv, o, none⟩) h.zv]; exact h.nv o
  nf := fun o => by rw [hb.frozen (p := ⟨E.Bf, o, none⟩) h.zf]; exact h.nf o
  no := fun o => by rw [hb.frozen (p := ⟨E.Bo, o, none⟩) h.zo]; exact h.no o
  zv := Nat.lt_of_lt_of_le h.zv hb.size
  zf := Nat.lt_of_lt_of_le h.zf hb.size
  zo := Nat.lt_of_lt_of_le h.zo hb.size

theorem setCell_cell {w : World} {b i j : Nat} {v u : Value} (h : w.cell? ⟨b, i, none⟩ = some u) : (w.setCell ⟨b, i, none⟩ v).cell? ⟨b, j, none⟩ = if i = j then some v else w.cell? ⟨b, j, none⟩ := by
  by_cases e : i = j
  · subst e; rw [if_pos rfl, World.cell?_setCell_same _ _ _ h]
  · rw [if_neg e, World.cell?_setCell_other _ _ _ _ (by simp)]
theorem setCell_other {w : World} {b b' i j : Nat} {v : Value} (h : b ≠ b') : (w.setCell ⟨b, i, none⟩ v).cell? ⟨b', j, none⟩ = w.cell? ⟨b', j, none⟩ :=
  World.cell?_setCell_other _ _ _ _ (by simp)

theorem StAt.setVis {E : Env} {w : World} {st : St} (c : VCtx E w) (h : StAt E w st) {k : Nat} (hk : k < E.ns.length) :
    StAt E (w.setCell ⟨E.Bv, k, none⟩ (.bool true)) ⟨st.vis.set k true, st.fnd, st.out⟩ where
  lv := by simpa using h.lv
  lf := h.lf
  lo := h.lo
  vis := fun i hi => by
    rw [setCell_cell (h.vis k hk)]
    by_cases e : k = i
    · subst e; simp [h.lv, hk]
    · rw [if_neg e, h.vis i hi]; simp [e]
  fnd := fun i hi => by rw [setCell_other c.vf]; exact h.fnd i hi
  out := fun i hi => by rw [setCell_other c.vo, setCell_other c.vo]; exact h.out i hi
  nv := fun o => by simpa using h.nv o
  nf := fun o => by simpa using h.nf o
  no := fun o => by simpa using h.no o
  zv := by simpa using h.zv
  zf := by simpa using h.zf
  zo := by simpa using h.zo
theorem StAt.setFnd {E : Env} {w : World} {st : St} (c : VCtx E w) (h : StAt E w st) {k : Nat} (hk : k < E.np) :
    StAt E (w.setCell ⟨E.Bf, k, none⟩ (.bool true)) ⟨st.vis, st.fnd.set k true, st.out⟩ where
  lv := h.lv
  lf := by simpa using h.lf
  lo := h.lo
  vis := fun i hi => by rw [setCell_other (Ne.symm c.vf)]; exact h.vis i hi
  fnd := fun i hi => by
    rw [setCell_cell (h.fnd k hk)]
    by_cases e : k = i
    · subst e; simp [h.lf, hk]
    · rw [if_neg e, h.fnd i hi]; simp [e]
  out := fun i hi => by rw [setCell_other c.fO, setCell_other c.fO]; exact h.out i hi
  nv := fun o => by simpa using h.nv o
  nf := fun o => by simpa using h.nf o
  no := fun o => by simpa using h.no o
  zv := by simpa using h.zv
  zf := by simpa using h.zf
  zo := by simpa using h.zo
theorem StAt.setOut {E : Env} {w : World} {st : St} (c : VCtx E w) (h : StAt E w st) {k : Nat} (hk : k < E.np) (x y : Int) :
    StAt E ((w.setCell ⟨E.Bo, k * 2, none⟩ (.int .i64 x)).setCell ⟨E.Bo, k * 2 + 1, none⟩ (.int .i64 y)) ⟨st.vis, st.fnd, st.out.set k (x, y)⟩ where
  lv := h.lv
  lf := h.lf
  lo := by simpa using h.lo
  vis := fun i hi => by rw [setCell_other (Ne.symm c.vo), setCell_other (Ne.symm c.vo)]; exact h.vis i hi
  fnd := fun i hi => by rw [setCell_other (Ne.symm c.fO), setCell_other (Ne.symm c.fO)]; exact h.fnd i hi
  out := fun i hi => by
    have h1 : (w.setCell ⟨E.Bo, k * 2, none⟩ (.int .i64 x)).cell? ⟨E.Bo, k * 2 + 1, none⟩ = some (.int .i64 (st.out.getD k (0, 0)).2) := by
      rw [setCell_cell (h.out k hk).1, if_neg (by omega)]; exact (h.out k hk).2
    rw [setCell_cell h1, setCell_cell h1, setCell_cell (h.out k hk).1, setCell_cell (h.out k hk).1]
    by_cases e : k = i
    · subst e
      rw [if_neg (by omega), if_pos rfl, if_pos rfl]
      simp [h.lo, hk]
    · rw [if_neg (by omega), if_neg (by omega), if_neg (by omega), if_neg (by omega)]
      have := h.out i hi
      simpa [e] using this
  nv := fun o => by simpa using h.nv o
  nf := fun o => by simpa using h.nf o
  no := fun o => by simpa using h.no o
  zv := by simpa using h.zv
  zf := by simpa using h.zf
  zo := by simpa using h.zo
end Go.Proofs.Ytkdloggkpgjekaa
