/- The contract of Enclosing. -/
import Derived.Test.YtkdloggkpgjekaaV1
import Derived.Deep.OwnRows
import Derived.Laws.EntriesVeiled
import Derived.Deep.DeepCutAuto
import Derived.Deep.CutRange
import Derived.Deep.CutBlock
namespace Go.Proofs.Ytkdloggkpgjekaa
open Go.RowKit
set_option linter.unusedVariables false

/-- All blocks but B are as they were. -/
structure KeepBut (B : Nat) (w w' : World) : Prop where
  os : w'.os = w.os
  tape : w'.tape = w.tape
  output : w'.output = w.output
  size : w.heap.size ≤ w'.heap.size
  block : ∀ k, k < w.heap.size → k ≠ B → w'.heap[k]? = w.heap[k]?
theorem KeepBut.refl (B : Nat) (w : World) : KeepBut B w w := ⟨rfl, rfl, rfl, Nat.le_refl _, fun _ _ _ => rfl⟩
theorem KeepBut.trans {B : Nat} {a b c : World} (h : KeepBut B a b) (k : KeepBut B b c) : KeepBut B a c :=
  ⟨k.os.trans h.os, k.tape.trans h.tape, k.output.trans h.output, Nat.le_trans h.size k.size, fun i hi hf => (k.block i (Nat.lt_of_lt_of_le hi h.size) hf).trans (h.block i hi hf)⟩
theorem KeepBut.of_below {B : Nat} {w w' : World} (h : Below w.heap.size w w') : KeepBut B w w' := ⟨h.os, h.tape, h.output, h.size, fun k hk _ => h.block k hk⟩
theorem KeepBut.setCell {B : Nat} {a w : World} (h : KeepBut B a w) (i : Nat) (u : Value) : KeepBut B a (w.setCell ⟨B, i, none⟩ u) :=
  h.trans ⟨rfl, rfl, rfl, by simp, fun k hk hf => Below.heap_setCell _ _ _ _ hf⟩
theorem KeepBut.drew {B : Nat} {a w : World} (h : KeepBut B a w) : KeepBut B a w.drew := ⟨h.os, h.tape, h.output, h.size, h.block⟩
theorem KeepBut.cell {B : Nat} {w w' : World} (h : KeepBut B w w') {p : Addr} (hp : p.block < w.heap.size) (hf : p.block ≠ B) : w'.cell? p = w.cell? p := World.cell?_of_block (w := w) (h.block p.block hp hf)
theorem KeepBut.frozen {B : Nat} {w w' : World} (h : KeepBut B w w') {p : Addr} (hp : p.block < w.heap.size) (hf : p.block ≠ B) : w'.frozen? p = w.frozen? p := World.frozen?_of_block (w := w) (h.block p.block hp hf)
theorem KeepBut.below {B C : Nat} {a b w : World} (h : Below C a b) (k : KeepBut B b w) (hC : C ≤ b.heap.size) (hB : C ≤ B) : Below C a w :=
  h.trans ⟨k.os, k.tape, k.output, k.size, fun i hi => k.block i (by omega) (by omega)⟩

theorem _root_.Go.RowKit.Below.below' {B C : Nat} {a b w x : World} (h : Below C a b) (k : KeepBut B b w) (hx : Below w.heap.size w x) (hC : C ≤ b.heap.size) (hB : C ≤ B) : Below C a x :=
  (k.below h hC hB).trans (hx.mono (Nat.le_trans hC k.size))

/-- The row of pairs, filled up to k. -/
structure Fill (W : World) (bo Bo np k : Nat) (wr : World) : Prop where
  keep : KeepBut Bo W wr
  lt : Bo < W.heap.size
  out : ∀ i, i < np → wr.cell? ⟨Bo, i * 2, none⟩ = some (.int .i64 (if i < k then -1 else 0)) ∧ wr.cell? ⟨Bo, i * 2 + 1, none⟩ = some (.int .i64 0)
  no : ∀ o, wr.frozen? ⟨Bo, o, none⟩ = false

theorem Fill.below {W wr w' : World} {bo Bo np k : Nat} (h : Fill W bo Bo np k wr) (hb : Below wr.heap.size wr w') : Fill W bo Bo np k w' where
  keep := h.keep.trans (.of_below hb)
  lt := h.lt
  out := fun i hi => by
    have hl : Bo < wr.heap.size := Nat.lt_of_lt_of_le h.lt h.keep.size
    rw [hb.cell (p := ⟨Bo, i * 2, none⟩) hl, hb.cell (p := ⟨Bo, i * 2 + 1, none⟩) hl]; exact h.out i hi
  no := fun o => by rw [hb.frozen (p := ⟨Bo, o, none⟩) (Nat.lt_of_lt_of_le h.lt h.keep.size)]; exact h.no o

theorem Fill.drew {W wr : World} {bo Bo np k : Nat} (h : Fill W bo Bo np k wr) : Fill W bo Bo np k wr.drew where
  keep := h.keep.drew
  lt := h.lt
  out := fun i hi => h.out i hi
  no := fun o => h.no o

theorem Fill.set {W wr : World} {bo Bo np k : Nat} (h : Fill W bo Bo np k wr) (hk : k < np) :
    Fill W bo Bo np (k + 1) ((wr.setCell ⟨Bo, k * 2, none⟩ (.int .i64 (-1))).setCell ⟨Bo, k * 2 + 1, none⟩ (.int .i64 0)) where
  keep := (h.keep.setCell _ _).setCell _ _
  lt := h.lt
  out := fun i hi => by
    have h1 : (wr.setCell ⟨Bo, k * 2, none⟩ (.int .i64 (-1))).cell? ⟨Bo, k * 2 + 1, none⟩ = some (.int .i64 0) := by
      rw [setCell_cell (h.out k hk).1, if_neg (by omega)]; exact (h.out k hk).2
    have hi' := h.out i hi
    by_cases e : k = i
    · subst e
      constructor
      · rw [setCell_cell h1, if_neg (by omega), setCell_cell (h.out k hk).1, if_pos rfl, if_pos (by omega)]
      · rw [setCell_cell h1, if_pos rfl]
    · have e3 : (if i < k + 1 then (-1 : Int) else 0) = if i < k then -1 else 0 := by
        by_cases l : i < k
        · rw [if_pos l, if_pos (by omega)]
        · rw [if_neg l, if_neg (by omega)]
      rw [e3, setCell_cell h1, setCell_cell h1, setCell_cell (h.out k hk).1, setCell_cell (h.out k hk).1, if_neg (by omega : ¬ k * 2 + 1 = i * 2), if_neg (by omega : ¬ k * 2 + 1 = i * 2 + 1), if_neg (by omega : ¬ k * 2 = i * 2), if_neg (by omega : ¬ k * 2 = i * 2 + 1)]
      exact hi'
  no := fun o => by simpa using h.no o

/-- The program that came in: what Enclosing reads of it. -/
structure ProgAt (w : World) (an : Option Addr) (ns : List Nd) : Prop where
  npos : ns.length ≤ 140737488355328
  node : ∀ i, (h : i < ns.length) → ∃ bn on, an = some ⟨bn, on, none⟩ ∧ bn < w.heap.size ∧
    w.cell? ⟨bn, on + i * 4, none⟩ = some (.int .i64 ns[i].kind) ∧ w.cell? ⟨bn, on + i * 4 + 1, none⟩ = some (.int .i64 ns[i].n) ∧
    w.cell? ⟨bn, on + i * 4 + 2, none⟩ = some (.string ns[i].name) ∧ w.cell? ⟨bn, on + i * 4 + 3, none⟩ = some (.slice ns[i].ofA ns[i].of.length ns[i].ofC)
  of : ∀ i, (h : i < ns.length) → ns[i].of.length ≤ 140737488355328 ∧ ∀ j, (g : j < ns[i].of.length) → ∃ b off, ns[i].ofA = some ⟨b, off, none⟩ ∧ b < w.heap.size ∧ w.cell? ⟨b, off + j, none⟩ = some (.int .i64 ns[i].of[j])

theorem ProgAt.keep {w w' : World} {an : Option Addr} {ns : List Nd} (h : ProgAt w an ns) (k : Below w.heap.size w w') : ProgAt w' an ns where
  npos := h.npos
  node := fun i hi => by
    obtain ⟨bn, on, e, l, c0, c1, c2, c3⟩ := h.node i hi
    exact ⟨bn, on, e, Nat.lt_of_lt_of_le l k.size, by rw [k.cell l]; exact c0, by rw [k.cell l]; exact c1, by rw [k.cell l]; exact c2, by rw [k.cell l]; exact c3⟩
  of := fun i hi => ⟨(h.of i hi).1, fun j hj => by
    obtain ⟨b, off, e, l, c⟩ := (h.of i hi).2 j hj
    exact ⟨b, off, e, Nat.lt_of_lt_of_le l k.size, by rw [k.cell l]; exact c⟩⟩

/-- What Enclosing returns. -/
def startSt (N np : Nat) : St := ⟨List.replicate N false, List.replicate np false, List.replicate np (-1, 0)⟩
def nPts (pts : Int) : Nat := (min (max pts 0) 8).toNat
def enclF (ns : List Nd) (root : Int) (pts : Int) : List (Int × Int) := (visit ns ns.length root (-1, 0) (startSt ns.length (nPts pts))).out

theorem infoPair : (Try.prog.info? 30).map (fun i => (i.zero, i.size, i.bytes)) = some (some (.agg #[.int .i64 0, .int .i64 0]), 2, 16) := by kernel_rfl
theorem infoBool : (Try.prog.info? 4).map (fun i => (i.zero, i.size, i.bytes)) = some (some (.bool false), 1, 1) := by kernel_rfl

theorem make_pairs (n : Nat) (hn : n ≤ 8) (w : World) : (Instr.makeSlice 28 (.int .i64 (n : Int)) (.int .i64 (n : Int))).run Try.prog w = .ok (.slice (some ⟨w.heap.size, 0, none⟩) n n) (w.alloc (.cells (madeCells #[.int .i64 0, .int .i64 0] (n * 2)) 30)) := by
  obtain ⟨i, hi, hzz⟩ := Option.map_eq_some_iff.1 infoPair
  simp only [Prod.mk.injEq] at hzz
  obtain ⟨hz, hs, hb⟩ := hzz
  have hr := run_make (P := Try.prog) w 28 30 i _ Try.underlying28 hi hz .i64 .i64 n n (by omega) (Int.le_refl _) (by rw [hb]; omega) (by omega)
  simp only [Int.toNat_natCast, hs] at hr
  exact hr
theorem make_bools (n : Nat) (hn : n ≤ 140737488355328) (w : World) : (Instr.makeSlice 43 (.int .i64 (n : Int)) (.int .i64 (n : Int))).run Try.prog w = .ok (.slice (some ⟨w.heap.size, 0, none⟩) n n) (w.alloc (.cells (madeCells #[.bool false] n) 4)) :=
  run_make_row' 43 4 (.bool false) 1 Try.underlying43 infoBool rfl .i64 .i64 n (by omega) (by omega) w

theorem points_nat (a b r : Value) (n : Int) (w : World) :
    Calls Try.prog 16 #[.agg #[a, b, r, .int .i64 n]] w fun e w' => e = .returned (.int .i64 (nPts n)) ∧ Below w.heap.size w w' :=
  (points_any a b r n w).mono fun e w' ⟨he, hb⟩ => ⟨by rw [he]; exact ret_int (by unfold nPts; omega), hb⟩
theorem nPts_le (n : Int) : nPts n ≤ 8 := by unfold nPts; omega

theorem made_get (v : Value) (n i : Nat) (hi : i < n) : (madeCells #[v] n)[i]? = some v := by simp [madeCells, hi, Nat.mod_one]
theorem made2_get (v : Value) (n i : Nat) (hi : i < n) : (madeCells #[v, v] n)[i]? = some v := by
  unfold madeCells
  rcases Nat.mod_two_eq_zero_or_one i with h | h <;> simp [hi, h]

def pbox (ia : Option Addr) (il ic : Nat) (an : Option Addr) (cn : Nat) (ns : List Nd) (root pts : Int) : Obj := .cells #[.slice ia il ic, .slice an ns.length cn, .int .i64 root, .int .i64 pts] 25
def envOf (w w1 wr : World) (an : Option Addr) (cn : Nat) (ns : List Nd) (np : Nat) : Env :=
  { bp := w.heap.size, bv := wr.heap.size + 1, bo := w1.heap.size + 1, bf := w1.heap.size + 1 + 1 + 1, bx := wr.heap.size + 1 + 1, Bv := wr.heap.size, Bf := w1.heap.size + 1 + 1, Bo := w1.heap.size, an := an, cn := cn, cv := ns.length, co := np, cf := np, ns := ns, np := np }
def cloV (w w1 wr : World) : Value := .func (.func 18) #[] #[.pointer (some ⟨w.heap.size, 0, none⟩), .pointer (some ⟨wr.heap.size + 1, 0, none⟩), .pointer (some ⟨w1.heap.size + 1, 0, none⟩), .pointer (some ⟨w1.heap.size + 1 + 1 + 1, 0, none⟩), .pointer (some ⟨wr.heap.size + 1 + 1, 0, none⟩)]
def worldP (w w1 wr : World) (ns : List Nd) (V : Array Value) : World :=
  ((wr.alloc (.cells V 4)).alloc (.cells #[.slice (some ⟨wr.heap.size, 0, none⟩) ns.length ns.length] 43)).alloc (.cells #[cloV w w1 wr] 45)

theorem encl_state {w w1 W wr : World} {ia : Option Addr} {il ic : Nat} {an : Option Addr} {cn : Nat} {ns : List Nd} {root pts : Int} {np : Nat} {V F C : Array Value}
    (hb : Below (w.alloc (pbox ia il ic an cn ns root pts)).heap.size (w.alloc (pbox ia il ic an cn ns root pts)) w1)
    (hW : W = (((w1.alloc (.cells C 30)).alloc (.cells #[.slice (some ⟨w1.heap.size, 0, none⟩) np np] 28)).alloc (.cells F 4)).alloc (.cells #[.slice (some ⟨w1.heap.size + 1 + 1, 0, none⟩) np np] 43))
    (hf : Fill W (w1.heap.size + 1) w1.heap.size np np wr) (hV : V = madeCells #[.bool false] ns.length) (hF : F = madeCells #[.bool false] np) (h : ProgAt w an ns) (hnp : np ≤ 8) :
    VCtx (envOf w w1 wr an cn ns np) (worldP w w1 wr ns V) ∧ StAt (envOf w w1 wr an cn ns np) (worldP w w1 wr ns V) (startSt ns.length np) ∧ Below w.heap.size w (worldP w w1 wr ns V) ∧ unv (startSt ns.length np) ≤ ns.length ∧
      wr.cell? ⟨w.heap.size, 1, none⟩ = some (.slice an ns.length cn) ∧ wr.cell? ⟨w.heap.size, 2, none⟩ = some (.int .i64 root) ∧ w.heap.size < wr.heap.size := by
  have s0 : w.heap.size + 1 ≤ w1.heap.size := by simpa using hb.size
  have s1 : W.heap.size = w1.heap.size + 4 := by rw [hW]; simp only [World.size_alloc]
  have s2 := hf.keep.size
  obtain ⟨Wp, hWp⟩ : ∃ Wp, Wp = worldP w w1 wr ns V := ⟨_, rfl⟩
  rw [← hWp]
  have s3 : Wp.heap.size = wr.heap.size + 3 := by rw [hWp]; simp only [worldP, World.size_alloc]
  have b1 : Below w.heap.size w w1 := ((Below.refl w.heap.size w).alloc (Nat.le_refl _) _).trans (hb.mono (by simp))
  have b2 : Below w1.heap.size w1 W := by
    rw [hW]
    exact ((((Below.refl w1.heap.size w1).alloc (Nat.le_refl _) _).alloc (by simp only [World.size_alloc]; omega) _).alloc (by simp only [World.size_alloc]; omega) _).alloc (by simp only [World.size_alloc]; omega) _
  have b4 : Below wr.heap.size wr Wp := by
    rw [hWp]
    exact ((((Below.refl wr.heap.size wr).alloc (Nat.le_refl _) _).alloc (by simp only [World.size_alloc]; omega) _).alloc (by simp only [World.size_alloc]; omega) _)
  have b : Below w.heap.size w Wp := (b1.trans (b2.mono (by omega))).below' hf.keep b4 (by omega) (by omega)
  have old : ∀ b o, b < w1.heap.size → Wp.cell? ⟨b, o, none⟩ = w1.cell? ⟨b, o, none⟩ := fun b o hl => by
    rw [b4.cell (p := ⟨b, o, none⟩) (by simp only; omega), hf.keep.cell (p := ⟨b, o, none⟩) (by simp only; omega) (by simp only; omega), b2.cell (p := ⟨b, o, none⟩) hl]
  have mid : ∀ b o, w1.heap.size < b → b < w1.heap.size + 4 → Wp.cell? ⟨b, o, none⟩ = W.cell? ⟨b, o, none⟩ := fun b o hl hl' => by
    rw [b4.cell (p := ⟨b, o, none⟩) (by simp only; omega), hf.keep.cell (p := ⟨b, o, none⟩) (by simp only; omega) (by simp only; omega)]
  have midf : ∀ b o, w1.heap.size < b → b < w1.heap.size + 4 → Wp.frozen? ⟨b, o, none⟩ = W.frozen? ⟨b, o, none⟩ := fun b o hl hl' => by
    rw [b4.frozen (p := ⟨b, o, none⟩) (by simp only; omega), hf.keep.frozen (p := ⟨b, o, none⟩) (by simp only; omega) (by simp only; omega)]
  have pb : ∀ o, w1.cell? ⟨w.heap.size, o, none⟩ = (w.alloc (pbox ia il ic an cn ns root pts)).cell? ⟨w.heap.size, o, none⟩ := fun o => hb.cell (p := ⟨w.heap.size, o, none⟩) (by simp)
  have wp1 : Wp.cell? ⟨w.heap.size, 1, none⟩ = some (.slice an ns.length cn) := by
    rw [old _ _ (by omega), pb, pbox, World.cell?_alloc_at (hn := rfl)]; rfl
  have wp2 : Wp.cell? ⟨w.heap.size, 2, none⟩ = some (.int .i64 root) := by
    rw [old _ _ (by omega), pb, pbox, World.cell?_alloc_at (hn := rfl)]; rfl
  refine ⟨?_, ?_, b, ?_, ?_, ?_, by omega⟩
  · exact {
      npos := h.npos
      np8 := hnp
      fp := ⟨by simp only [envOf]; omega, by simp only [envOf]; omega, by simp only [envOf]; omega⟩
      fv := ⟨by simp only [envOf]; omega, by simp only [envOf]; omega, by simp only [envOf]; omega⟩
      fo := ⟨by simp only [envOf]; omega, by simp only [envOf]; omega, by simp only [envOf]; omega⟩
      ff := ⟨by simp only [envOf]; omega, by simp only [envOf]; omega, by simp only [envOf]; omega⟩
      fx := ⟨by simp only [envOf]; omega, by simp only [envOf]; omega, by simp only [envOf]; omega⟩
      vf := by simp only [envOf]; omega
      vo := by simp only [envOf]; omega
      fO := by simp only [envOf]; omega
      nodesSl := wp1
      visSl := by
        show Wp.cell? ⟨wr.heap.size + 1, 0, none⟩ = _
        rw [hWp, worldP, World.cell?_alloc_past (hn := by simp only [World.size_alloc]; omega), World.cell?_alloc_at (hn := by simp only [World.size_alloc])]; rfl
      outSl := by
        show Wp.cell? ⟨w1.heap.size + 1, 0, none⟩ = _
        rw [mid _ _ (by omega) (by omega), hW, World.cell?_alloc_past (hn := by simp only [World.size_alloc]; omega), World.cell?_alloc_past (hn := by simp only [World.size_alloc]; omega), World.cell?_alloc_at (hn := by simp only [World.size_alloc])]; rfl
      fndSl := by
        show Wp.cell? ⟨w1.heap.size + 1 + 1 + 1, 0, none⟩ = _
        rw [mid _ _ (by omega) (by omega), hW, World.cell?_alloc_at (hn := by simp only [World.size_alloc])]; rfl
      self := by
        show Wp.cell? ⟨wr.heap.size + 1 + 1, 0, none⟩ = _
        rw [hWp, worldP, World.cell?_alloc_at (hn := by simp only [World.size_alloc])]; rfl
      node := fun i hi => by
        obtain ⟨bn, on, e, l, c0, c1, c2, c3⟩ := h.node i hi
        exact ⟨bn, on, e, by omega, ⟨by simp only [envOf]; omega, by simp only [envOf]; omega, by simp only [envOf]; omega⟩, by rw [b.cell l]; exact c0, by rw [b.cell l]; exact c1, by rw [b.cell l]; exact c2, by rw [b.cell l]; exact c3⟩
      of := fun i hi => ⟨(h.of i hi).1, fun j hj => by
        obtain ⟨b', off, e, l, c⟩ := (h.of i hi).2 j hj
        exact ⟨b', off, e, by omega, ⟨by simp only [envOf]; omega, by simp only [envOf]; omega, by simp only [envOf]; omega⟩, by rw [b.cell l]; exact c⟩⟩ }
  · exact {
      lv := by simp [startSt, envOf]
      lf := by simp [startSt, envOf]
      lo := by simp [startSt, envOf]
      vis := fun i hi => by
        show Wp.cell? ⟨wr.heap.size, i, none⟩ = _
        have hi' : i < ns.length := hi
        rw [hWp, worldP, World.cell?_alloc_past (hn := by simp only [World.size_alloc]; omega), World.cell?_alloc_past (hn := by simp only [World.size_alloc]; omega), World.cell?_alloc_at (hn := rfl), hV, made_get _ _ _ hi']
        simp [startSt, hi']
      fnd := fun i hi => by
        show Wp.cell? ⟨w1.heap.size + 1 + 1, i, none⟩ = _
        have hi' : i < np := hi
        rw [mid _ _ (by omega) (by omega), hW, World.cell?_alloc_past (hn := by simp only [World.size_alloc]; omega), World.cell?_alloc_at (hn := by simp only [World.size_alloc]), hF, made_get _ _ _ hi']
        simp [startSt, hi']
      out := fun i hi => by
        show Wp.cell? ⟨w1.heap.size, i * 2, none⟩ = _ ∧ Wp.cell? ⟨w1.heap.size, i * 2 + 1, none⟩ = _
        have hi' : i < np := hi
        have := hf.out i hi'
        rw [if_pos hi'] at this
        rw [b4.cell (p := ⟨w1.heap.size, i * 2, none⟩) (by simp only; omega), b4.cell (p := ⟨w1.heap.size, i * 2 + 1, none⟩) (by simp only; omega), this.1, this.2]
        simp [startSt, hi']
      nv := fun o => by
        show Wp.frozen? ⟨wr.heap.size, o, none⟩ = _
        rw [hWp, worldP, World.frozen?_alloc_past (hn := by simp only [World.size_alloc]; omega), World.frozen?_alloc_past (hn := by simp only [World.size_alloc]; omega), World.frozen?_alloc_at (hn := rfl)]
      nf := fun o => by
        show Wp.frozen? ⟨w1.heap.size + 1 + 1, o, none⟩ = _
        rw [midf _ _ (by omega) (by omega), hW, World.frozen?_alloc_past (hn := by simp only [World.size_alloc]; omega), World.frozen?_alloc_at (hn := by simp only [World.size_alloc])]
      no := fun o => by
        show Wp.frozen? ⟨w1.heap.size, o, none⟩ = _
        rw [b4.frozen (p := ⟨w1.heap.size, o, none⟩) (by simp only; omega)]; exact hf.no o
      zv := by simp only [envOf]; omega
      zf := by simp only [envOf]; omega
      zo := by simp only [envOf]; omega }
  · simp [unv, startSt]
  · rw [← b4.cell (p := ⟨w.heap.size, 1, none⟩) (by simp only; omega)]; exact wp1
  · rw [← b4.cell (p := ⟨w.heap.size, 2, none⟩) (by simp only; omega)]; exact wp2

theorem encl_done {w w1 W wr WP w2 w3 : World} {ia : Option Addr} {il ic : Nat} {an : Option Addr} {cn : Nat} {ns : List Nd} {root pts : Int} {np : Nat} {F C : Array Value} (hnp : np = nPts pts) (hwr : w.heap.size < wr.heap.size)
    (hb : Below (w.alloc (pbox ia il ic an cn ns root pts)).heap.size (w.alloc (pbox ia il ic an cn ns root pts)) w1)
    (hW : W = (((w1.alloc (.cells C 30)).alloc (.cells #[.slice (some ⟨w1.heap.size, 0, none⟩) np np] 28)).alloc (.cells F 4)).alloc (.cells #[.slice (some ⟨w1.heap.size + 1 + 1, 0, none⟩) np np] 43))
    (hc : VCtx (envOf w w1 wr an cn ns np) WP) (hst : StAt (envOf w w1 wr an cn ns np) WP (startSt ns.length np)) (hbe : Below w.heap.size w WP) (hb2 : Below WP.heap.size WP w2)
    (hs : StAt (envOf w w1 wr an cn ns np) w3 (visit ns ns.length root (-1, 0) (startSt ns.length np))) (hk : Keeps (envOf w w1 wr an cn ns np) w2 w3) :
    (∃ B, w.heap.size ≤ B ∧ Ending.returned (.slice (some ⟨w1.heap.size, 0, none⟩) np np) = .returned (.slice (some ⟨B, 0, none⟩) (enclF ns root pts).length (enclF ns root pts).length) ∧ PairsAt w3 (some ⟨B, 0, none⟩) (enclF ns root pts)) ∧ Below w.heap.size w w3 := by
  subst hnp
  have s0 : w.heap.size + 1 ≤ w1.heap.size := by simpa using hb.size
  have hl : (enclF ns root pts).length = nPts pts := hs.lo
  have zo := hs.zo
  simp only [envOf] at zo
  refine ⟨⟨w1.heap.size, by omega, by rw [hl], fun i hi => ⟨w1.heap.size, 0, rfl, zo, ?_⟩⟩, ?_⟩
  · have := hs.out i (by rw [hl] at hi; exact hi)
    simp only [Nat.zero_add]
    have e : (visit ns ns.length root (-1, 0) (startSt ns.length (nPts pts))).out.getD i (0, 0) = (enclF ns root pts)[i] := by
      show (enclF ns root pts).getD i (0, 0) = _
      simp [hi]
    rw [e] at this
    exact this
  · have h1 : Below w.heap.size w w2 := hbe.trans (hb2.mono hbe.size)
    have hle : w.heap.size ≤ w2.heap.size := h1.size
    exact ⟨hk.os.trans h1.os, hk.tape.trans h1.tape, hk.output.trans h1.output, Nat.le_trans h1.size hk.size, fun k hk' => (hk.block k (by omega) ⟨by simp only [envOf]; omega, by simp only [envOf]; omega, by simp only [envOf]; omega⟩).trans (h1.block k hk')⟩

set_option maxHeartbeats 2000000 in
theorem enclosing_any (inp : Value) (an : Option Addr) (cn : Nat) (ns : List Nd) (root pts : Int) (w : World) (h : ProgAt w an ns) (hinp : ∃ a l c, inp = .slice a l c) :
    Calls Try.prog 9 #[.agg #[inp, .slice an ns.length cn, .int .i64 root, .int .i64 pts]] w fun e w' =>
      (∃ B, w.heap.size ≤ B ∧ e = .returned (.slice (some ⟨B, 0, none⟩) (enclF ns root pts).length (enclF ns root pts).length) ∧ PairsAt w' (some ⟨B, 0, none⟩) (enclF ns root pts)) ∧ Below w.heap.size w w' := by
  obtain ⟨ia, il, ic, rfl⟩ := hinp
  obtain ⟨np, hnp⟩ : ∃ np, np = nPts pts := ⟨_, rfl⟩
  have hnp8 : np ≤ 8 := by rw [hnp]; exact nPts_le pts
  have hpts := hid (fun (a b r : Value) (w : World) => hnp ▸ points_nat a b r pts w)
  obtain ⟨C, hC⟩ : ∃ C, C = madeCells #[.int .i64 0, .int .i64 0] (np * 2) := ⟨_, rfl⟩
  obtain ⟨F, hF⟩ : ∃ F, F = madeCells #[.bool false] np := ⟨_, rfl⟩
  obtain ⟨V, hV⟩ : ∃ V, V = madeCells #[.bool false] ns.length := ⟨_, rfl⟩
  have m1 := hC ▸ make_pairs np hnp8
  have m2 := hF ▸ make_bools np (by omega)
  have m3 := hV ▸ make_bools ns.length h.npos
  have HNP := hid hnp; have HH := hid h; have HC := hid hC; have HF := hid hF; have HV := hid hV
  clear hnp h hC hF hV
  go_enter Try.func9, Try.ntmps9
  go_wp2_with ((with_reducible refine (hpts.out _ _ _ _).mono ?_); rintro e w1 ⟨rfl, hb⟩; obtain ⟨hc, hf⟩ := bcell hb; have HB := hid hb; clear hb)
  obtain ⟨W, hW⟩ : ∃ W, W = (((w1.alloc (.cells C 30)).alloc (.cells #[.slice (some ⟨w1.heap.size, 0, none⟩) np np] 28)).alloc (.cells F 4)).alloc (.cells #[.slice (some ⟨w1.heap.size + 1 + 1, 0, none⟩) np np] 43) := ⟨_, rfl⟩
  rw [← hW]
  have hF0 : Fill W (w1.heap.size + 1) w1.heap.size np 0 W := by
    refine ⟨.refl _ _, by rw [hW]; simp only [World.size_alloc]; omega, fun i hi => ?_, fun o => ?_⟩
    · have e : ∀ j, j < np * 2 → C[j]? = some (.int .i64 0) := fun j hj => by
        rw [HC.out, madeCells]
        rcases Nat.mod_two_eq_zero_or_one j with h | h <;> simp [hj, h]
      rw [hW]
      rw [World.cell?_alloc_past (hn := by simp only [World.size_alloc]; omega), World.cell?_alloc_past (hn := by simp only [World.size_alloc]; omega), World.cell?_alloc_past (hn := by simp only [World.size_alloc]; omega), World.cell?_alloc_at (hn := by simp)]
      rw [World.cell?_alloc_past (hn := by simp only [World.size_alloc]; omega), World.cell?_alloc_past (hn := by simp only [World.size_alloc]; omega), World.cell?_alloc_past (hn := by simp only [World.size_alloc]; omega), World.cell?_alloc_at (hn := by simp)]
      exact ⟨e _ (by omega), e _ (by omega)⟩
    · rw [hW, World.frozen?_alloc_past (hn := by simp only [World.size_alloc]; omega), World.frozen?_alloc_past (hn := by simp only [World.size_alloc]; omega), World.frozen?_alloc_past (hn := by simp only [World.size_alloc]; omega), World.frozen?_alloc_at (hn := by simp)]
  have HF0 := hid hF0
  have hbo : W.cell? ⟨w1.heap.size + 1, 0, none⟩ = some (.slice (some ⟨w1.heap.size, 0, none⟩) np np) := by
    rw [hW, World.cell?_alloc_past (hn := by simp only [World.size_alloc]; omega), World.cell?_alloc_past (hn := by simp only [World.size_alloc]; omega), World.cell?_alloc_at (hn := by simp)]; rfl
  have hbf : W.cell? ⟨w1.heap.size + 1 + 1 + 1, 0, none⟩ = some (.slice (some ⟨w1.heap.size + 1 + 1, 0, none⟩) np np) := by
    rw [hW, World.cell?_alloc_at (hn := by simp)]; rfl
  have hWs : W.heap.size = w1.heap.size + 4 := by rw [hW]; simp
  have HWS := hid hWs; have HBO := hid hbo; have HBF := hid hbf; have HW := hid hW
  clear hW hF0 hbo hbf hWs hc hf
  go_loopw [16] (fun i wr => ∃ k : Nat, k ≤ np ∧ i = .int .i64 k ∧ Fill W (w1.heap.size + 1) w1.heap.size np k wr) (fun i _ => np - (intOf i).toNat)
  case atStart => exact ⟨0, Nat.zero_le _, rfl, HF0.out⟩
  case round =>
    obtain ⟨k, hk, rfl, hfill⟩ := hrel
    have HFL := hid hfill
    have c1 : wr.cell? ⟨w1.heap.size + 1, 0, none⟩ = some (.slice (some ⟨w1.heap.size, 0, none⟩) np np) := by
      rw [hfill.keep.cell (p := ⟨w1.heap.size + 1, 0, none⟩) (by have := HWS.out; simp only; omega) (by simp)]; exact HBO.out
    have hs := hfill.keep.size
    have z1 : w1.heap.size < wr.heap.size := by have := HWS.out; omega
    have z2 : w1.heap.size + 1 < wr.heap.size := by have := HWS.out; omega
    by_cases hlt : k < np
    · obtain ⟨r1, r2⟩ := hfill.out k hlt
      rw [if_neg (by omega)] at r1
      have f1 := hfill.no (k * 2)
      have f2 := hfill.no (k * 2 + 1)
      clear hfill
      go_upto_block 1 with fail
      go_cut [] (fun wx => Fill W (w1.heap.size + 1) w1.heap.size np (k + 1) wx)
      case first =>
        go_wp2_with fail
        go_region_with (go_at_call 17; refine (outermost_any _).mono ?_; rintro e w' ⟨rfl, hb⟩; have q1 := (hb.cell (p := ⟨w1.heap.size, k * 2, none⟩) z1).trans r1; have q2 := (hb.cell (p := ⟨w1.heap.size, k * 2 + 1, none⟩) z1).trans r2; have q3 := (hb.frozen (p := ⟨w1.heap.size, k * 2, none⟩) z1).trans f1; have q4 := (hb.frozen (p := ⟨w1.heap.size, k * 2 + 1, none⟩) z1).trans f2; have q5 := (hb.cell (p := ⟨w1.heap.size + 1, 0, none⟩) z2).trans c1; have HB2 := hid hb; clear hb)
        all_goals
          go_wp2_with fail
          go_meet
          case rel => exact (HFL.out.drew.below HB2.out).set hlt
      case rest =>
        have HQ := hid hcut; clear hcut
        go_wp2_with fail
        go_roundw
        case rel => exact ⟨k + 1, by omega, by go_num, HQ.out⟩
        case measure => simp [intOf]; omega
    · obtain rfl : k = np := by omega
      obtain ⟨hctx, hsta, hbel, hunv, n1, n2, z3⟩ := encl_state (ia := ia) (il := il) (ic := ic) (an := an) (cn := cn) (root := root) (pts := pts) HB.out HW.out hfill HV.out HF.out HH.out hnp8
      have HCT := hid hctx; have HST := hid hsta; have HBE := hid hbel; have HU := hid hunv; have HWR := hid z3
      clear hctx hsta hbel hunv hfill
      go_wp2_with fail
      obtain ⟨WP, hWP⟩ : ∃ WP, WP = ((wr.alloc (.cells V 4)).alloc (.cells #[.slice (some ⟨wr.heap.size, 0, none⟩) ns.length ns.length] 43)).alloc (.cells #[cloV w w1 wr] 45) := ⟨_, rfl⟩
      rw [cloV] at hWP
      rw [← hWP]
      have hWPe : WP = worldP w w1 wr ns V := hWP
      have hctx := HCT.out
      have hsta := HST.out
      have hbel := HBE.out
      rw [← hWPe] at hctx hsta hbel
      have g1 := hctx.self
      have g2 : WP.cell? ⟨w.heap.size, 2, none⟩ = some (.int .i64 root) := by
        rw [hWP, World.cell?_alloc_past (hn := by simp only [World.size_alloc]; omega), World.cell?_alloc_past (hn := by simp only [World.size_alloc]; omega), World.cell?_alloc_past (hn := z3)]; exact n2
      have y1 := cell_lt g1
      have y2 := cell_lt g2
      simp only at y1 y2
      simp only [envOf] at g1 y1
      have HCT2 := hid hctx; have HST2 := hid hsta; have HBE2 := hid hbel
      clear hWP hWPe hctx hsta hbel n1 n2 hs c1 z1 z2 z3
      go_region_with (first | (go_at_call 17; refine (outermost_any _).mono ?_; rintro e w' ⟨rfl, hb⟩; have q1 := (hb.cell (p := ⟨wr.heap.size + 1 + 1, 0, none⟩) y1).trans g1; have q2 := (hb.cell (p := ⟨w.heap.size, 2, none⟩) y2).trans g2; have HB2 := hid hb; clear hb) | (go_at_call 18; refine (visit_any (envOf w w1 wr an cn ns k) ns.length root (-1) 0 (startSt ns.length k) _ (HCT2.out.keep (.of_below (Below.trans (Below.refl _ _).drew HB2.out))) (HST2.out.below (Below.trans (Below.refl _ _).drew HB2.out)) HU.out).mono ?_; rintro e w' ⟨rfl, hq⟩; have HQ := hid hq; clear hq))
      all_goals
        obtain ⟨hs3, hu3, hk3⟩ := HQ.out
        have hb3 := Below.trans (Below.refl WP.heap.size WP).drew HB2.out
        have hc3 := (HCT2.out.keep (.of_below hb3)).keep hk3
        have t1 := hc3.outSl
        simp only [envOf] at t1
        have HS3 := hid hs3; have HK3 := hid hk3; have HB3 := hid hb3
        clear hs3 hu3 hk3 hb3 hc3
        go_wp2_with fail
        go_ret
        exact encl_done HNP.out HWR.out HB.out HW.out HCT2.out HST2.out HBE2.out HB3.out HS3.out HK3.out
end Go.Proofs.Ytkdloggkpgjekaa
