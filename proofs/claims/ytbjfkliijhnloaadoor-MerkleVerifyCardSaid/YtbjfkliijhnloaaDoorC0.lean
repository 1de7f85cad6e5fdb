/- The compression function of SHA-256, as the package has it. -/
import Derived.Test.YtbjfkliijhnloaaDoorB2
import Derived.Deep.RegionHeld3
import Derived.Deep.MidRow
import Derived.WalkSmall
namespace Go.Proofs.YtbjfkliijhnloaaDoor
open Go.RowKit
set_option linter.unusedVariables false

/-- The state of the hash: eight words. -/
structure H8 where
  (a b c d e f g h : BitVec 32)
def H8.at (s : H8) : Nat → BitVec 32
  | 0 => s.a | 1 => s.b | 2 => s.c | 3 => s.d | 4 => s.e | 5 => s.f | 6 => s.g | _ => s.h
def H8.cells (s : H8) : Array Value := #[.int .u32 (n32 s.a), .int .u32 (n32 s.b), .int .u32 (n32 s.c), .int .u32 (n32 s.d), .int .u32 (n32 s.e), .int .u32 (n32 s.f), .int .u32 (n32 s.g), .int .u32 (n32 s.h)]
/-- The next word of the schedule. -/
def word (bs : List UInt8) (l : List (BitVec 32)) (k : Nat) : BitVec 32 :=
  if k < 16 then loadF ((bs.drop (4 * k)).take 4)
  else l.getD (k - 16) 0 + (rrs (l.getD (k - 15) 0) [7, 18] ^^^ l.getD (k - 15) 0 >>> 3) + l.getD (k - 7) 0 + (rrs (l.getD (k - 2) 0) [17, 19] ^^^ l.getD (k - 2) 0 >>> 10)
def sched (bs : List UInt8) : Nat → List (BitVec 32)
  | 0 => []
  | k + 1 => sched bs k ++ [word bs (sched bs k) k]
theorem sched_length (bs : List UInt8) (k : Nat) : (sched bs k).length = k := by induction k with | zero => rfl | succ k ih => simp [sched, ih]

theorem setCell_cell {w : World} {b i j : Nat} {v u : Value} (h : w.cell? ⟨b, i, none⟩ = some u) : (w.setCell ⟨b, i, none⟩ v).cell? ⟨b, j, none⟩ = if i = j then some v else w.cell? ⟨b, j, none⟩ := by
  by_cases e : i = j
  · subst e; rw [if_pos rfl, World.cell?_setCell_same _ _ _ h]
  · rw [if_neg e, World.cell?_setCell_other _ _ _ _ (by simp)]
theorem setCell_other {w : World} {b b' i j : Nat} {v : Value} (h : b ≠ b') : (w.setCell ⟨b, i, none⟩ v).cell? ⟨b', j, none⟩ = w.cell? ⟨b', j, none⟩ :=
  World.cell?_setCell_other _ _ _ _ (by simp)

/-- Words in a block that may be written. -/
structure Words (w : World) (B n : Nat) (f : Nat → BitVec 32) : Prop where
  lt : B < w.heap.size
  at' : ∀ j, j < n → w.cell? ⟨B, j, none⟩ = some (.int .u32 (n32 (f j)))
  no : ∀ j, w.frozen? ⟨B, j, none⟩ = false
theorem Words.keep {w w' : World} {B n : Nat} {f : Nat → BitVec 32} (h : Words w B n f) (k : Below w.heap.size w w') : Words w' B n f :=
  ⟨Nat.lt_of_lt_of_le h.lt k.size, fun j hj => by rw [k.cell (p := ⟨B, j, none⟩) h.lt]; exact h.at' j hj, fun j => by rw [k.frozen (p := ⟨B, j, none⟩) h.lt]; exact h.no j⟩

theorem Words.set {w : World} {B n k : Nat} {f g : Nat → BitVec 32} {x : BitVec 32} (h : Words w B n f) (hk : k < n) (hg : g k = x) (hgf : ∀ j, j < n → j ≠ k → g j = f j) : Words (w.setCell ⟨B, k, none⟩ (.int .u32 (n32 x))) B n g := by
  refine ⟨by simpa using h.lt, fun j hj => ?_, fun j => ?_⟩
  · rw [setCell_cell (h.at' k hk)]
    by_cases e : k = j
    · rw [if_pos e, ← e, hg]
    · rw [if_neg e, hgf j hj (Ne.symm e)]; exact h.at' j hj
  · rw [World.frozen?_setCell]; exact h.no j
theorem Words.setOther {w : World} {B B' n k : Nat} {f : Nat → BitVec 32} {u : Value} (h : Words w B n f) (hB : B' ≠ B) : Words (w.setCell ⟨B', k, none⟩ u) B n f := by
  refine ⟨by simpa using h.lt, fun j hj => ?_, fun j => ?_⟩
  · rw [setCell_other hB]; exact h.at' j hj
  · rw [World.frozen?_setCell]; exact h.no j
theorem bytes_sub {w : World} {b off : Nat} {bs : List UInt8} (h : BytesAt w (some ⟨b, off, none⟩) bs) (i n : Nat) (hi : i + n ≤ bs.length) : BytesAt w (some ⟨b, off + i, none⟩) ((bs.drop i).take n) := by
  intro j hj
  have hj' : j < n := by simp at hj; omega
  obtain ⟨b', off', e, hlt, hc⟩ := h (i + j) (by omega)
  obtain ⟨rfl, rfl⟩ : b = b' ∧ off = off' := by simpa using e
  refine ⟨b, off + i, rfl, hlt, ?_⟩
  rw [Nat.add_assoc, hc]
  congr 2
  simp [List.getD, hj', List.getElem?_drop]
theorem sched_get (bs : List UInt8) (k j : Nat) (h : j < k) : (sched bs (k + 1)).getD j 0 = (sched bs k).getD j 0 := by
  rw [sched, List.getD, List.getElem?_append_left (by rw [sched_length]; exact h)]; rfl
theorem sched_new (bs : List UInt8) (k : Nat) : (sched bs (k + 1)).getD k 0 = word bs (sched bs k) k := by
  rw [sched, List.getD, List.getElem?_append_right (by rw [sched_length]; exact Nat.le_refl _)]; simp [sched_length]
theorem sched_past (bs : List UInt8) (k j : Nat) (h : k ≤ j) : (sched bs k).getD j 0 = 0 := by
  rw [List.getD, List.getElem?_eq_none (by rw [sched_length]; exact h)]; rfl

theorem words_new (w : World) (cs : Array Value) (t : TypeId) (n : Nat) (f : Nat → BitVec 32) (h : ∀ j, j < n → cs[j]? = some (.int .u32 (n32 (f j)))) : Words (w.alloc (.cells cs t)) w.heap.size n f := by
  refine ⟨by simp, fun j hj => ?_, fun j => ?_⟩
  · rw [World.cell?_alloc_at (hn := rfl)]; simp [h j hj]
  · rw [World.frozen?_alloc_at (hn := rfl)]
theorem H8.cells_at (h : H8) (j : Nat) (hj : j < 8) : h.cells[j]? = some (.int .u32 (n32 (h.at j))) := by
  rcases (show j = 0 ∨ j = 1 ∨ j = 2 ∨ j = 3 ∨ j = 4 ∨ j = 5 ∨ j = 6 ∨ j = 7 by omega) with rfl | rfl | rfl | rfl | rfl | rfl | rfl | rfl <;> rfl
theorem n32_zero : 0 = n32 0#32 := rfl
theorem rot2 (x : BitVec 32) (p q : Nat) (W : World) (b ca : Nat) (hp : 0 < p ∧ p < 32) (hq : 0 < q ∧ q < 32) (hb : b < W.heap.size) (h0 : W.cell? ⟨b, 0, none⟩ = some (.int .i64 p)) (h1 : W.cell? ⟨b, 1, none⟩ = some (.int .i64 q)) :
    Calls Tryd.prog 74 #[.int .u32 (n32 x), .slice (some ⟨b, 0, none⟩) 2 ca] W fun e w' => e = .returned (.int .u32 (n32 (rrs x [p, q]))) ∧ W = w' := by
  refine rotr_any x [p, q] (some ⟨b, 0, none⟩) ca W (by simp; exact ⟨hp, hq⟩) (by simp) (fun i hi => ⟨b, 0, rfl, hb, ?_⟩)
  have hi : i < 2 := hi
  rcases (show i = 0 ∨ i = 1 by omega) with rfl | rfl
  · exact h0
  · exact h1
theorem rot3 (x : BitVec 32) (p q r : Nat) (W : World) (b ca : Nat) (hp : 0 < p ∧ p < 32) (hq : 0 < q ∧ q < 32) (hr : 0 < r ∧ r < 32) (hb : b < W.heap.size) (h0 : W.cell? ⟨b, 0, none⟩ = some (.int .i64 p)) (h1 : W.cell? ⟨b, 1, none⟩ = some (.int .i64 q)) (h2 : W.cell? ⟨b, 2, none⟩ = some (.int .i64 r)) :
    Calls Tryd.prog 74 #[.int .u32 (n32 x), .slice (some ⟨b, 0, none⟩) 3 ca] W fun e w' => e = .returned (.int .u32 (n32 (rrs x [p, q, r]))) ∧ W = w' := by
  refine rotr_any x [p, q, r] (some ⟨b, 0, none⟩) ca W (by simp; exact ⟨hp, hq, hr⟩) (by simp) (fun i hi => ⟨b, 0, rfl, hb, ?_⟩)
  have hi : i < 3 := hi
  rcases (show i = 0 ∨ i = 1 ∨ i = 2 by omega) with rfl | rfl | rfl
  · exact h0
  · exact h1
  · exact h2
theorem lit1 {W : World} {cs : Array Value} {t : TypeId} {n i : Nat} {v : Value} (hn : n = W.heap.size) (hv : cs[i]? = some v) : (W.alloc (.cells cs t)).cell? ⟨n, i, none⟩ = some v := by
  rw [World.cell?_alloc_at (hn := hn)]; simpa using hv
theorem lit2 {W : World} {o : Obj} {cs : Array Value} {t : TypeId} {n i : Nat} {v : Value} (hn : n = W.heap.size) (hv : cs[i]? = some v) : ((W.alloc (.cells cs t)).alloc o).cell? ⟨n, i, none⟩ = some v := by
  rw [World.cell?_alloc_lt _ _ _ (by simp [hn])]; exact lit1 hn hv
/-- What a region of a round reads. -/
theorem held_alloc {W : World} {B i j : Nat} {x y : Value} (h : B < W.heap.size ∧ W.cell? ⟨B, i, none⟩ = some x ∧ W.cell? ⟨B, j, none⟩ = some y) (o : Obj) :
    B < (W.alloc o).heap.size ∧ (W.alloc o).cell? ⟨B, i, none⟩ = some x ∧ (W.alloc o).cell? ⟨B, j, none⟩ = some y := by
  obtain ⟨h0, h1, h2⟩ := h
  have hc : ∀ q, (W.alloc o).cell? ⟨B, q, none⟩ = W.cell? ⟨B, q, none⟩ := fun q => World.cell?_alloc_lt _ _ _ h0
  exact ⟨by simp; omega, by rw [hc]; exact h1, by rw [hc]; exact h2⟩
theorem held_set {W : World} {B i j k : Nat} {x y u : Value} (h : B < W.heap.size ∧ W.cell? ⟨B, i, none⟩ = some x ∧ W.cell? ⟨B, j, none⟩ = some y) (hi : k ≠ i) (hj : k ≠ j) :
    B < (W.setCell ⟨B, k, none⟩ u).heap.size ∧ (W.setCell ⟨B, k, none⟩ u).cell? ⟨B, i, none⟩ = some x ∧ (W.setCell ⟨B, k, none⟩ u).cell? ⟨B, j, none⟩ = some y := by
  obtain ⟨h0, h1, h2⟩ := h
  exact ⟨by simpa using h0, by rw [World.cell?_setCell_other _ _ _ _ (by simp)]; exact h1, by rw [World.cell?_setCell_other _ _ _ _ (by simp)]; exact h2⟩
theorem seen2 {W : World} {p : Addr} {v : Value} (h : W.cell? p = some v) (hp : p.block < W.heap.size) (m : Nat) (A B : Obj) : (((W.drewN m).alloc A).alloc B).cell? p = some v := by
  rw [World.cell?_alloc_lt _ _ _ (by simp; omega), World.cell?_alloc_lt _ _ _ (by simpa using hp)]; simpa using h
theorem seenf2 {W : World} {p : Addr} {v : Bool} (h : W.frozen? p = v) (hp : p.block < W.heap.size) (m : Nat) (A B : Obj) : (((W.drewN m).alloc A).alloc B).frozen? p = v := by
  rw [World.frozen?_alloc_old _ _ _ (by simp; omega), World.frozen?_alloc_old _ _ _ (by have := hp; simp; omega)]; simpa using h
/-- One round. -/
def rnd (s : H8) (k x : BitVec 32) : H8 :=
  let t := s.h + rrs s.e [6, 11, 25] + (s.e &&& s.f ^^^ ~~~s.e &&& s.g) + k + x
  let u := rrs s.a [2, 13, 22] + (s.a &&& s.b ^^^ s.a &&& s.c ^^^ s.b &&& s.c)
  ⟨t + u, s.a, s.b, s.c, s.d + t, s.e, s.f, s.g⟩
def rounds (K l : List (BitVec 32)) (s : H8) : Nat → H8
  | 0 => s
  | k + 1 => rnd (rounds K l s k) (K.getD k 0) (l.getD k 0)
def H8.add (s t : H8) : H8 := ⟨s.a + t.a, s.b + t.b, s.c + t.c, s.d + t.d, s.e + t.e, s.f + t.f, s.g + t.g, s.h + t.h⟩
/-- The round constants and the initial state. -/
def consts : List (BitVec 32) := [
  0x428a2f98, 0x71374491, 0xb5c0fbcf, 0xe9b5dba5, 0x3956c25b, 0x59f111f1, 0x923f82a4, 0xab1c5ed5,
  0xd807aa98, 0x12835b01, 0x243185be, 0x550c7dc3, 0x72be5d74, 0x80deb1fe, 0x9bdc06a7, 0xc19bf174,
  0xe49b69c1, 0xefbe4786, 0x0fc19dc6, 0x240ca1cc, 0x2de92c6f, 0x4a7484aa, 0x5cb0a9dc, 0x76f988da,
  0x983e5152, 0xa831c66d, 0xb00327c8, 0xbf597fc7, 0xc6e00bf3, 0xd5a79147, 0x06ca6351, 0x14292967,
  0x27b70a85, 0x2e1b2138, 0x4d2c6dfc, 0x53380d13, 0x650a7354, 0x766a0abb, 0x81c2c92e, 0x92722c85,
  0xa2bfe8a1, 0xa81a664b, 0xc24b8b70, 0xc76c51a3, 0xd192e819, 0xd6990624, 0xf40e3585, 0x106aa070,
  0x19a4c116, 0x1e376c08, 0x2748774c, 0x34b0bcb5, 0x391c0cb3, 0x4ed8aa4a, 0x5b9cca4f, 0x682e6ff3,
  0x748f82ee, 0x78a5636f, 0x84c87814, 0x8cc70208, 0x90befffa, 0xa4506ceb, 0xbef9a3f7, 0xc67178f2]
def start : H8 := ⟨0x6a09e667, 0xbb67ae85, 0x3c6ef372, 0xa54ff53a, 0x510e527f, 0x9b05688c, 0x1f83d9ab, 0x5be0cd19⟩
def compress (h : H8) (bs : List UInt8) : H8 := (rounds consts (sched bs 64) h 64).add h
def constVs : List Value := consts.map fun x => .int .u32 (n32 x)
/-- The package's tables are as its text has them. -/
structure Tab (w : World) : Prop where
  st : ∀ j, j < 8 → w.cell? ⟨0, j, none⟩ = some (.int .u32 (n32 (start.at j)))
  ks : w.rangeAt 1 0 constVs
  lt : 1 < w.heap.size
theorem Tab.keep {w w' : World} (h : Tab w) (k : Below w.heap.size w w') : Tab w' :=
  ⟨fun j hj => by rw [k.cell (p := ⟨0, j, none⟩) (Nat.lt_trans (Nat.lt_succ_self 0) h.lt)]; exact h.st j hj, fun j v hv => by rw [k.cell (p := ⟨1, 0 + j, none⟩) h.lt]; exact h.ks j v hv, Nat.lt_of_lt_of_le h.lt k.size⟩

structure Loop1 (w : World) (h : H8) (bs : List UInt8) (k : Nat) (wr : World) : Prop where
  below : Below w.heap.size w wr
  hs : Words wr w.heap.size 8 h.at
  rs : Words wr (w.heap.size + 1) 8 (fun _ => 0)
  ws : Words wr (w.heap.size + 1 + 1) 64 (fun j => (sched bs k).getD j 0)

theorem below_drewN2 (W : World) (m : Nat) (A B : Obj) : Below W.heap.size W (((W.drewN m).alloc A).alloc B) :=
  ((below_drewN (Below.refl W.heap.size W) m).alloc (by simp) A).alloc (by simp) B
theorem Loop1.keep {w wr w' : World} {h : H8} {bs : List UInt8} {k : Nat} (hL : Loop1 w h bs k wr) (hb : Below wr.heap.size wr w') : Loop1 w h bs k w' :=
  ⟨hL.below.trans (hb.mono hL.below.size), hL.hs.keep hb, hL.rs.keep hb, hL.ws.keep hb⟩
theorem Loop1.step {w wr : World} {h : H8} {bs : List UInt8} {k : Nat} {x : BitVec 32} (hL : Loop1 w h bs k wr) (hk : k < 64) (hx : word bs (sched bs k) k = x) :
    Loop1 w h bs (k + 1) (wr.setCell ⟨w.heap.size + 1 + 1, k, none⟩ (.int .u32 (n32 x))) := by
  refine ⟨hL.below.setCell (by simp only; omega) _, hL.hs.setOther (by omega), hL.rs.setOther (by omega), hL.ws.set hk (by rw [sched_new, hx]) (fun j hj hne => ?_)⟩
  rcases Nat.lt_or_ge j k with h | h
  · rw [sched_get _ _ _ h]
  · rw [sched_past _ _ _ h, sched_past _ _ _ (by omega)]

theorem Loop1.start (w : World) (h : H8) (bs : List UInt8) (t t' t'' : TypeId) :
    Loop1 w h bs 0 (((w.alloc (.cells h.cells t)).alloc (.cells (Array.replicate 8 (.int .u32 0)) t')).alloc (.cells (Array.replicate 64 (.int .u32 0)) t'')) := by
  refine ⟨((below_alloc w _).alloc (by simp) _).alloc (by simp; omega) _, (Words.keep (words_new w _ _ 8 _ h.cells_at) (below_alloc _ _)).keep (below_alloc _ _), Words.keep ?_ (below_alloc _ _), ?_⟩
  · have := words_new (w.alloc (.cells h.cells t)) (Array.replicate 8 (.int .u32 0)) t' 8 (fun _ => 0) (fun j hj => by simp [hj]; rfl)
    simpa using this
  · have := words_new ((w.alloc (.cells h.cells t)).alloc (.cells (Array.replicate 8 (.int .u32 0)) t')) (Array.replicate 64 (.int .u32 0)) t'' 64 (fun j => (sched bs 0).getD j 0) (fun j hj => by simp [hj, sched]; rfl)
    simpa using this


structure Loop2 (w : World) (h : H8) (bs : List UInt8) (V k : Nat) (W : World) : Prop where
  below : Below w.heap.size w W
  hs : Words W w.heap.size 8 h.at
  rs : Words W (w.heap.size + 1) 8 (fun _ => 0)
  ws : Words W (w.heap.size + 1 + 1) 64 (fun j => (sched bs 64).getD j 0)
  vs : Words W V 8 (rounds consts (sched bs 64) h k).at
  hV : w.heap.size + 1 + 1 < V
theorem Loop2.keep {w wr w' : World} {h : H8} {bs : List UInt8} {V k : Nat} (hL : Loop2 w h bs V k wr) (hb : Below wr.heap.size wr w') : Loop2 w h bs V k w' :=
  ⟨hL.below.trans (hb.mono hL.below.size), hL.hs.keep hb, hL.rs.keep hb, hL.ws.keep hb, hL.vs.keep hb, hL.hV⟩
theorem Loop2.start {w wr : World} {h : H8} {bs : List UInt8} (hL : Loop1 w h bs 64 wr) (t : TypeId) : Loop2 w h bs wr.heap.size 0 (wr.alloc (.cells h.cells t)) := by
  have hk := hL.keep (below_alloc wr (.cells h.cells t))
  exact ⟨hk.below, hk.hs, hk.rs, hk.ws, words_new _ _ _ _ _ h.cells_at, hL.ws.lt⟩
theorem held_t {W : World} {V B k : Nat} {e f g h x : Value} (H : V < W.heap.size ∧ B < W.heap.size ∧ W.cell? ⟨V, 7, none⟩ = some h ∧ W.cell? ⟨V, 4, none⟩ = some e ∧ W.cell? ⟨V, 5, none⟩ = some f ∧ W.cell? ⟨V, 6, none⟩ = some g ∧ W.cell? ⟨B, k, none⟩ = some x) (o : Obj) :
    V < (W.alloc o).heap.size ∧ B < (W.alloc o).heap.size ∧ (W.alloc o).cell? ⟨V, 7, none⟩ = some h ∧ (W.alloc o).cell? ⟨V, 4, none⟩ = some e ∧ (W.alloc o).cell? ⟨V, 5, none⟩ = some f ∧ (W.alloc o).cell? ⟨V, 6, none⟩ = some g ∧ (W.alloc o).cell? ⟨B, k, none⟩ = some x := by
  obtain ⟨h0, h1, h2, h3, h4, h5, h6⟩ := H
  have hv : ∀ q, (W.alloc o).cell? ⟨V, q, none⟩ = W.cell? ⟨V, q, none⟩ := fun q => World.cell?_alloc_lt _ _ _ h0
  have hb : ∀ q, (W.alloc o).cell? ⟨B, q, none⟩ = W.cell? ⟨B, q, none⟩ := fun q => World.cell?_alloc_lt _ _ _ h1
  exact ⟨by simp; omega, by simp; omega, by rw [hv]; exact h2, by rw [hv]; exact h3, by rw [hv]; exact h4, by rw [hv]; exact h5, by rw [hb]; exact h6⟩
theorem litd {W : World} {cs : Array Value} {t : TypeId} {n i : Nat} {v : Value} (hn : n = W.heap.size) (hv : cs[i]? = some v) : (W.alloc (.cells cs t)).drew.cell? ⟨n, i, none⟩ = some v := lit1 hn hv
theorem held_d {W : World} {V B k : Nat} {e f g h x : Value} (H : V < W.heap.size ∧ B < W.heap.size ∧ W.cell? ⟨V, 7, none⟩ = some h ∧ W.cell? ⟨V, 4, none⟩ = some e ∧ W.cell? ⟨V, 5, none⟩ = some f ∧ W.cell? ⟨V, 6, none⟩ = some g ∧ W.cell? ⟨B, k, none⟩ = some x) :
    V < W.drew.heap.size ∧ B < W.drew.heap.size ∧ W.drew.cell? ⟨V, 7, none⟩ = some h ∧ W.drew.cell? ⟨V, 4, none⟩ = some e ∧ W.drew.cell? ⟨V, 5, none⟩ = some f ∧ W.drew.cell? ⟨V, 6, none⟩ = some g ∧ W.drew.cell? ⟨B, k, none⟩ = some x := H
theorem held_u {W : World} {V : Nat} {a b c : Value} (H : V < W.heap.size ∧ W.cell? ⟨V, 0, none⟩ = some a ∧ W.cell? ⟨V, 1, none⟩ = some b ∧ W.cell? ⟨V, 2, none⟩ = some c) (o : Obj) :
    V < (W.alloc o).heap.size ∧ (W.alloc o).cell? ⟨V, 0, none⟩ = some a ∧ (W.alloc o).cell? ⟨V, 1, none⟩ = some b ∧ (W.alloc o).cell? ⟨V, 2, none⟩ = some c := by
  obtain ⟨h0, h1, h2, h3⟩ := H
  have hv : ∀ q, (W.alloc o).cell? ⟨V, q, none⟩ = W.cell? ⟨V, q, none⟩ := fun q => World.cell?_alloc_lt _ _ _ h0
  exact ⟨by simp; omega, by rw [hv]; exact h1, by rw [hv]; exact h2, by rw [hv]; exact h3⟩
theorem held_ud {W : World} {V : Nat} {a b c : Value} (H : V < W.heap.size ∧ W.cell? ⟨V, 0, none⟩ = some a ∧ W.cell? ⟨V, 1, none⟩ = some b ∧ W.cell? ⟨V, 2, none⟩ = some c) :
    V < W.drew.heap.size ∧ W.drew.cell? ⟨V, 0, none⟩ = some a ∧ W.drew.cell? ⟨V, 1, none⟩ = some b ∧ W.drew.cell? ⟨V, 2, none⟩ = some c := H
theorem not32m (x : BitVec 32) : bits BinOp.xor IntKind.u32 IntKind.u32.max (n32 x) = n32 (~~~x) := not32 x
theorem below_allocd (W : World) (o : Obj) : Below W.heap.size W (W.alloc o).drew := (below_alloc W o).drew
theorem Words.upd {w : World} {B n k : Nat} {f : Nat → BitVec 32} (h : Words w B n f) (hk : k < n) (x : BitVec 32) : Words (w.setCell ⟨B, k, none⟩ (.int .u32 (n32 x))) B n (fun j => if j = k then x else f j) :=
  h.set hk (if_pos rfl) (fun j _ hne => if_neg hne)
theorem Words.congr {w : World} {B n : Nat} {f g : Nat → BitVec 32} (h : Words w B n f) (e : ∀ j, j < n → f j = g j) : Words w B n g :=
  ⟨h.lt, fun j hj => by rw [← e j hj]; exact h.at' j hj, h.no⟩
theorem Loop2.set {w wr : World} {h : H8} {bs : List UInt8} {V k : Nat} {f : Nat → BitVec 32} (i : Nat) (x : BitVec 32) (hi : i < 8)
    (hL : Below w.heap.size w wr ∧ Words wr w.heap.size 8 h.at ∧ Words wr (w.heap.size + 1) 8 (fun _ => 0) ∧ Words wr (w.heap.size + 1 + 1) 64 (fun j => (sched bs 64).getD j 0) ∧ Words wr V 8 f ∧ w.heap.size + 1 + 1 < V) :
    Below w.heap.size w (wr.setCell ⟨V, i, none⟩ (.int .u32 (n32 x))) ∧ Words (wr.setCell ⟨V, i, none⟩ (.int .u32 (n32 x))) w.heap.size 8 h.at ∧ Words (wr.setCell ⟨V, i, none⟩ (.int .u32 (n32 x))) (w.heap.size + 1) 8 (fun _ => 0) ∧ Words (wr.setCell ⟨V, i, none⟩ (.int .u32 (n32 x))) (w.heap.size + 1 + 1) 64 (fun j => (sched bs 64).getD j 0) ∧ Words (wr.setCell ⟨V, i, none⟩ (.int .u32 (n32 x))) V 8 (fun j => if j = i then x else f j) ∧ w.heap.size + 1 + 1 < V := by
  obtain ⟨h1, h2, h3, h4, h5, h6⟩ := hL
  exact ⟨h1.setCell (by simp only; omega) _, h2.setOther (by omega), h3.setOther (by omega), h4.setOther (by omega), h5.upd hi x, h6⟩
theorem Loop2.step {w wr : World} {h : H8} {bs : List UInt8} {V k : Nat} {x0 x1 x2 x3 x4 x5 x6 x7 : BitVec 32} (hL : Loop2 w h bs V k wr) (hr : rounds consts (sched bs 64) h (k + 1) = ⟨x0, x1, x2, x3, x4, x5, x6, x7⟩) :
    Loop2 w h bs V (k + 1) ((((((((wr.setCell ⟨V, 0, none⟩ (.int .u32 (n32 x0))).setCell ⟨V, 1, none⟩ (.int .u32 (n32 x1))).setCell ⟨V, 2, none⟩ (.int .u32 (n32 x2))).setCell ⟨V, 3, none⟩ (.int .u32 (n32 x3))).setCell ⟨V, 4, none⟩ (.int .u32 (n32 x4))).setCell ⟨V, 5, none⟩ (.int .u32 (n32 x5))).setCell ⟨V, 6, none⟩ (.int .u32 (n32 x6))).setCell ⟨V, 7, none⟩ (.int .u32 (n32 x7))) := by
  have H := Loop2.set (k := k) 7 x7 (by omega) (Loop2.set (k := k) 6 x6 (by omega) (Loop2.set (k := k) 5 x5 (by omega) (Loop2.set (k := k) 4 x4 (by omega) (Loop2.set (k := k) 3 x3 (by omega) (Loop2.set (k := k) 2 x2 (by omega) (Loop2.set (k := k) 1 x1 (by omega) (Loop2.set (k := k) 0 x0 (by omega) ⟨hL.below, hL.hs, hL.rs, hL.ws, hL.vs, hL.hV⟩)))))))
  obtain ⟨h1, h2, h3, h4, h5, h6⟩ := H
  refine ⟨h1, h2, h3, h4, h5.congr (fun j hj => ?_), h6⟩
  rw [hr]
  rcases (show j = 0 ∨ j = 1 ∨ j = 2 ∨ j = 3 ∨ j = 4 ∨ j = 5 ∨ j = 6 ∨ j = 7 by omega) with rfl | rfl | rfl | rfl | rfl | rfl | rfl | rfl <;> rfl
structure Loop3 (w : World) (h R : H8) (V k : Nat) (W : World) : Prop where
  below : Below w.heap.size w W
  hs : Words W w.heap.size 8 h.at
  rs : Words W (w.heap.size + 1) 8 (fun _ => 0)
  vs : Words W V 8 (fun j => if j < k then R.at j + h.at j else R.at j)
  hV : w.heap.size + 1 + 1 < V
theorem Loop3.start {w W : World} {h : H8} {bs : List UInt8} {V : Nat} (hL : Loop2 w h bs V 64 W) : Loop3 w h (rounds consts (sched bs 64) h 64) V 0 W :=
  ⟨hL.below, hL.hs, hL.rs, hL.vs.congr (fun j _ => by simp), hL.hV⟩
theorem Loop3.step {w W : World} {h R : H8} {V k : Nat} (hL : Loop3 w h R V k W) (hk : k < 8) : Loop3 w h R V (k + 1) (W.setCell ⟨V, k, none⟩ (.int .u32 (n32 (R.at k + h.at k)))) := by
  have hV := hL.hV
  refine ⟨hL.below.setCell (by simp only; omega) _, hL.hs.setOther (by omega), hL.rs.setOther (by omega), (hL.vs.upd hk _).congr (fun j hj => ?_), hV⟩
  by_cases e : j = k
  · subst e; simp
  · simp only [e, if_false]
    by_cases l : j < k
    · rw [if_pos l, if_pos (by omega)]
    · rw [if_neg l, if_neg (by omega)]
theorem Loop3.drew {w W : World} {h R : H8} {V k : Nat} (hL : Loop3 w h R V k W) : Loop3 w h R V k W.drew := ⟨hL.below.drew, ⟨hL.hs.lt, hL.hs.at', hL.hs.no⟩, ⟨hL.rs.lt, hL.rs.at', hL.rs.no⟩, ⟨hL.vs.lt, hL.vs.at', hL.vs.no⟩, hL.hV⟩
theorem Words.all8 {w : World} {B : Nat} {f : Nat → BitVec 32} (hL : Words w B 8 f) (s : H8) :
    Words ((((((((w.setCell ⟨B, 0, none⟩ (.int .u32 (n32 s.a))).setCell ⟨B, 1, none⟩ (.int .u32 (n32 s.b))).setCell ⟨B, 2, none⟩ (.int .u32 (n32 s.c))).setCell ⟨B, 3, none⟩ (.int .u32 (n32 s.d))).setCell ⟨B, 4, none⟩ (.int .u32 (n32 s.e))).setCell ⟨B, 5, none⟩ (.int .u32 (n32 s.f))).setCell ⟨B, 6, none⟩ (.int .u32 (n32 s.g))).setCell ⟨B, 7, none⟩ (.int .u32 (n32 s.h))) B 8 s.at := by
  have H := (((((((hL.upd (k := 0) (by omega) s.a).upd (k := 1) (by omega) s.b).upd (k := 2) (by omega) s.c).upd (k := 3) (by omega) s.d).upd (k := 4) (by omega) s.e).upd (k := 5) (by omega) s.f).upd (k := 6) (by omega) s.g).upd (k := 7) (by omega) s.h
  refine H.congr (fun j hj => ?_)
  rcases (show j = 0 ∨ j = 1 ∨ j = 2 ∨ j = 3 ∨ j = 4 ∨ j = 5 ∨ j = 6 ∨ j = 7 by omega) with rfl | rfl | rfl | rfl | rfl | rfl | rfl | rfl <;> rfl
theorem Words.range {w : World} {B : Nat} {s : H8} (h : Words w B 8 s.at) : w.rangeAt B 0 s.cells.toList := by
  intro j v hv
  have hj : j < 8 := (List.getElem?_eq_some_iff.1 hv).1
  have := s.cells_at j hj
  rw [← Array.getElem?_toList, hv] at this
  rw [Nat.zero_add, h.at' j hj, ← this]
theorem below_8 {n B : Nat} {w0 w : World} (h : Below n w0 w) (hB : n ≤ B) (a b c d e f g i : Value) :
    Below n w0 ((((((((w.setCell ⟨B, 0, none⟩ a).setCell ⟨B, 1, none⟩ b).setCell ⟨B, 2, none⟩ c).setCell ⟨B, 3, none⟩ d).setCell ⟨B, 4, none⟩ e).setCell ⟨B, 5, none⟩ f).setCell ⟨B, 6, none⟩ g).setCell ⟨B, 7, none⟩ i) :=
  (((((((h.setCell (p := ⟨B, 0, none⟩) hB _).setCell (p := ⟨B, 1, none⟩) hB _).setCell (p := ⟨B, 2, none⟩) hB _).setCell (p := ⟨B, 3, none⟩) hB _).setCell (p := ⟨B, 4, none⟩) hB _).setCell (p := ⟨B, 5, none⟩) hB _).setCell (p := ⟨B, 6, none⟩) hB _).setCell (p := ⟨B, 7, none⟩) hB _
theorem results_mid {P : Program} {fn : Func} {p : Tmp} {ty : TypeId} (h : fn.results = #[.cell p ty]) (tmps : Array Value) (w : World) (b o : Nat) (cs : List Value) (d : TypeDesc) (hp : tmps.getD p undef = .pointer (some ⟨b, o, none⟩)) (hc : w.rangeAt b o cs)
    (hu : P.underlying ty = some d) (hd : d.isRow = true) (hi : (P.info? ty).map (·.size) = some cs.length) : (results fn tmps).run P w = .ok (.agg cs.toArray) w := by
  have hl := run_loadVar_mid (P := P) w b o ty cs d hc hu hd hi
  have hp' : tmps[p]?.getD undef = .pointer (some ⟨b, o, none⟩) := by simpa using hp
  simp [results, h, hp', asAddr, hl]
theorem H8.add_at (s t : H8) (j : Nat) (hj : j < 8) : (s.add t).at j = s.at j + t.at j := by
  rcases (show j = 0 ∨ j = 1 ∨ j = 2 ∨ j = 3 ∨ j = 4 ∨ j = 5 ∨ j = 6 ∨ j = 7 by omega) with rfl | rfl | rfl | rfl | rfl | rfl | rfl | rfl <;> rfl
theorem constVs_get (k : Nat) (h : k < 64) : constVs.toArray[k]? = some (.int .u32 (n32 (consts.getD k 0))) := by
  have : k < consts.length := h
  simp [constVs, List.getD, this]
set_option maxRecDepth 100000 in
theorem const_index (k : Nat) (hk : k < 64) (w : World) : (Instr.index 100 (.agg constVs.toArray) (.int .i64 k)).run Tryd.prog w = .ok (.int .u32 (n32 (consts.getD k 0))) w := by
  have h : Tryd.prog.underlying 100 = some (.array 64 89) := rfl
  have hk2 : (k : Int) < 64 := by omega
  have hk3 : k < constVs.length := hk
  simp [Instr.index, run_underlying h, asIntOf, go_sem, hk3, hk]
  have : constVs[k]? = some (.int .u32 (n32 (consts.getD k 0))) := by have := constVs_get k hk; simpa using this
  rw [List.getElem?_eq_getElem hk3] at this
  simpa using this

theorem rounds_succ (K l : List (BitVec 32)) (s : H8) (k : Nat) : rounds K l s (k + 1) = rnd (rounds K l s k) (K.getD k 0) (l.getD k 0) := rfl

end Go.Proofs.YtbjfkliijhnloaaDoor
