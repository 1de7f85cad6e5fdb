/- Words for regions that draw their order: what stays as it was, which digests may be read. -/
import Derived.Test.YtbjfkliijhnloaaDoorE2
namespace Go.Proofs.YtbjfkliijhnloaaDoor
open Go.RowKit
set_option linter.unusedVariables false

/-- Below block B0 the world is as W1 was; the digests of L may be read (block, offset, bytes). -/
structure Sx (B0 : Nat) (W1 : World) (L : List (Nat × Nat × List UInt8)) (W : World) : Prop where
  below : Below B0 W1 W
  rd : ∀ k (h : k < L.length), W.rangeAt L[k].1 L[k].2.1 (L[k].2.2.map u8) ∧ L[k].1 < W.heap.size
theorem Sx.get {B0 : Nat} {W1 W : World} {L : List (Nat × Nat × List UInt8)} (h : Sx B0 W1 L W) {k : Nat} {b o : Nat} {d : List UInt8} (hk : L[k]? = some (b, o, d)) : W.rangeAt b o (d.map u8) := by
  have hl : k < L.length := (List.getElem?_eq_some_iff.1 hk).1
  have := (h.rd k hl).1
  rw [List.getElem?_eq_getElem hl] at hk
  rw [Option.some.inj hk] at this
  exact this
theorem Sx.lt {B0 : Nat} {W1 W : World} {L : List (Nat × Nat × List UInt8)} (h : Sx B0 W1 L W) {k : Nat} {b o : Nat} {d : List UInt8} (hk : L[k]? = some (b, o, d)) : b < W.heap.size := by
  have hl : k < L.length := (List.getElem?_eq_some_iff.1 hk).1
  have := (h.rd k hl).2
  rw [List.getElem?_eq_getElem hl] at hk
  rw [Option.some.inj hk] at this
  exact this
theorem Sx.call {B0 : Nat} {W1 W W' : World} {L : List (Nat × Nat × List UInt8)} (h : Sx B0 W1 L W) (hb : Below W.heap.size W W') (hB : B0 ≤ W1.heap.size) : Sx B0 W1 L W' :=
  ⟨h.below.trans (hb.mono (Nat.le_trans hB h.below.size)), fun k hk => ⟨range_keep (h.rd k hk).1 hb (h.rd k hk).2, Nat.lt_of_lt_of_le (h.rd k hk).2 hb.size⟩⟩
theorem Sx.alloc {B0 : Nat} {W1 W : World} {L : List (Nat × Nat × List UInt8)} (h : Sx B0 W1 L W) (hB : B0 ≤ W1.heap.size) (o : Obj) : Sx B0 W1 L (W.alloc o) := h.call (below_alloc W o) hB
theorem Sx.drew {B0 : Nat} {W1 W : World} {L : List (Nat × Nat × List UInt8)} (h : Sx B0 W1 L W) : Sx B0 W1 L W.drew := ⟨h.below.drew, fun k hk => h.rd k hk⟩
theorem Sx.store {B0 b : Nat} {W1 W : World} {L : List (Nat × Nat × List UInt8)} (h : Sx B0 W1 L W) (hB : B0 ≤ b) (hne : ∀ p ∈ L, p.1 ≠ b) (o : Nat) (vs : List Value) : Sx B0 W1 L (W.setCells b o vs) :=
  ⟨below_setCells hB _ _ _ h.below, fun k hk => ⟨World.rangeAt_setCells_apart (h.rd k hk).1 b o vs (Or.inl (hne _ (List.getElem_mem hk))), by rw [size_setCells]; exact (h.rd k hk).2⟩⟩
theorem Sx.start {B0 : Nat} {W1 : World} {L : List (Nat × Nat × List UInt8)} (h : ∀ p ∈ L, W1.rangeAt p.1 p.2.1 (p.2.2.map u8) ∧ p.1 < W1.heap.size) : Sx B0 W1 L W1.drew :=
  ⟨(Below.refl _ _).drew, fun k hk => h _ (List.getElem_mem hk)⟩
theorem keepT2 {w w' : World} {g : Nat} (h : w.there g 0 16 ∧ g < w.heap.size) (hb : Below w.heap.size w w') : w'.there g 0 16 ∧ g < w'.heap.size := ⟨there_keep h.1 hb h.2, Nat.lt_of_lt_of_le h.2 hb.size⟩
theorem results2_mid {P : Program} {fn : Func} {p t : Tmp} {ty : TypeId} (h : fn.results = #[.cell p ty, .tmp t]) (tmps : Array Value) (w : World) (b o : Nat) (cs : List Value) (d : TypeDesc) (hp : tmps.getD p undef = .pointer (some ⟨b, o, none⟩)) (hc : w.rangeAt b o cs)
    (hu : P.underlying ty = some d) (hd : d.isRow = true) (hi : (P.info? ty).map (·.size) = some cs.length) : (results fn tmps).run P w = .ok (.tuple #[.agg cs.toArray, tmps.getD t undef]) w := by
  have hl := run_loadVar_mid (P := P) w b o ty cs d hc hu hd hi
  have hp' : tmps[p]?.getD undef = .pointer (some ⟨b, o, none⟩) := by simpa using hp
  simp [results, h, hp', asAddr, hl]
/-- A digest and a truth value are handed back. -/
theorem ret_dig2 {fn : Func} {p t : Tmp} (h : fn.results = #[.cell p 28, .tmp t]) (tmps : Array Value) (w : World) (b : Nat) (d : List UInt8) (hd : d.length = 16) (hp : tmps.getD p undef = .pointer (some ⟨b, 0, none⟩)) (ht : w.there b 0 16) :
    (results fn tmps).run Tryd.prog (w.setCells b 0 (d.map u8).toArray.toList) = .ok (.tuple #[dv d, tmps.getD t undef]) (w.setCells b 0 (d.map u8).toArray.toList) :=
  have h1 : Tryd.prog.underlying 28 = some (.array 16 5) := by kernel_rfl
  results2_mid h tmps _ b 0 (d.map u8) (.array 16 5) hp (World.rangeAt_setCells_same w b 0 _ (by simpa [hd] using ht)) h1 rfl (info16 d hd)
/-- A load of a long array whose guard says yes. -/
theorem load_want {P : Program} {ops : Array Oper} {rest : List Oper} {op : Oper} {a : Act} {w : World} {Q : Exit → Act → World → Prop} (hw : Region.wanted op (yielded ops a.tmps) = true) (ty : TypeId) (x : Operand) (ho : op.op = .load ty x)
    (b o : Nat) (hx : a.eval x = .pointer (some ⟨b, o, none⟩)) (cs : List Value) (d : TypeDesc) (hc : w.rangeAt b o cs)
    (hu : P.underlying ty = some d) (hd : d.isRow = true) (hi : (P.info? ty).map (·.size) = some cs.length)
    (h : wpList P ops Q rest (a.put op.dst (.agg cs.toArray)) w) : wpList P ops Q (op :: rest) a w :=
  BigFrame.wpList_want hw fun _ hK => wp_load_mid ty x ho b o hx cs d hc hu hd hi (hK _ _ h)
end Go.Proofs.YtbjfkliijhnloaaDoor
