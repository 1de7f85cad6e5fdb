/- sha.Sum walked. -/
import Derived.Test.YtbjfkliijhnloaaDoorC3
namespace Go.Proofs.YtbjfkliijhnloaaDoor
open Go.RowKit Go.Shelf
set_option linter.unusedVariables false
attribute [local go_sem] Oper.semAt_some

/-- Behind the call's first steps: the result's 32 cells may be written; all that lay lies as it lay. -/
structure Sm (w W : World) : Prop where
  below : Below w.heap.size w W
  there : W.there w.heap.size 0 32
  lt : w.heap.size < W.heap.size
theorem Sm.keep {w W W' : World} (h : Sm w W) (k : Below (w.heap.size + 1) W W') : Sm w W' :=
  ⟨h.below.trans (k.mono (Nat.le_succ _)), fun j hj => by
    rw [k.cell (p := ⟨w.heap.size, 0 + j, none⟩) (Nat.lt_succ_self _), k.frozen (p := ⟨w.heap.size, 0 + j, none⟩) (Nat.lt_succ_self _)]; exact h.there j hj, Nat.lt_of_lt_of_le h.lt k.size⟩
theorem Sm.start (w : World) (cs : Array Value) (t : TypeId) (h : cs.size = 32) : Sm w (w.alloc (.cells cs t)) := by
  refine ⟨below_alloc w _, fun j hj => ?_, by simp⟩
  rw [World.cell?_alloc_at (hn := rfl), World.frozen?_alloc_at (hn := rfl)]
  simp [h, hj]
theorem Own.some {base : Nat} {w : World} {v : Value} {bs : List UInt8} (h : Own base w v bs) (hn : 0 < bs.length) : ∃ g cap, v = .slice (some ⟨g, 0, none⟩) bs.length cap ∧ base ≤ g ∧ g < w.heap.size ∧ bs.length ≤ cap ∧ BytesAt w (some ⟨g, 0, none⟩) bs := by
  obtain ⟨a, c, e, -, hb, hx⟩ := h.form
  rcases h.2 with ⟨rfl, h0⟩ | ⟨g, cap, cur, rfl, hg, hh, hle, _, hsz, htk⟩
  · omega
  · simp only [Value.slice.injEq] at e
    obtain ⟨rfl, -, rfl⟩ := e
    exact ⟨g, cap, rfl, hg, (hb _ rfl).2, hle, hx⟩
theorem Words.ownFrom {w W : World} {B n : Nat} {f : Nat → BitVec 32} {row : Option Nat} (h : Words w B n f) (hg : w.grownBy W row) (hr : ∀ r, row = some r → ∃ o : Obj, w.heap[r]? = some o ∧ o.isCells = false) (hn : 0 < n) : Words W B n f :=
  ⟨Nat.lt_of_lt_of_le h.lt hg.size, fun j hj => cell_kept (h.at' j hj) hg hr, fun j => by
    obtain ⟨o, ho, hc⟩ := cells_of_cell (h.at' 0 hn)
    have hb : W.heap[B]? = w.heap[B]? := grownBy_keeps_cells hg hr ho hc
    rw [World.frozen?_of_block (a := ⟨B, j, none⟩) hb]; exact h.no j⟩
theorem comp8 (h : H8) (a : Option Addr) (ca : Nat) (bs : List UInt8) (w : World) (hT : Tab w) (hx : BytesAt w a bs) (hl : bs.length = 64) (hca : 64 ≤ ca) :
    Calls Tryd.prog 69 #[.agg #[.int .u32 (n32 h.a), .int .u32 (n32 h.b), .int .u32 (n32 h.c), .int .u32 (n32 h.d), .int .u32 (n32 h.e), .int .u32 (n32 h.f), .int .u32 (n32 h.g), .int .u32 (n32 h.h)], .slice a 64 ca] w
      fun e w' => e = .returned (.agg #[.int .u32 (n32 (compress h bs).a), .int .u32 (n32 (compress h bs).b), .int .u32 (n32 (compress h bs).c), .int .u32 (n32 (compress h bs).d), .int .u32 (n32 (compress h bs).e), .int .u32 (n32 (compress h bs).f), .int .u32 (n32 (compress h bs).g), .int .u32 (n32 (compress h bs).h)]) ∧ Below w.heap.size w w' := comp_any h a ca bs w hT hx hl hca
/-- Between two rounds. -/
structure Mid (w4 : World) (m : List UInt8) {nb : Nat} (pre : List (Fin nb)) (W : World) : Prop where
  ws : Words W w4.heap.size 8 (after m pre).at
  st : W.cell? ⟨w4.heap.size + 1, 0, none⟩ = some (.func (.func 69) #[] #[])
  below : Below w4.heap.size w4 W
  big : w4.heap.size + 4 ≤ W.heap.size
theorem Mid.own (w4 : World) (m : List UInt8) (nb B : Nat) (hB : w4.heap.size ≤ B) : OwnFrom B (Mid w4 m (nb := nb)) := fun s A C row hs hg hr =>
  ⟨hs.ws.ownFrom hg (fun r e => (hr r e).2) (by omega), cell_kept hs.st hg (fun r e => (hr r e).2), hs.below.trans ((Below.refl w4.heap.size A).grown hg hs.below.size (fun r e => Nat.le_trans hB (hr r e).1)), Nat.le_trans hs.big hg.size⟩
theorem Words.eight {W : World} {B : Nat} {s : H8} (h : Words W B 8 s.at) : W.cell? ⟨B, 0, none⟩ = some (.int .u32 (n32 s.a)) ∧ W.cell? ⟨B, 1, none⟩ = some (.int .u32 (n32 s.b)) ∧ W.cell? ⟨B, 2, none⟩ = some (.int .u32 (n32 s.c)) ∧ W.cell? ⟨B, 3, none⟩ = some (.int .u32 (n32 s.d)) ∧
    W.cell? ⟨B, 4, none⟩ = some (.int .u32 (n32 s.e)) ∧ W.cell? ⟨B, 5, none⟩ = some (.int .u32 (n32 s.f)) ∧ W.cell? ⟨B, 6, none⟩ = some (.int .u32 (n32 s.g)) ∧ W.cell? ⟨B, 7, none⟩ = some (.int .u32 (n32 s.h)) :=
  ⟨h.at' 0 (by omega), h.at' 1 (by omega), h.at' 2 (by omega), h.at' 3 (by omega), h.at' 4 (by omega), h.at' 5 (by omega), h.at' 6 (by omega), h.at' 7 (by omega)⟩
theorem Tab.cells {w : World} (h : Tab w) : w.cell? ⟨0, 0, none⟩ = some (.int .u32 (n32 start.a)) ∧ w.cell? ⟨0, 1, none⟩ = some (.int .u32 (n32 start.b)) ∧ w.cell? ⟨0, 2, none⟩ = some (.int .u32 (n32 start.c)) ∧ w.cell? ⟨0, 3, none⟩ = some (.int .u32 (n32 start.d)) ∧
    w.cell? ⟨0, 4, none⟩ = some (.int .u32 (n32 start.e)) ∧ w.cell? ⟨0, 5, none⟩ = some (.int .u32 (n32 start.f)) ∧ w.cell? ⟨0, 6, none⟩ = some (.int .u32 (n32 start.g)) ∧ w.cell? ⟨0, 7, none⟩ = some (.int .u32 (n32 start.h)) :=
  ⟨h.st 0 (by omega), h.st 1 (by omega), h.st 2 (by omega), h.st 3 (by omega), h.st 4 (by omega), h.st 5 (by omega), h.st 6 (by omega), h.st 7 (by omega)⟩
theorem alloc_le' {n : Nat} {w : World} (h : n ≤ w.heap.size) (o : Obj) : n ≤ (w.alloc o).heap.size := alloc_le h o
theorem keep_app {n : Nat} {w w2 : World} {o : Obj} (hn : n ≤ w.heap.size) (hb : Below n (w.alloc o) w2) : Below n w w2 := ((below_alloc w o).mono hn).trans hb
theorem u8_128 : Value.int .u8 128 = u8 128 := rfl
theorem u8_0 : Value.int .u8 0 = u8 0 := rfl

theorem below_setCells {B b : Nat} {a : World} (hb : B ≤ b) : ∀ (vs : List Value) (o : Nat) (w : World), Below B a w → Below B a (w.setCells b o vs)
  | [], _, _, h => h
  | v :: r, o, w, h => below_setCells hb r (o + 1) _ (h.setCell (p := ⟨b, o, none⟩) hb v)
theorem heap_setCells {b k : Nat} (hb : b ≠ k) : ∀ (vs : List Value) (o : Nat) (w : World), (w.setCells b o vs).heap[k]? = w.heap[k]?
  | [], _, _ => rfl
  | v :: r, o, w => by rw [World.setCells, heap_setCells hb r (o + 1)]; exact Below.heap_setCell w ⟨b, o, none⟩ v k (Ne.symm hb)
theorem bytes_range {w : World} {g : Nat} {bs : List UInt8} (h : BytesAt w (some ⟨g, 0, none⟩) bs) : w.rangeAt g 0 (bs.map u8) := by
  intro j v hv
  have hj : j < bs.length := by have := (List.getElem?_eq_some_iff.1 hv).1; simpa using this
  obtain ⟨b, off, e, -, hc⟩ := h.get hj
  simp only [Option.some.injEq, Addr.mk.injEq] at e
  obtain ⟨rfl, rfl, -⟩ := e
  rw [hc]; rw [← hv]; simp [hj, u8]
theorem to_array (a : Addr) (c : Nat) (w : World) : (Instr.arrayAt 80 (.slice (some a) 32 c)).run Tryd.prog w = .ok (.pointer (some a)) w := by
  have h : Tryd.prog.underlying 80 = some (.array 32 5) := by kernel_rfl
  simp [Instr.arrayAt, run_underlying h]
theorem info32 (bs : List UInt8) (h : bs.length = 32) : (Tryd.prog.info? 80).map (·.size) = some (bs.map u8).length := by rw [List.length_map, h]; kernel_rfl
theorem keepsFrom_below {B : Nat} {W W' : World} (h : Below W.heap.size W W') : KeepsFrom B W W' :=
  ⟨h.size, fun k o _ hk _ => by rw [h.block k (Array.getElem?_eq_some_iff.1 hk).1]; exact hk⟩
theorem keepsFrom_set {B : Nat} {W W' : World} (h : KeepsFrom B W W') (a : Addr) (v : Value) : KeepsFrom B W (W'.setCell a v) := h.trans ((KeepsOthers.setCell W' a v).from B)
theorem keepTwo_set {p q : Nat} {W W' : World} (h : KeepTwo p q W W') (b i : Nat) (v : Value) (hp : b ≠ p) (hq : b ≠ q) : KeepTwo p q W (W'.setCell ⟨b, i, none⟩ v) :=
  ⟨(Below.heap_setCell _ _ _ _ (Ne.symm hp)).trans h.1, (Below.heap_setCell _ _ _ _ (Ne.symm hq)).trans h.2⟩
theorem Mid.step {w4 W w6 : World} {m : List UInt8} {nb : Nat} {pre : List (Fin nb)} {x : Fin nb} (h : Mid w4 m pre W) (hb : Below W.heap.size W w6) (B p q : Nat) (hp : w4.heap.size < p) (hq : w4.heap.size < q) (hpW : p < W.heap.size) (hqW : q < W.heap.size) (s : H8) (hs : compress (after m pre) (chunkOf m x.1) = s) :
    let w8 := ((((((((w6.setCell ⟨w4.heap.size, 0, none⟩ (.int .u32 (n32 s.a))).setCell ⟨w4.heap.size, 1, none⟩ (.int .u32 (n32 s.b))).setCell ⟨w4.heap.size, 2, none⟩ (.int .u32 (n32 s.c))).setCell ⟨w4.heap.size, 3, none⟩ (.int .u32 (n32 s.d))).setCell ⟨w4.heap.size, 4, none⟩ (.int .u32 (n32 s.e))).setCell ⟨w4.heap.size, 5, none⟩ (.int .u32 (n32 s.f))).setCell ⟨w4.heap.size, 6, none⟩ (.int .u32 (n32 s.g))).setCell ⟨w4.heap.size, 7, none⟩ (.int .u32 (n32 s.h)))
    KeepsFrom B W w8 ∧ KeepTwo p q W w8 ∧ Mid w4 m (pre ++ [x]) w8 := by
  have hpn : w4.heap.size ≠ p := by omega
  have hqn : w4.heap.size ≠ q := by omega
  refine ⟨?_, ?_, ?_, ?_, ?_, ?_⟩
  · exact keepsFrom_set (keepsFrom_set (keepsFrom_set (keepsFrom_set (keepsFrom_set (keepsFrom_set (keepsFrom_set (keepsFrom_set (keepsFrom_below hb) _ _) _ _) _ _) _ _) _ _) _ _) _ _) _ _
  · exact keepTwo_set (keepTwo_set (keepTwo_set (keepTwo_set (keepTwo_set (keepTwo_set (keepTwo_set (keepTwo_set ⟨hb.block _ hpW, hb.block _ hqW⟩ _ _ _ hpn hqn) _ _ _ hpn hqn) _ _ _ hpn hqn) _ _ _ hpn hqn) _ _ _ hpn hqn) _ _ _ hpn hqn) _ _ _ hpn hqn) _ _ _ hpn hqn
  · rw [after_snoc, hs]
    exact (h.ws.keep hb).all8 s
  · have hst := cell_lt h.st
    have hc : w6.cell? ⟨w4.heap.size + 1, 0, none⟩ = some (.func (.func 69) #[] #[]) := (hb.cell (p := ⟨w4.heap.size + 1, 0, none⟩) hst).trans h.st
    rw [setCell_other (by omega), setCell_other (by omega), setCell_other (by omega), setCell_other (by omega), setCell_other (by omega), setCell_other (by omega), setCell_other (by omega), setCell_other (by omega)]
    exact hc
  · exact below_8 (h.below.trans (hb.mono h.below.size)) (Nat.le_refl _) _ _ _ _ _ _ _ _
  · have := h.big; have := hb.size; simp; omega
set_option maxRecDepth 100000 in
theorem state_index (s : H8) (k : Nat) (hk : k < 8) (w : World) : (Instr.index 91 (.agg #[.int .u32 (n32 s.a), .int .u32 (n32 s.b), .int .u32 (n32 s.c), .int .u32 (n32 s.d), .int .u32 (n32 s.e), .int .u32 (n32 s.f), .int .u32 (n32 s.g), .int .u32 (n32 s.h)]) (.int .i64 k)).run Tryd.prog w = .ok (.int .u32 (n32 (s.at k))) w := by
  have h : Tryd.prog.underlying 91 = some (.array 8 89) := rfl
  rcases (show k = 0 ∨ k = 1 ∨ k = 2 ∨ k = 3 ∨ k = 4 ∨ k = 5 ∨ k = 6 ∨ k = 7 by omega) with rfl | rfl | rfl | rfl | rfl | rfl | rfl | rfl <;> simp [Instr.index, run_underlying h, asIntOf, go_sem, H8.at]
theorem wrap64_n32 (x : BitVec 32) : IntKind.u64.wrap (n32 x) = n32 x := by have := n32_bd x; simp [IntKind.wrap, IntKind.bits, IntKind.signed]; omega
theorem out_succ (s : H8) (k : Nat) : s.out (k + 1) = s.out k ++ beTop (s.at k).toNat 4 4 := rfl

set_option maxRecDepth 100000 in
set_option maxHeartbeats 2000000 in
theorem sum_any (a : Option Addr) (n c : Nat) (bs : List UInt8) (w : World) (hT : Tab w) (hn : n = bs.length) (hc : a = none → c = 0) (hx : BytesAt w a bs) (hl : bs.length ≤ 1000000000000) :
    Calls Tryd.prog 60 #[.slice a n c] w fun e w' => e = .returned (.agg ((sum bs).map u8).toArray) ∧ Below w.heap.size w w' := by
  subst hn
  have HT := hid hT
  have HCL := hid (clone_any a bs.length c bs · rfl hc · (by omega))
  have HX := hid hx
  have HL := hid hl
  have HL1 := hid (show bs.length + [(128 : UInt8)].length ≤ 100000000000000 by simp; omega)
  clear hT hc hx
  refine (callsIn_wide (n := 3)).1 ?_
  refine callsIn_of_wp_marks Tryd.func60 rfl trivial ?_ rfl
  refine wpIn_wide.2 ?_
  simp only [Tryd.ntmps60, List.size_toArray, List.length_cons, List.length_nil, Nat.reduceAdd, Nat.reduceSub, Array.replicate_succ, Array.replicate_zero, List.push_toArray, List.append_toArray, List.nil_append, List.cons_append]
  go_wp2_with (first
    | ((with_reducible refine (HCL.out _ (HX.out.keep (below_alloc w _))).mono ?_); rintro e w1 ⟨⟨v, rfl, hv⟩, hb⟩; rw [World.size_alloc] at hv hb; have HV := hid hv; have HSM := hid ((Sm.start w _ _ rfl).keep hb); clear hv hb)
    | (at_builtin; refine wp_app rfl _ _ rfl (w.heap.size + 1) _ bs [128] rfl (HV.out.alloc _) (some ⟨w1.heap.size, 0, none⟩) 1 1 rfl rfl (fun h => by cases h) (bytes_one' w1 _ _ _ u8_128) HL1.out (alloc_le' HSM.out.lt _) (fun v2 w2 hv2 hb2 => ?_); have HV2 := hid hv2; have HSM2 := hid (HSM.out.keep (keep_app HSM.out.lt hb2)); clear hv2 hb2))
  clear HV HSM HCL HX HL1
  go_loopw [3] (fun o wr => ∃ k : Nat, k ≤ zeros bs.length ∧ Own (w.heap.size + 1) wr o (bs ++ [128] ++ List.replicate k 0) ∧ Sm w wr) (fun o _ => 100 + bs.length - (match o with | .slice _ n _ => n | _ => 0))
  case atStart => exact ⟨0, Nat.zero_le _, by simpa using HV2.out, HSM2.out⟩
  case round =>
    obtain ⟨k, hk, hown, hsm⟩ := hrel
    obtain ⟨ad, cp, rfl, -, -, -⟩ := hown.form
    have hlen : (bs ++ [128] ++ List.replicate k 0).length = bs.length + 1 + k := by simp; omega
    rw [hlen] at hown
    rw [hlen]
    have HOW := hid hown
    have HSM := hid hsm
    clear hown hsm
    by_cases hlt : k < zeros bs.length
    · have hne : ¬ (((bs.length : Int) + 1 + k) % 64 = 56) := by unfold zeros at hlt; omega
      have HL1 := hid (show (bs ++ [128] ++ List.replicate k 0).length + [(0 : UInt8)].length ≤ 100000000000000 by unfold zeros at hlt; simp; omega)
      go_wp2_with (at_builtin; refine wp_app rfl _ _ rfl (w.heap.size + 1) _ _ [0] rfl (HOW.out.alloc _) (some ⟨wr.heap.size, 0, none⟩) 1 1 rfl rfl (fun h => by cases h) (bytes_one' wr _ _ _ u8_0) HL1.out (alloc_le' HSM.out.lt _) (fun v3 w3 hv3 hb3 => ?_); have HV3 := hid hv3; have HSM3 := hid (HSM.out.keep (keep_app HSM.out.lt hb3)); clear hv3 hb3)
      go_roundw
      case rel => exact ⟨k + 1, by omega, by rw [show bs ++ [128] ++ List.replicate (k + 1) 0 = bs ++ [128] ++ List.replicate k 0 ++ [(0 : UInt8)] by simp [List.replicate_succ']]; exact HV3.out, HSM3.out⟩
      case measure =>
        obtain ⟨ad3, cp3, rfl, -, -, -⟩ := HV3.out.form
        simp; unfold zeros at hlt; omega
    · obtain rfl : k = zeros bs.length := by omega
      have heq : (((bs.length : Int) + 1 + (zeros bs.length : Nat)) % 64 = 56) := by unfold zeros; omega
      have e1 : IntKind.u64.wrap (bs.length : Int) = bs.length := by simp [IntKind.wrap, IntKind.bits, IntKind.signed]; omega
      have e2 : IntKind.u64.wrap (8 * (bs.length : Int)) = 8 * bs.length := by simp [IntKind.wrap, IntKind.bits, IntKind.signed]; omega
      have hst := (store_any (w.heap.size + 1) _ _ (8 * bs.length) 8 wr HOW.out HSM.out.lt (by omega) (by omega) (by unfold zeros; simp; omega))
      have h8 : ((8 * bs.length : Nat) : Int) = 8 * (bs.length : Int) := by simp
      rw [h8, show ((8 : Nat) : Int) = 8 from rfl] at hst
      have HST := hid hst
      clear hst
      go_wp2_with ((with_reducible refine (HST.out).mono ?_); rintro e w4 ⟨⟨v4, rfl, hv⟩, hb⟩; have HV4 := hid hv; have HSM4 := hid (HSM.out.keep hb); clear hv hb; have HT4 := hid (HT.out.keep HSM4.out.below); obtain ⟨g0, g1, g2, g3, g4, g5, g6, g7⟩ := HT4.out.cells)
      clear g0 g1 g2 g3 g4 g5 g6 g7 HST HOW HSM
      rw [show bs ++ [128] ++ List.replicate (zeros bs.length) 0 ++ beTop (8 * bs.length) 8 8 = padded bs from rfl] at HV4
      obtain ⟨nb, hnb⟩ := padded_64 bs
      have hpl := padded_length bs
      have hz : zeros bs.length < 64 := by unfold zeros; omega
      obtain ⟨m, hm⟩ : ∃ m, padded bs = m := ⟨_, rfl⟩
      rw [hm] at HV4 hnb hpl
      obtain ⟨g, cap, rfl, hg1, hg2, hcap, hbm⟩ := HV4.out.some (by omega)
      rw [hnb]
      rw [hnb] at HV4 hcap
      have HBM := hid hbm
      clear hbm
      go_wp2_with ((with_reducible refine (chunk_any _ _ _ _).mono ?_); rintro e w5 ⟨rfl, rfl⟩)
      have HW := hid (words_new w4 #[Value.int IntKind.u32 (n32 start.a), Value.int IntKind.u32 (n32 start.b), Value.int IntKind.u32 (n32 start.c), Value.int IntKind.u32 (n32 start.d), Value.int IntKind.u32 (n32 start.e), Value.int IntKind.u32 (n32 start.f), Value.int IntKind.u32 (n32 start.g), Value.int IntKind.u32 (n32 start.h)] 91 8 start.at start.cells_at)
      refine (wpIn_wide (n := 3)).1 ?_
      refine wpIn_rangeFunc_ownG (gf := 75) (lb := #[.pointer (some ⟨w4.heap.size + 1 + 1, 0, none⟩), .pointer (some ⟨w4.heap.size + 1 + 1 + 1, 0, none⟩)]) rfl (by omega) rfl trivial (enters_of Tryd.func75 (by kernel_rfl) rfl)
        (chunk_stops 2 (by omega) (w4.heap.size + 1 + 1) (w4.heap.size + 1 + 1 + 1) g 0 nb cap hcap (by omega) _ (by simp) (by simp) ?b1 ?b2) KeepTwo.t (KeepTwo.b (by simp) (by simp)) (Below.refl _ _) (fun _ => rfl)
        (Mid w4 m) (fun _ _ _ => False) (Mid.own w4 m nb _ (by simp; omega)) (fun _ _ _ _ _ hs _ _ => hs) ?h0 (fun x : Fin nb => { tmps := #[.slice a bs.length c, undef, .pointer (some ⟨w.heap.size, 0, none⟩), .slice (some ⟨g, 0, none⟩) (64 * nb) cap, .pointer (some ⟨w4.heap.size, 0, none⟩), .pointer (some ⟨w4.heap.size + 1, 0, none⟩), .slice (some ⟨g, 64 * x.1, none⟩) 64 64, undef, undef, undef, .slice a bs.length c, v, .slice (some ⟨w1.heap.size, 0, none⟩) 1 1, v2, .slice ad (bs.length + 1 + zeros bs.length) cp, .int .i64 ((bs.length : Int) + 1 + (zeros bs.length : Int)), .int .i64 56, .bool false, u18, u19, u20, .slice ad (bs.length + 1 + zeros bs.length) cp, .slice a bs.length c, .int .i64 (bs.length : Int), .int .u64 (bs.length : Int), .int .u64 (8 * (bs.length : Int)), .slice (some ⟨g, 0, none⟩) (64 * nb) cap, .agg #[.int .u32 (n32 start.a), .int .u32 (n32 start.b), .int .u32 (n32 start.c), .int .u32 (n32 start.d), .int .u32 (n32 start.e), .int .u32 (n32 start.f), .int .u32 (n32 start.g), .int .u32 (n32 start.h)], .slice (some ⟨g, 0, none⟩) (64 * nb) cap, .func (.func 75) #[] #[.pointer (some ⟨w4.heap.size + 1 + 1, 0, none⟩), .pointer (some ⟨w4.heap.size + 1 + 1 + 1, 0, none⟩)], .slice (some ⟨g, 64 * x.1, none⟩) 64 64, undef, undef, undef, undef, undef, undef, undef, undef, undef, undef, undef, undef, undef, undef, undef, undef], defers := [] }) ?assign ?body ?done ?stop
      case assign =>
        intro l x W K hK
        gi_wp2
        exact hK
      case b1 =>
        rw [World.cell?_alloc_lt _ _ _ (by simp)]
        exact lit1 (by simp) rfl
      case b2 => exact lit1 (by simp) rfl
      case h0 =>
        refine ⟨((HW.out.keep (below_alloc _ _)).keep (below_alloc _ _)).keep (below_alloc _ _), ?_, (((below_alloc w4 _).alloc (by simp) _).alloc (by simp; omega) _).alloc (by simp; omega) _, by simp⟩
        rw [World.cell?_alloc_lt _ _ _ (by simp), World.cell?_alloc_lt _ _ _ (by simp)]
        exact lit1 (by simp) rfl
      case body =>
        rintro l pre x W ⟨hw, hst, hB, hbig⟩ hlen
        have hx := x.2
        obtain ⟨c0, c1, c2, c3, c4, c5, c6, c7⟩ := hw.eight
        have hby := bytes_sub (HBM.out.keep hB) (64 * x.1) 64 (by omega)
        rw [Nat.zero_add] at hby
        have HC := hid (CallsIn.inRound (n := 0) l (callsIn_wide.2 (comp8 (after m pre) (some ⟨g, 64 * x.1, none⟩) 64 (chunkOf m x.1) W (HT4.out.keep hB) hby (chunkOf_length hnb hx) (Nat.le_refl _))))
        obtain ⟨s, hs⟩ : ∃ s, compress (after m pre) (chunkOf m x.1) = s := ⟨_, rfl⟩
        rw [hs] at HC
        gi_wp2_with (refine ⟨trivial, ?_⟩; refine HC.out.mono ?_; rintro e w6 ⟨rfl, hb6⟩; have HB6 := hid hb6; obtain ⟨d0, d1, d2, d3, d4, d5, d6, d7⟩ := (hw.keep hb6).eight; have fz := (hw.keep hb6).no; clear hb6)
        have hz := cell_lt hst
        exact Mid.step ⟨hw, hst, hB, hbig⟩ HB6.out _ _ _ (by omega) (by omega) (by omega) (by omega) s hs
      case stop =>
        rintro D c pre W _ _ h _
        exact h.elim
      case done =>
        rintro D xs W hD rfl ⟨hw, hst, hB, hbig⟩ hK
        rw [after_all] at hw
        obtain ⟨s, hs⟩ : ∃ s, blocks m nb = s := ⟨_, rfl⟩
        rw [hs] at hw
        obtain ⟨c0, c1, c2, c3, c4, c5, c6, c7⟩ := hw.eight
        have HSM5 := hid (HSM4.out.keep (hB.mono HSM4.out.lt))
        have HK := hid hK
        have HD := hid hD
        have HB := hid hB
        clear hK hD hB hst hw
        go_wp2_with fail
        go_loopw [7, 36] (fun o i wr => ∃ k : Nat, k ≤ 8 ∧ i = .int .i64 k ∧ Own W.heap.size wr o (s.out k) ∧ Below W.heap.size W wr) (fun _ i _ => 8 - (intOf i).toNat)
        case atStart => exact ⟨0, by omega, rfl, Own.nil _ _, Below.refl _ _⟩
        case round =>
          obtain ⟨k, hk, rfl, hown, hbel⟩ := hrel
          have HOW := hid hown
          have HBE := hid hbel
          clear hown hbel
          by_cases hlt : k < 8
          · have hk1 : (k : Int) < 8 := by omega
            have hki := state_index s k hlt
            have e3 := wrap64_n32 (s.at k)
            have hst := store_any W.heap.size _ _ (s.at k).toNat 4 wr HOW.out HBE.out.size (by have := (s.at k).isLt; omega) (by omega) (by rw [out_length]; omega)
            rw [← n32_def, show ((4 : Nat) : Int) = 4 from rfl] at hst
            have HST := hid hst
            clear hst
            go_wp2_with ((with_reducible refine (HST.out).mono ?_); rintro e w7 ⟨⟨v7, rfl, hv⟩, hb⟩; have HV7 := hid hv; have HB7 := hid hb; clear hv hb)
            go_roundw
            case rel => exact ⟨k + 1, hlt, by go_num, HV7.out, HBE.out.trans HB7.out⟩
            case measure => simp [intOf]; omega
          · obtain rfl : k = 8 := by omega
            obtain ⟨g7, cap7, e7, hg7, hg7', -, hb7⟩ := HOW.out.some (by rw [out_length]; omega)
            rw [out_length, show 4 * 8 = 32 from rfl] at e7
            subst e7
            have hsum : sum bs = s.out 8 := by unfold sum; rw [hm, hnb, Nat.mul_div_cancel_left _ (by omega), hs]
            rw [← hsum] at hb7
            have HR := hid (bytes_range hb7)
            have HI := hid (info32 (sum bs) (sum_length bs))
            have HS7 := hid (HSM5.out.keep (HBE.out.mono HSM5.out.lt))
            have HTH := hid (show wr.there w.heap.size 0 ((sum bs).map u8).toArray.size by simp only [List.size_toArray, List.length_map, sum_length]; exact HS7.out.there)
            have HI2 := hid (show (Tryd.prog.info? 80).map (·.size) = some ((sum bs).map u8).toArray.size by rw [List.size_toArray]; exact HI.out)
            have HA := hid (all_oneCell_toArray (cs := (sum bs).map u8) (fun v hv => by obtain ⟨y, _, rfl⟩ := List.mem_map.1 hv; rfl))
            have hlt := HSM5.out.lt
            have hta := to_array ⟨g7, 0, none⟩ cap7
            have hD := HD.out
            simp only [World.size_alloc] at hD
            have hDW : D < W.heap.size := (Array.getElem?_eq_some_iff.1 HK.out).1
            have hw4 := HSM4.out.lt
            have hKf : (wr.setCells w.heap.size 0 ((sum bs).map u8).toArray.toList).heap[D]? = some (.deferred (some [])) := by
              rw [heap_setCells (by omega)]
              exact (HBE.out.block D hDW).trans HK.out
            have HKF := hid hKf
            clear hKf hb7 hsum
            go_wp2_with (first
              | (refine wpList_load_mid rfl _ _ rfl g7 0 rfl _ _ HR.out rfl rfl HI.out ?_)
              | (refine wpList_store_mid rfl _ _ _ rfl w.heap.size 0 _ rfl rfl HTH.out HI2.out HA.out ?_))
            refine ⟨by simp, .inl ⟨_, _, rfl, run_takeDeferred HKF.out, ?_⟩⟩
            have hrg : ((wr.setCells w.heap.size 0 ((sum bs).map u8).toArray.toList).putObj D (.deferred none)).rangeAt w.heap.size 0 ((sum bs).map u8) := by
              intro j v hv
              rw [World.cell?_of_block (a := ⟨w.heap.size, 0 + j, none⟩) (World.putObj_heap_other (by show w.heap.size ≠ D; omega))]
              exact World.rangeAt_setCells_same wr w.heap.size 0 _ (by simpa using HTH.out) j v hv
            refine ⟨_, results_mid rfl _ _ w.heap.size 0 ((sum bs).map u8) _ rfl hrg rfl rfl HI.out, rfl, ?_⟩
            exact (below_setCells (Nat.le_refl _) _ _ _ HS7.out.below).trans (belowK_b (w := w) (Nat.le_refl _) _ D _ _ (by omega) HKF.out rfl rfl)
end Go.Proofs.YtbjfkliijhnloaaDoor
