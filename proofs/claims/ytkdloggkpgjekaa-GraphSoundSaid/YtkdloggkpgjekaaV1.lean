/- The closure of Enclosing computes the function visit. -/
import Derived.Test.YtkdloggkpgjekaaV0
import Derived.Deep.DeepCutAuto
import Derived.Deep.CutRange
namespace Go.Proofs.Ytkdloggkpgjekaa
open Go.RowKit
set_option linter.unusedVariables false

def clo (E : Env) : Array Value := #[.pointer (some ⟨E.bp, 0, none⟩), .pointer (some ⟨E.bv, 0, none⟩), .pointer (some ⟨E.bo, 0, none⟩), .pointer (some ⟨E.bf, 0, none⟩), .pointer (some ⟨E.bx, 0, none⟩)]

/-- The call skips: the index is no node's. -/
theorem visit_out (E : Env) (k x y : Int) (w : World) (c : VCtx E w) (hk : k < 0 ∨ (E.ns.length : Int) ≤ k) :
    Calls Try.prog 18 #[.int .i64 k, .agg #[.int .i64 x, .int .i64 y], .pointer (some ⟨E.bp, 0, none⟩), .pointer (some ⟨E.bv, 0, none⟩), .pointer (some ⟨E.bo, 0, none⟩), .pointer (some ⟨E.bf, 0, none⟩), .pointer (some ⟨E.bx, 0, none⟩)] w fun e w' => e = .returned (.tuple #[]) ∧ Below w.heap.size w w' := by
  have h1 := c.nodesSl
  have l1 := cell_lt c.nodesSl
  simp only at l1
  by_cases h0 : k < 0
  · have d1 : decide (k < 0) = true := by simpa using h0
    clear hk c
    go_enter Try.func18, Try.ntmps18
    go_wp2_with fail
    exact bodyPost_ret (v := .tuple #[]) (by simp [results, Try.results18, go_sem]) rfl ⟨rfl, (Below.refl _ _).alloc (Nat.le_refl _) _⟩
  · obtain ⟨n, rfl⟩ := Int.eq_ofNat_of_zero_le (show 0 ≤ k by omega)
    have d2 : decide (E.ns.length ≤ n) = true := by simp; omega
    have HK := hid (show E.ns.length ≤ n by omega)
    clear hk c h0
    go_enter Try.func18, Try.ntmps18
    go_wp2_with fail
    exact bodyPost_ret (v := .tuple #[]) (by simp [results, Try.results18, go_sem]) rfl ⟨rfl, (Below.refl _ _).alloc (Nat.le_refl _) _⟩

theorem visit_old (E : Env) (kn : Nat) (x y : Int) (w : World) (c : VCtx E w) (hk : kn < E.ns.length) (hv : w.cell? ⟨E.Bv, kn, none⟩ = some (.bool true)) :
    Calls Try.prog 18 #[.int .i64 kn, .agg #[.int .i64 x, .int .i64 y], .pointer (some ⟨E.bp, 0, none⟩), .pointer (some ⟨E.bv, 0, none⟩), .pointer (some ⟨E.bo, 0, none⟩), .pointer (some ⟨E.bf, 0, none⟩), .pointer (some ⟨E.bx, 0, none⟩)] w fun e w' => e = .returned (.tuple #[]) ∧ Below w.heap.size w w' := by
  have h1 := c.nodesSl
  have l1 := cell_lt c.nodesSl
  have h2 := c.visSl
  have l2 := cell_lt c.visSl
  have l3 := cell_lt hv
  simp only at l1 l2 l3
  have d2 : decide (E.ns.length ≤ kn) = false := by simp; omega
  clear c
  go_enter Try.func18, Try.ntmps18
  go_wp2_with fail
  exact bodyPost_ret (v := .tuple #[]) (by simp [results, Try.results18, go_sem]) rfl ⟨rfl, (Below.refl _ _).alloc (Nat.le_refl _) _⟩

/-- The world inside a call of the closure: the two boxes of the call, beside what every call reads. -/
structure Mid (E : Env) (w wx : World) (x y : Int) (nd : Nd) (st : St) : Prop where
  ctx : VCtx E wx
  at_ : StAt E wx st
  keeps : Keeps E w wx
  size : w.heap.size + 2 ≤ wx.heap.size
  b0 : wx.cell? ⟨w.heap.size, 0, none⟩ = some (.int .i64 x)
  b1 : wx.cell? ⟨w.heap.size, 1, none⟩ = some (.int .i64 y)
  n0 : wx.cell? ⟨w.heap.size + 1, 0, none⟩ = some (.int .i64 nd.kind)
  n1 : wx.cell? ⟨w.heap.size + 1, 1, none⟩ = some (.int .i64 nd.n)
  n3 : wx.cell? ⟨w.heap.size + 1, 3, none⟩ = some (.slice nd.ofA nd.of.length nd.ofC)
  fb : E.free w.heap.size
  fn : E.free (w.heap.size + 1)

theorem Mid.keep {E : Env} {w wx wy : World} {x y : Int} {nd : Nd} {st st' : St} (h : Mid E w wx x y nd st) (k : Keeps E wx wy) (hs : StAt E wy st') : Mid E w wy x y nd st' where
  ctx := h.ctx.keep k
  at_ := hs
  keeps := h.keeps.trans k
  size := Nat.le_trans h.size k.size
  b0 := by rw [k.cell (p := ⟨w.heap.size, 0, none⟩) (by have := h.size; show _ < _; simp only; omega) h.fb]; exact h.b0
  b1 := by rw [k.cell (p := ⟨w.heap.size, 1, none⟩) (by have := h.size; show _ < _; simp only; omega) h.fb]; exact h.b1
  n0 := by rw [k.cell (p := ⟨w.heap.size + 1, 0, none⟩) (by have := h.size; show _ < _; simp only; omega) h.fn]; exact h.n0
  n1 := by rw [k.cell (p := ⟨w.heap.size + 1, 1, none⟩) (by have := h.size; show _ < _; simp only; omega) h.fn]; exact h.n1
  n3 := by rw [k.cell (p := ⟨w.heap.size + 1, 3, none⟩) (by have := h.size; show _ < _; simp only; omega) h.fn]; exact h.n3
  fb := h.fb
  fn := h.fn

theorem Mid.start {E : Env} {w W : World} {x y : Int} {nd : Nd} {st : St} {kn : Nat} (c : VCtx E w) (h : StAt E w st) (hk : kn < E.ns.length)
    (hW : W = ((w.setCell ⟨E.Bv, kn, none⟩ (.bool true)).alloc (.cells #[.int .i64 x, .int .i64 y] 30)).alloc (.cells #[.int .i64 nd.kind, .int .i64 nd.n, .string nd.name, .slice nd.ofA nd.of.length nd.ofC] 41)) :
    Mid E w W x y nd ⟨st.vis.set kn true, st.fnd, st.out⟩ := by
  have k : Keeps E w W := by rw [hW]; exact (((Keeps.refl E w).setCell (by simp [Env.free]) _).alloc _).alloc _
  have zv := h.zv
  have zf := h.zf
  have zo := h.zo
  refine ⟨c.keep k, ?_, k, by rw [hW]; simp, ?_, ?_, ?_, ?_, ?_, ⟨by omega, by omega, by omega⟩, ⟨by omega, by omega, by omega⟩⟩
  · rw [hW]
    exact ((h.setVis c hk).below ((Below.refl _ _).alloc (Nat.le_refl _) _)).below ((Below.refl _ _).alloc (Nat.le_refl _) _)
  all_goals rw [hW]
  · rw [World.cell?_alloc_past (hn := by simp), World.cell?_alloc_at (hn := by simp)]; rfl
  · rw [World.cell?_alloc_past (hn := by simp), World.cell?_alloc_at (hn := by simp)]; rfl
  · rw [World.cell?_alloc_at (hn := by simp)]; rfl
  · rw [World.cell?_alloc_at (hn := by simp)]; rfl
  · rw [World.cell?_alloc_at (hn := by simp)]; rfl

/-- The state after the first t operands of a node. -/
def stN (ns : List Nd) (m : Nat) (pt : Bool) (nd : Nd) (ar : Int × Int) (st2 : St) (t : Nat) : St :=
  (List.range t).foldl (fun s i => visit ns m (nd.of.getD i 0) (innerF pt nd ar i) s) st2
theorem stN_succ (ns : List Nd) (m : Nat) (pt : Bool) (nd : Nd) (ar : Int × Int) (st2 : St) (t : Nat) :
    stN ns m pt nd ar st2 (t + 1) = visit ns m (nd.of.getD t 0) (innerF pt nd ar t) (stN ns m pt nd ar st2 t) := by
  simp [stN, List.range_succ]
theorem visit_eq (ns : List Nd) (m kn : Nat) (ar : Int × Int) (st : St) (hk : kn < ns.length) (hv : st.vis.getD kn true = false) :
    visit ns (m + 1) kn ar st = stN ns m (isPoint ns[kn] st.fnd.length st.fnd) ns[kn] ar (markF (isPoint ns[kn] st.fnd.length st.fnd) ns[kn] ar kn st) ns[kn].of.length := by
  have e : ns.getD kn default = ns[kn] := by simp [hk]
  rw [visit, if_neg (by rw [Int.toNat_natCast, hv]; simp; omega)]
  simp only [Int.toNat_natCast, e]
  rfl
theorem unv_mark (pt : Bool) (nd : Nd) (ar : Int × Int) (kn : Nat) (st : St) (hk : kn < st.vis.length) (hv : st.vis.getD kn true = false) : unv (markF pt nd ar kn st) + 1 = unv st := by
  have := count_set_true st.vis kn hk hv
  unfold markF unv
  split <;> exact this

def LoopInv (E : Env) (w : World) (m : Nat) (x y : Int) (pt : Bool) (nd : Nd) (st2 : St) (t : Nat) (wr : World) : Prop :=
  Mid E w wr x y nd (stN E.ns m pt nd (x, y) st2 t) ∧ unv (stN E.ns m pt nd (x, y) st2 t) ≤ unv st2

theorem Mid.mark {E : Env} {w wc : World} {x y : Int} {nd : Nd} {st : St} {kn j : Nat} (h : Mid E w wc x y nd ⟨st.vis.set kn true, st.fnd, st.out⟩) (hj : nd.n = j) (hjl : j < E.np) :
    Mid E w (((wc.setCell ⟨E.Bf, j, none⟩ (.bool true)).setCell ⟨E.Bo, j * 2, none⟩ (.int .i64 x)).setCell ⟨E.Bo, j * 2 + 1, none⟩ (.int .i64 y)) x y nd (markF true nd (x, y) kn st) := by
  have k1 := (Keeps.refl E wc).setCell (p := ⟨E.Bf, j, none⟩) (by simp [Env.free]) (.bool true)
  have k2 := (k1.setCell (p := ⟨E.Bo, j * 2, none⟩) (by simp [Env.free]) (.int .i64 x)).setCell (p := ⟨E.Bo, j * 2 + 1, none⟩) (by simp [Env.free]) (.int .i64 y)
  refine h.keep k2 ?_
  have := (h.at_.setFnd h.ctx hjl).setOut (h.ctx.keep k1) hjl x y
  simpa [markF, hj] using this

theorem loop_start {E : Env} {w wr : World} {m : Nat} {x y : Int} {pt : Bool} {nd : Nd} {st2 : St} (h : Mid E w wr x y nd st2) : LoopInv E w m x y pt nd st2 0 wr := ⟨h, Nat.le_refl _⟩
theorem loop_step {E : Env} {w wr w' : World} {m : Nat} {x y a b v : Int} {pt : Bool} {nd : Nd} {st2 : St} {t : Nat} {o : Obj} (h : LoopInv E w m x y pt nd st2 t wr)
    (hv : nd.of.getD t 0 = v) (hab : innerF pt nd (x, y) t = (a, b))
    (hs : StAt E w' (visit E.ns m v (a, b) (stN E.ns m pt nd (x, y) st2 t)))
    (hu : unv (visit E.ns m v (a, b) (stN E.ns m pt nd (x, y) st2 t)) ≤ unv (stN E.ns m pt nd (x, y) st2 t)) (hk : Keeps E (wr.alloc o) w') :
    LoopInv E w m x y pt nd st2 (t + 1) w' := by
  have k : Keeps E wr w' := ((Keeps.refl E wr).alloc o).trans hk
  unfold LoopInv
  rw [stN_succ, hv, hab]
  exact ⟨h.1.keep k hs, Nat.le_trans hu h.2⟩

theorem isPoint_n {nd : Nd} {np : Nat} {fnd : List Bool} (h : isPoint nd np fnd = true) : ∃ j : Nat, nd.n = j ∧ j < np := by
  unfold isPoint at h
  simp only [Bool.and_eq_true, decide_eq_true_eq] at h
  obtain ⟨_, h1, h2, _⟩ := h
  obtain ⟨j, hj⟩ := Int.eq_ofNat_of_zero_le h1
  exact ⟨j, hj, by omega⟩

set_option maxRecDepth 100000 in
set_option maxHeartbeats 2000000 in
theorem visit_new (m : Nat) (E : Env)
    (ih : ∀ (k x y : Int) (st : St) (w : World), VCtx E w → StAt E w st → unv st ≤ m →
      Calls Try.prog 18 #[.int .i64 k, .agg #[.int .i64 x, .int .i64 y], .pointer (some ⟨E.bp, 0, none⟩), .pointer (some ⟨E.bv, 0, none⟩), .pointer (some ⟨E.bo, 0, none⟩), .pointer (some ⟨E.bf, 0, none⟩), .pointer (some ⟨E.bx, 0, none⟩)] w fun e w' => e = .returned (.tuple #[]) ∧ (StAt E w' (visit E.ns m k (x, y) st) ∧ unv (visit E.ns m k (x, y) st) ≤ unv st ∧ Keeps E w w'))
    (kn : Nat) (x y : Int) (st : St) (w : World) (c : VCtx E w) (hst : StAt E w st) (hk : kn < E.ns.length) (hv : st.vis.getD kn true = false) (hu : unv st ≤ m + 1) :
    Calls Try.prog 18 #[.int .i64 kn, .agg #[.int .i64 x, .int .i64 y], .pointer (some ⟨E.bp, 0, none⟩), .pointer (some ⟨E.bv, 0, none⟩), .pointer (some ⟨E.bo, 0, none⟩), .pointer (some ⟨E.bf, 0, none⟩), .pointer (some ⟨E.bx, 0, none⟩)] w fun e w' => e = .returned (.tuple #[]) ∧ (StAt E w' (visit E.ns (m + 1) kn (x, y) st) ∧ unv (visit E.ns (m + 1) kn (x, y) st) ≤ unv st ∧ Keeps E w w') := by
  have IH := hid ih; clear ih
  have HC := hid c; have HST := hid hst; have HV := hid hv; have HU := hid hu
  obtain ⟨bn, on, ean, lbn, fbn, c0, c1, c2, c3⟩ := c.node kn hk
  obtain ⟨hof, hofs⟩ := c.of kn hk
  have HOFS := hid hofs
  generalize hnd : E.ns[kn] = nd at *
  have HND := hid hnd
  have hst2 := unv_mark (isPoint nd E.np st.fnd) nd (x, y) kn st (by rw [hst.lv]; exact hk) hv
  have h_nodes := c.nodesSl
  rw [ean] at h_nodes
  have h_vis := c.visSl
  have h_out := c.outSl
  have h_fnd := c.fndSl
  have lp := cell_lt c.nodesSl
  have lv := cell_lt c.visSl
  have lo := cell_lt c.outSl
  have lf := cell_lt c.fndSl
  have lBv := hst.zv
  simp only at lp lv lo lf
  have npv := c.fp.1
  have nvv := c.fv.1
  have nov := c.fo.1
  have nfv := c.ff.1
  have nnv := fbn.1
  have c_vis := hst.vis kn hk
  rw [hv] at c_vis
  have f_vis := hst.nv kn
  have d2 : decide (E.ns.length ≤ kn) = false := by simp; omega
  have hN := c.npos
  have HEAN := hid ean
  clear hofs hnd c hst hv hu ean
  go_enter Try.func18, Try.ntmps18
  go_upto_region 4 with (fail)
  obtain ⟨W, hW⟩ : ∃ W : World, W = ((w.setCell ⟨E.Bv, kn, none⟩ (.bool true)).alloc (.cells #[.int .i64 x, .int .i64 y] 30)).alloc (.cells #[.int .i64 nd.kind, .int .i64 nd.n, .string nd.name, .slice nd.ofA nd.of.length nd.ofC] 41) := ⟨_, rfl⟩
  rw [← hW]
  obtain ⟨pt, hpt⟩ : ∃ pt : Bool, pt = isPoint nd E.np st.fnd := ⟨_, rfl⟩
  have HPT := hid hpt
  have hM := Mid.start HC.out HST.out hk hW
  have hWs : W.heap.size = w.heap.size + 2 := by rw [hW]; simp
  have HM := hid hM; have HWS := hid hWs
  have n0 := hM.n0
  have n1 := hM.n1
  have g_out := hM.ctx.outSl
  have g_fnd := hM.ctx.fndSl
  have hnp := hM.ctx.np8
  have g_cells := fun i hi => hM.at_.fnd i hi
  have HG := hid g_cells
  clear hW hpt hM hWs g_cells h_nodes h_vis h_out h_fnd lp lv lo lf lBv npv nvv nov nfv nnv c_vis f_vis d2 c0 c1 c2 c3
  go_cut [10] (fun u wx => u = .bool pt ∧ wx = W)
  case first =>
    by_cases p1 : nd.kind = 12
    · have q1 : (nd.kind == 12) = true := by simpa using p1
      by_cases p2 : 0 ≤ nd.n
      · have q2 : decide (0 ≤ nd.n) = true := by simpa using p2
        by_cases p3 : nd.n < E.np
        · have q3 : decide (nd.n < (E.np : Int)) = true := by simpa using p3
          obtain ⟨j, hj⟩ := Int.eq_ofNat_of_zero_le p2
          have hjl : j < E.np := by omega
          have g := HG.out j hjl
          obtain ⟨fb, hf⟩ : ∃ fb, st.fnd.getD j false = fb := ⟨_, rfl⟩
          rw [hf] at g
          have HPT2 : Hid (pt = !fb) := by show pt = !fb; rw [HPT.out]; unfold isPoint; rw [decide_eq_true p1, q2, q3, hj, Int.toNat_natCast, hf]; rfl
          have HF := hid hf; have HP1 := hid p1
          clear hf p1
          go_wp2_with fail
          go_meet
          case rel => exact ⟨by rw [HPT2.out], rfl⟩
        · have q3 : decide (nd.n < (E.np : Int)) = false := by simpa using p3
          have HPT2 : Hid (pt = false) := by show pt = false; rw [HPT.out]; unfold isPoint; rw [q3]; simp
          have HP1 := hid p1
          clear p1
          go_wp2_with fail
          go_meet
          case rel => exact ⟨by rw [HPT2.out], rfl⟩
      · have q2 : decide (0 ≤ nd.n) = false := by simpa using p2
        have HPT2 : Hid (pt = false) := by show pt = false; rw [HPT.out]; unfold isPoint; rw [q2]; simp
        have HP1 := hid p1
        clear p1
        go_wp2_with fail
        go_meet
        case rel => exact ⟨by rw [HPT2.out], rfl⟩
    · have q1 : (nd.kind == 12) = false := by simpa using p1
      have HPT2 : Hid (pt = false) := by show pt = false; rw [HPT.out]; unfold isPoint; rw [decide_eq_false p1]; simp
      have HP1 := hid p1
      clear p1
      go_wp2_with fail
      go_meet
      case rel => exact ⟨by rw [HPT2.out], rfl⟩
  case rest =>
    obtain ⟨rfl, rfl⟩ := hcut
    obtain ⟨st2, hst2e⟩ : ∃ st2, st2 = markF pt nd (x, y) kn st := ⟨_, rfl⟩
    have HST2 := hid hst2e; clear hst2e
    clear n0 n1 g_out g_fnd hnp
    go_upto_if 60 with (fail)
    go_cut [] (fun wx => Mid E w wx x y nd st2)
    case first =>
      cases pt
      · go_wp2_with fail
        go_meet
        case rel => rw [HST2.out]; exact HM.out
      · obtain ⟨j, hj, hjl⟩ := isPoint_n HPT.out.symm
        have n1 := HM.out.n1
        have b0 := HM.out.b0
        have b1 := HM.out.b1
        rw [hj] at n1
        have g1 := HM.out.ctx.fndSl
        have g2 := HM.out.ctx.outSl
        have r1 := HM.out.at_.fnd j hjl
        have r2 := HM.out.at_.out j hjl
        obtain ⟨r2, r3⟩ := r2
        have f1 := HM.out.at_.nf j
        have f2 := HM.out.at_.no (j * 2)
        have f3 := HM.out.at_.no (j * 2 + 1)
        have e1 := HM.out.ctx.ff.2.1
        have e2 := HM.out.ctx.fo.2.1
        have e3 := HM.out.ctx.fo.2.2
        have e4 := HM.out.fn.2.1
        have e5 := HM.out.fb.2.1
        have e6 := HM.out.ctx.fO
        have e7 := HM.out.fn.2.2
        have e8 := HM.out.fb.2.2
        have HJ := hid hj; clear hj
        go_wp2_with fail
        go_meet
        case rel => rw [HST2.out]; exact HM.out.mark HJ.out hjl
    case rest =>
      have HMID := hid hcut
      have g3 := hcut.n3
      have HST0 := hid hst2
      clear hcut hst2
      obtain ⟨kind, nn, name, of, ofA, ofC⟩ := nd
      simp only at g3 hof
      go_wp2_with fail
      go_loopw [73] (fun i wr => ∃ t : Nat, t ≤ of.length ∧ i = .int .i64 t ∧ LoopInv E w m x y pt ⟨kind, nn, name, of, ofA, ofC⟩ st2 t wr) (fun i _ => of.length - (intOf i).toNat)
      case atStart => exact ⟨0, Nat.zero_le _, rfl, loop_start HMID.out⟩
      case round =>
        obtain ⟨t, ht, rfl, hinv⟩ := hrel
        have HI := hid hinv
        have hM := hinv.1
        have w0 := hM.b0
        have w1 := hM.b1
        have w2 := hM.n1
        have w3 := hM.ctx.self
        have z0 := cell_lt w0
        have z2 := cell_lt w2
        have z3 := cell_lt w3
        simp only at z0 z2 z3
        by_cases hlt : t < of.length
        · obtain ⟨b, off, he, zb, fb, hc⟩ : ∃ b off, ofA = some ⟨b, off, none⟩ ∧ b < wr.heap.size ∧ E.free b ∧ wr.cell? ⟨b, off + t, none⟩ = some (.int .i64 of[t]) := by
            have := (hM.ctx.of kn hk).2
            rw [HND.out] at this
            exact this t hlt
          subst he
          have hget : of.getD t 0 = of[t] := by simp [hlt]
          have key : ∀ (a b' : Int), innerF pt ⟨kind, nn, name, of, some ⟨b, off, none⟩, ofC⟩ (x, y) t = (a, b') →
              Calls Try.prog 18 #[.int .i64 of[t], .agg #[.int .i64 a, .int .i64 b'], .pointer (some ⟨E.bp, 0, none⟩), .pointer (some ⟨E.bv, 0, none⟩), .pointer (some ⟨E.bo, 0, none⟩), .pointer (some ⟨E.bf, 0, none⟩), .pointer (some ⟨E.bx, 0, none⟩)] (wr.alloc (.cells #[.int .i64 a, .int .i64 b'] 30)) fun e w' => e = .returned (.tuple #[]) ∧ LoopInv E w m x y pt ⟨kind, nn, name, of, some ⟨b, off, none⟩, ofC⟩ st2 (t + 1) w' := by
            intro a b' hab
            have k1 := (Keeps.refl E wr).alloc (.cells #[.int .i64 a, .int .i64 b'] 30)
            refine (IH.out of[t] a b' _ _ (hM.ctx.keep k1) (hM.at_.below ((Below.refl _ _).alloc (Nat.le_refl _) _)) ?_).mono fun e w' ⟨he, hs, hu', hk'⟩ => ⟨he, loop_step hinv hget hab hs hu' hk'⟩
            have h1 := HST0.out
            have h2 := HU.out
            have h3 := HI.out.2
            rw [HST2.out, HPT.out] at *
            omega
          have KEY := hid key
          clear key hM hinv hget
          cases pt
          · go_wp2_with ((with_reducible refine (KEY.out x y rfl).mono ?_); rintro e w' ⟨rfl, hq⟩; have HQ := hid hq; clear hq)
            go_roundw
            case rel => exact ⟨t + 1, by omega, by go_num, HQ.out⟩
            case measure => simp [intOf]; omega
          · by_cases e1 : t = 1
            · have q1 : ((t : Int) == 1) = true := by simp; omega
              have q2 : ((t : Int) == 2) = false := by simp; omega
              have KEY2 := hid (KEY.out nn 1 (by simp [innerF, e1]))
              clear e1
              go_wp2_with ((with_reducible refine (KEY2.out).mono ?_); rintro e w' ⟨rfl, hq⟩; have HQ := hid hq; clear hq)
              go_roundw
              case rel => exact ⟨t + 1, by omega, by go_num, HQ.out⟩
              case measure => simp [intOf]; omega
            · by_cases e2 : t = 2
              · have q1 : ((t : Int) == 1) = false := by simp; omega
                have q2 : ((t : Int) == 2) = true := by simp; omega
                have KEY2 := hid (KEY.out nn 2 (by simp [innerF, e2]))
                clear e1 e2
                go_wp2_with ((with_reducible refine (KEY2.out).mono ?_); rintro e w' ⟨rfl, hq⟩; have HQ := hid hq; clear hq)
                go_roundw
                case rel => exact ⟨t + 1, by omega, by go_num, HQ.out⟩
                case measure => simp [intOf]; omega
              · have q1 : ((t : Int) == 1) = false := by simp; omega
                have q2 : ((t : Int) == 2) = false := by simp; omega
                have KEY2 := hid (KEY.out x y (by simp [innerF, e1, e2]))
                clear e1 e2
                go_wp2_with ((with_reducible refine (KEY2.out).mono ?_); rintro e w' ⟨rfl, hq⟩; have HQ := hid hq; clear hq)
                go_roundw
                case rel => exact ⟨t + 1, by omega, by go_num, HQ.out⟩
                case measure => simp [intOf]; omega
        · obtain rfl : t = of.length := by omega
          clear hM hinv w0 w1 w2 w3
          go_wp2_with fail
          go_end0
          have h := HI.out
          have hlen := HST.out.lf
          have hve := visit_eq E.ns m kn (x, y) st hk HV.out
          rw [HND.out, hlen] at hve
          rw [HPT.out] at h
          have hs2 := HST2.out
          rw [HPT.out] at hs2
          have hu0 := HST0.out
          rw [← hs2] at hu0 hve
          rw [hve]
          exact ⟨rfl, h.1.at_, Nat.le_trans h.2 (by omega), h.1.keeps⟩

/-- The contract of the closure: it computes visit. -/
theorem visit_any (E : Env) (m : Nat) : ∀ (k x y : Int) (st : St) (w : World), VCtx E w → StAt E w st → unv st ≤ m →
      Calls Try.prog 18 #[.int .i64 k, .agg #[.int .i64 x, .int .i64 y], .pointer (some ⟨E.bp, 0, none⟩), .pointer (some ⟨E.bv, 0, none⟩), .pointer (some ⟨E.bo, 0, none⟩), .pointer (some ⟨E.bf, 0, none⟩), .pointer (some ⟨E.bx, 0, none⟩)] w fun e w' => e = .returned (.tuple #[]) ∧ (StAt E w' (visit E.ns m k (x, y) st) ∧ unv (visit E.ns m k (x, y) st) ≤ unv st ∧ Keeps E w w') := by
  have skip : ∀ (m : Nat) (k x y : Int) (st : St) (w : World), VCtx E w → StAt E w st → visit E.ns m k (x, y) st = st → (k < 0 ∨ (E.ns.length : Int) ≤ k ∨ st.vis.getD k.toNat true = true) →
      Calls Try.prog 18 #[.int .i64 k, .agg #[.int .i64 x, .int .i64 y], .pointer (some ⟨E.bp, 0, none⟩), .pointer (some ⟨E.bv, 0, none⟩), .pointer (some ⟨E.bo, 0, none⟩), .pointer (some ⟨E.bf, 0, none⟩), .pointer (some ⟨E.bx, 0, none⟩)] w fun e w' => e = .returned (.tuple #[]) ∧ (StAt E w' (visit E.ns m k (x, y) st) ∧ unv (visit E.ns m k (x, y) st) ≤ unv st ∧ Keeps E w w') := by
    intro m k x y st w c hst hv hk
    rw [hv]
    by_cases ho : k < 0 ∨ (E.ns.length : Int) ≤ k
    · exact (visit_out E k x y w c ho).mono fun e w' ⟨he, hb⟩ => ⟨he, hst.below hb, Nat.le_refl _, .of_below hb⟩
    · obtain ⟨kn, rfl⟩ := Int.eq_ofNat_of_zero_le (show 0 ≤ k by omega)
      have hkn : kn < E.ns.length := by omega
      have hvis : st.vis.getD kn true = true := by
        rcases hk with h | h | h
        · omega
        · omega
        · simpa using h
      have := hst.vis kn hkn
      rw [hvis] at this
      exact (visit_old E kn x y w c hkn this).mono fun e w' ⟨he, hb⟩ => ⟨he, hst.below hb, Nat.le_refl _, .of_below hb⟩
  induction m with
  | zero =>
    intro k x y st w c hst hu
    refine skip 0 k x y st w c hst rfl ?_
    by_cases h1 : k < 0
    · exact Or.inl h1
    · by_cases h2 : (E.ns.length : Int) ≤ k
      · exact Or.inr (Or.inl h2)
      · refine Or.inr (Or.inr ?_)
        have hl : k.toNat < st.vis.length := by rw [hst.lv]; omega
        have : st.vis.count false = 0 := by unfold unv at hu; omega
        rw [List.count_eq_zero] at this
        cases hb : st.vis.getD k.toNat true
        · exfalso; apply this
          rw [← hb]
          simp [hl]
        · rfl
  | succ m ih =>
    intro k x y st w c hst hu
    by_cases hs : k < 0 ∨ (E.ns.length : Int) ≤ k ∨ st.vis.getD k.toNat true = true
    · exact skip (m + 1) k x y st w c hst (by rw [visit, if_pos hs]) hs
    · obtain ⟨kn, rfl⟩ := Int.eq_ofNat_of_zero_le (show 0 ≤ k by omega)
      exact visit_new m E ih kn x y st w c hst (by omega) (by simpa using fun h => hs (Or.inr (Or.inr h))) hu
end Go.Proofs.Ytkdloggkpgjekaa
