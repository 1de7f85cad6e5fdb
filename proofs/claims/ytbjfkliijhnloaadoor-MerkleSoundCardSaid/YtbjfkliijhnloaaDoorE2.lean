/- bootchainref03.Same and bootchainlaw03.one walked. -/
import Derived.Test.YtbjfkliijhnloaaDoorE1
namespace Go.Proofs.YtbjfkliijhnloaaDoor
open Go.RowKit
set_option linter.unusedVariables false

theorem under28 : Tryd.prog.underlying 28 = some (.array 16 5) := by kernel_rfl
/-- A load of a long array in a region that only reads. -/
theorem quiet_load_mid {ops : Array Oper} {Q : Act → Prop} {a : Act} {op : Oper} {rest : List Oper} {w : World} (hgd : op.guard = none) (ty : TypeId) (x : Operand) (ho : op.op = .load ty x) (b o : Nat) (hx : a.eval x = .pointer (some ⟨b, o, none⟩)) (cs : List Value) (d : TypeDesc) (hc : w.rangeAt b o cs)
    (hu : Tryd.prog.underlying ty = some d) (hd : d.isRow = true) (hi : (Tryd.prog.info? ty).map (·.size) = some cs.length)
    (h : wpQuiet Tryd.prog ops (fun w' => ∃ n, w' = w.drewN n) Q rest (a.put op.dst (.agg cs.toArray))) : wpQuiet Tryd.prog ops (fun w' => ∃ n, w' = w.drewN n) Q (op :: rest) a := by
  refine wpQuiet_step (fun K hK => ?_)
  have hw : Region.wanted op (yielded ops a.tmps) = true := by simp [Region.wanted, hgd]
  rw [if_pos hw]
  refine ⟨.agg cs.toArray, ?_, hK _ h⟩
  rintro w' ⟨n, rfl⟩
  have hl := run_loadVar_mid (P := Tryd.prog) (w.drewN n) b o ty cs d hc hu hd hi
  unfold Oper.quietAt execOp
  simp only [ho, hx, Instr.loadAt, Instr.sureAddr, Sem.run_bind, Sem.run_pure, Result.andThen_ok, hl]
  exact ⟨rfl, rfl⟩
theorem range2_drew {W : World} {b o b' o' : Nat} {x y : List Value} (h : W.rangeAt b o x ∧ W.rangeAt b' o' y) : W.drew.rangeAt b o x ∧ W.drew.rangeAt b' o' y := h

set_option maxRecDepth 100000 in
set_option maxHeartbeats 2000000 in
theorem same_any (ds es : List (List UInt8)) (hd : All16 ds) (he : All16 es) (a a' : Option Addr) (n c n' c' : Nat) (hn : n = ds.length) (hn' : n' = es.length) (hn2 : n ≤ 1000000) (w : World) (hds : DigB w.heap.size w a ds) (hes : DigB w.heap.size w a' es) :
    Calls Tryd.prog 20 #[.slice a n c, .slice a' n' c'] w fun e w' => e = .returned (.bool (decide (ds = es))) ∧ Below w.heap.size w w' := by
  subst hn hn'
  have HD := hid hds; have HE := hid hes; have H1 := hid hd; have H2 := hid he
  clear hds hes hd he
  by_cases hlen : ds.length = es.length
  · have HLEN := hid hlen
    have hn3 : es.length ≤ 1000000 := by omega
    rw [hlen]
    clear hlen
    go_enter Tryd.func20, Tryd.ntmps20
    go_wp2_with fail
    go_loopw [5] (fun jv wr => ∃ j : Nat, j ≤ es.length ∧ jv = .int .i64 j ∧ Hid (ds.take j = es.take j) ∧ Below w.heap.size w wr) (fun jv _ => es.length - (intOf jv).toNat)
    case atStart => exact ⟨0, Nat.zero_le _, rfl, hid rfl, Below.refl _ _⟩
    case round =>
      obtain ⟨j, hj, rfl, HEQ, hbel⟩ := hrel
      have HBE := hid hbel
      clear hbel
      by_cases hjl' : j < es.length
      · have j2 : (j : Int) < (es.length : Int) := by omega
        have j0 : (0 : Int) ≤ (j : Int) := by omega
        have hjl : j < ds.length := by rw [HLEN.out]; exact hjl'
        obtain ⟨b, off, rfl, hb, hbl, hrg⟩ := (HD.out.keep HBE.out) j hjl
        obtain ⟨b', off', rfl, hb', hbl', hrg'⟩ := (HE.out.keep HBE.out) j hjl'
        have hx16 := H1.out _ (List.getElem_mem hjl)
        have hy16 := H2.out _ (List.getElem_mem hjl')
        have hts : (ds.take (j + 1) = es.take (j + 1)) ↔ (ds[j] = es[j]) := by
          rw [List.take_succ_eq_append_getElem hjl, List.take_succ_eq_append_getElem hjl', HEQ.out]
          constructor
          · intro h; have := List.append_cancel_left h; simpa using this
          · intro h; rw [h]
        have HTS := hid hts
        obtain ⟨x, hx⟩ : ∃ x, ds[j] = x := ⟨_, rfl⟩
        obtain ⟨y, hy⟩ : ∃ y, es[j] = y := ⟨_, rfl⟩
        have hne : ¬ (x = y) → ds ≠ es := fun h e => h (by rw [← hx, ← hy]; subst e; rfl)
        have HNE := hid hne
        rw [hx] at hrg hx16 HTS
        rw [hy] at hrg' hy16 HTS
        clear hts hx hy hne
        clear hjl
        rw [Nat.mul_comm] at hrg hrg'
        have HS := hid (And.intro hrg hrg')
        have heq := eqIn_dig x y hx16 hy16
        have HI1 := hid (info16 x hx16)
        have HI2 := hid (info16 y hy16)
        by_cases hxy : x = y
        · have HXY := hid hxy
          have heq2 : ∀ W, (Op.equalIn 10000 28 (.agg (x.map u8).toArray) (.agg (y.map u8).toArray)).run Tryd.prog W = .ok true W := fun W => by rw [heq W, decide_eq_true hxy]
          clear heq hxy
          go_wp2_with fail
          refine wp_region_quiet_lit (by kernel_rfl) (by kernel_rfl) ?_
          quiet_step (fail)
          quiet_step (fail)
          quiet_step (fail)
          refine quiet_load_mid rfl _ _ rfl b (off + j * 16) rfl (x.map u8) _ HS.out.1 under28 rfl HI1.out ?_
          simp only [Act.put, List.setIfInBounds_toArray, List.set_cons_zero, List.set_cons_succ]
          quiet_step (fail)
          quiet_step (fail)
          quiet_step (fail)
          refine quiet_load_mid rfl _ _ rfl b' (off' + j * 16) rfl (y.map u8) _ HS.out.2 under28 rfl HI2.out ?_
          simp only [Act.put, List.setIfInBounds_toArray, List.set_cons_zero, List.set_cons_succ]
          quiet_step (fail)
          refine wpQuiet_nil ?_
          rintro _ ⟨nq, rfl⟩
          all_goals
            (go_wp2_with fail
             go_roundw
             case rel =>
               exact ⟨j + 1, hjl', by go_num, hid (HTS.out.2 HXY.out), below_drewN HBE.out _⟩
             case measure => simp [intOf]; omega)
        · have hxd : decide (x = y) = false := decide_eq_false hxy
          simp only [hxd] at heq
          go_wp2_with fail
          refine wp_region_quiet_lit (by kernel_rfl) (by kernel_rfl) ?_
          quiet_step (fail)
          quiet_step (fail)
          quiet_step (fail)
          refine quiet_load_mid rfl _ _ rfl b (off + j * 16) rfl (x.map u8) _ HS.out.1 under28 rfl HI1.out ?_
          simp only [Act.put, List.setIfInBounds_toArray, List.set_cons_zero, List.set_cons_succ]
          quiet_step (fail)
          quiet_step (fail)
          quiet_step (fail)
          refine quiet_load_mid rfl _ _ rfl b' (off' + j * 16) rfl (y.map u8) _ HS.out.2 under28 rfl HI2.out ?_
          simp only [Act.put, List.setIfInBounds_toArray, List.set_cons_zero, List.set_cons_succ]
          quiet_step (fail)
          refine wpQuiet_nil ?_
          rintro _ ⟨nq, rfl⟩
          all_goals
            (go_wp2_with fail
             go_ret
             exact ⟨ret_bool (decide_eq_false (HNE.out hxy)).symm, below_drewN HBE.out _⟩)
      · obtain rfl : j = es.length := by omega
        have hfin : ds = es := by
          have := HEQ.out
          rw [List.take_of_length_le (Nat.le_of_eq HLEN.out), List.take_of_length_le (Nat.le_refl _)] at this
          exact this
        have HF := hid hfin
        clear hfin
        go_wp2_with fail
        go_ret
        exact ⟨ret_bool (decide_eq_true HF.out).symm, HBE.out⟩
  · have d0 : ¬ ((ds.length : Int) = (es.length : Int)) := by omega
    have hne : ds ≠ es := fun e => hlen (by rw [e])
    have HNE := hid hne
    clear hne
    go_enter Tryd.func20, Tryd.ntmps20
    go_wp2_with fail
    go_ret
    exact ⟨ret_bool (decide_eq_false HNE.out).symm, Below.refl _ _⟩

set_option maxRecDepth 100000 in
set_option maxHeartbeats 1000000 in
theorem one_any (d : List UInt8) (hd : d.length = 16) (w : World) (hT : Tab w) :
    Calls Tryd.prog 39 #[.agg (d.map u8).toArray] w fun e w' => (∃ g, e = .returned (.slice (some ⟨g, 0, none⟩) 16 16) ∧ w.heap.size ≤ g ∧ g < w'.heap.size ∧ w'.rangeAt g 0 ((leafD d).map u8)) ∧ Below w.heap.size w w' := by
  have HT := hid hT
  clear hT
  have hs : (List.map u8 d).toArray.size = 16 := by simp [hd]
  obtain ⟨L, hL⟩ : ∃ L, leafD d = L := ⟨_, rfl⟩
  have HL := hid (show L.length = 16 by rw [← hL]; exact leafD_length d)
  have HLE := hid (show digest 1 [d] = L from hL)
  have HI2 := hid (info16a L HL.out)
  rw [hL]
  clear hL
  have hb2 : ∀ o o', Below w.heap.size w ((w.alloc o).alloc o') := fun o o' => (below_alloc w o).alloc (by simp) _
  have HC := hid (fun t t' => digest_1 (some ⟨w.heap.size + 1, 0, none⟩) 1 1 [d] ((w.alloc (.cells (d.map u8).toArray t)).alloc (.cells #[.slice (some ⟨w.heap.size, 0, none⟩) 16 16] t')) (HT.out.keep (hb2 _ _)) rfl
    (by
      have h := parts_new (W := w.alloc (.cells (d.map u8).toArray t)) (n₀ := w.heap.size + 1 + 1) #[.slice (some ⟨w.heap.size, 0, none⟩) 16 16] t' [d] (by simp) (Below.refl _ _) rfl (fun i hi => by
        have hi : i < 1 := hi
        obtain rfl : i = 0 := by omega
        refine ⟨some ⟨w.heap.size, 0, none⟩, 16, by simp [hd], ?_⟩
        refine bytesB_of_range ?_ (by first | (simp; done) | (simp; omega)) (by omega)
        exact range_keep (dig_range w d t) (below_alloc _ _) (by simp))
      simpa using h) (by simp [hd]) (by simp))
  have HB2 := hid hb2
  clear hb2
  go_enter Tryd.func39, Tryd.ntmps39
  go_wp2_with (first
    | (go_at_call 38; (with_reducible refine (HC.out _ _).mono ?_); rw [HLE.out]; rintro e w3 ⟨rfl, hb3⟩; have HB3 := hid ((HB2.out _ _).trans (hb3.mono (HB2.out _ _).size)); clear hb3)
    | (refine wpList_store_mid rfl _ _ _ rfl w3.heap.size 0 _ rfl rfl (there16 (alloc_there w3 _ _ 16 rfl) _ HL.out) HI2.out (all_u8 L) ?_))
  go_ret
  refine ⟨⟨w3.heap.size, rfl, HB3.out.size, by rw [size_setCells]; simp, ?_⟩, below_setCells HB3.out.size _ _ _ (HB3.out.trans ((below_alloc w3 _).mono HB3.out.size))⟩
  exact World.rangeAt_setCells_same _ _ _ _ (by have := alloc_there w3 #[.int .u8 0, .int .u8 0, .int .u8 0, .int .u8 0, .int .u8 0, .int .u8 0, .int .u8 0, .int .u8 0, .int .u8 0, .int .u8 0, .int .u8 0, .int .u8 0, .int .u8 0, .int .u8 0, .int .u8 0, .int .u8 0] 28 16 rfl; simpa [HL.out] using this)
end Go.Proofs.YtbjfkliijhnloaaDoor
