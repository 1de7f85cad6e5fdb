/- slices.Clone and slices.Chunk at bytes; the padding of SHA-256. -/
import Derived.RangeFuncNested
import Derived.RangeFuncBound
import Derived.RangeFuncCalls
import Derived.RangeFuncLeaves
import Derived.RangeFuncBox
import Derived.Shelf.Abstract
import Derived.Shelf.RegionOpen
import Derived.OwnWalkIn
import Derived.TacticsInMore
import Derived.LoopNIn
import Derived.LoopIn
import Derived.Lib.SliceRun
import Derived.Sort.QuietIn
import Derived.Test.YtbjfkliijhnloaaDoorC1
namespace Go.Proofs.YtbjfkliijhnloaaDoor
open Go.RowKit Go.Shelf
set_option linter.unusedVariables false
attribute [local go_sem] Oper.semAt_some

theorem nil_slice (w : World) (a : Option Addr) (n c : Nat) : (binOp .eql 58 (.slice a n c) (.slice none 0 0)).run Tryd.prog w = .ok (.bool a.isNone) w :=
  Lib.run_eql_slice_nil w _ _ a n c 0 0 Tryd.underlying58
theorem Own.empty' (w : World) : Own w.heap.size (w.alloc (.cells #[] 5)) (.slice (some ⟨w.heap.size, 0, none⟩) 0 0) [] := Own.empty w

set_option maxRecDepth 100000 in
set_option maxHeartbeats 1000000 in
theorem clone_any (a : Option Addr) (n c : Nat) (bs : List UInt8) (w : World) (hn : n = bs.length) (hc : a = none → c = 0) (hx : BytesAt w a bs) (hl : bs.length ≤ 10000000000000) :
    Calls Tryd.prog 67 #[.slice a n c] w fun e w' => (∃ v, e = .returned v ∧ Own w.heap.size w' v bs) ∧ Below w.heap.size w w' := by
  subst hn
  cases a with
  | none =>
    have h0 : bs = [] := by
      cases bs with
      | nil => rfl
      | cons y ys => obtain ⟨_, _, e, _⟩ := hx.get (i := 0) (by simp); cases e
    subst h0
    obtain rfl := hc rfl
    clear hc hx hl
    have hE := nil_slice w none 0 0
    go_enter Tryd.func67, Tryd.ntmps67
    go_wp2_with fail
    go_ret
    exact ⟨⟨_, rfl, Own.nil _ _⟩, Below.refl _ _⟩
  | some ad =>
    have HX := hid hx
    have HC := hid hc
    have HL := hid (show ([] : List UInt8).length + bs.length ≤ 100000000000000 by simp; omega)
    have HE := hid (Own.empty w)
    have HY := hid (hx.keep (below_alloc w (.cells #[] 5)))
    clear hx hc hl
    have hE := nil_slice w (some ad) bs.length c
    go_enter Tryd.func67, Tryd.ntmps67
    go_wp2_with (at_builtin; refine wp_app rfl _ _ rfl w.heap.size _ [] bs rfl HE.out (some ad) bs.length c rfl rfl HC.out HY.out HL.out (alloc_le (Nat.le_refl _) _) (fun v2 w2 hv2 hb2 => ?_); have HV := hid hv2; have HB := hid hb2; clear hv2 hb2)
    go_ret
    exact ⟨⟨_, rfl, HV.out⟩, (below_alloc w _).trans HB.out⟩

set_option maxRecDepth 100000 in
set_option maxHeartbeats 1000000 in
theorem chunk_any (a : Option Addr) (n c : Nat) (w : World) :
    Calls Tryd.prog 70 #[.slice a n c, .int .i64 64] w fun e w' => e = .returned (.func (.func 75) #[] #[.pointer (some ⟨w.heap.size, 0, none⟩), .pointer (some ⟨w.heap.size + 1, 0, none⟩)]) ∧ w' = (w.alloc (.cells #[.slice a n c] 58)).alloc (.cells #[.int .i64 64] 3) := by
  go_enter Tryd.func70, Tryd.ntmps70
  go_wp2_with fail
  go_ret
  exact ⟨rfl, rfl⟩

/-- Two blocks lie as they lay. -/
structure KeepTwo (p q : Nat) (A B : World) : Prop where
  one : B.heap[p]? = A.heap[p]?
  two : B.heap[q]? = A.heap[q]?
theorem KeepTwo.t {p q : Nat} {A B C : World} (h : KeepTwo p q A B) (k : KeepTwo p q B C) : KeepTwo p q A C := ⟨k.1.trans h.1, k.2.trans h.2⟩
theorem KeepTwo.b {p q : Nat} {w : World} (hp : p < w.heap.size) (hq : q < w.heap.size) (W : World) (l : Nat) (o o' : Obj) (hl : w.heap.size ≤ l) (h : W.heap[l]? = some o) (_ : o.isCells = false) (_ : o.isWalk = false) : KeepTwo p q W (W.putObj l o') :=
  ⟨World.putObj_heap_other (by omega), World.putObj_heap_other (by omega)⟩
theorem KeepTwo.cell1 {p q : Nat} {A B : World} (h : KeepTwo p q A B) (j : Nat) : B.cell? ⟨p, j, none⟩ = A.cell? ⟨p, j, none⟩ := by simp [World.cell?, h.1]
theorem KeepTwo.cell2 {p q : Nat} {A B : World} (h : KeepTwo p q A B) (j : Nat) : B.cell? ⟨q, j, none⟩ = A.cell? ⟨q, j, none⟩ := by simp [World.cell?, h.2]
/-- The first k numbers below n. -/
def ups (n k : Nat) : List (Fin n) := (List.finRange n).take k
theorem ups_succ {n k : Nat} (h : k < n) : ups n (k + 1) = ups n k ++ [⟨k, h⟩] := by
  unfold ups
  rw [List.take_succ_eq_append_getElem (by simpa using h)]
  simp
theorem ups_all (n : Nat) : ups n n = List.finRange n := by unfold ups; rw [List.take_of_length_le (by simp)]
theorem ups_length {n k : Nat} (h : k ≤ n) : (ups n k).length = k := by unfold ups; simp; omega

set_option maxRecDepth 100000 in
set_option maxHeartbeats 2000000 in
theorem chunk1_in (n : Nat) (hn : 1 ≤ n) (l Bs Bn b off nb cap : Nat) (hcap : 64 * nb ≤ cap) (hreach : nb ≤ 1000000000000)
    (J Jx : List (Fin nb) → World → Prop) (hJd : ∀ pre W m, J pre W → J pre (W.drewN m))
    (hY : ∀ pre x W, J pre W → pre.length < nb → YieldAt .wide (n - 1) Tryd.prog l #[.slice (some ⟨b, off + 64 * x.1, none⟩) 64 64] W fun e W' =>
      (e = .returned (.bool true) ∧ J (pre ++ [x]) W' ∧ KeepTwo Bs Bn W W') ∨ (e = .returned (.bool false) ∧ Jx (pre ++ [x]) W'))
    (W : World) (hBs : W.cell? ⟨Bs, 0, none⟩ = some (.slice (some ⟨b, off, none⟩) (64 * nb) cap)) (hBn : W.cell? ⟨Bn, 0, none⟩ = some (.int .i64 64)) (h0 : J [] W) :
    CallsIn .wide n Tryd.prog 75 #[.func (.yield l) #[] #[], .pointer (some ⟨Bs, 0, none⟩), .pointer (some ⟨Bn, 0, none⟩)] W fun e W' => (∃ v, e = .returned v) ∧
      ((∃ ys, ys = List.finRange nb ∧ J ys W') ∨ (∃ pre, (∃ k, k ≤ nb ∧ pre = ups nb k) ∧ Jx pre W')) := by
  refine callsIn_of_wp Tryd.func75 rfl trivial ?_ rfl
  simp only [Tryd.ntmps75, List.size_toArray, List.length_cons, List.length_nil, Nat.reduceAdd, Nat.reduceSub, Array.replicate_succ, Array.replicate_zero, List.push_toArray, List.append_toArray, List.nil_append, List.cons_append]
  gi_wp2
  gi_loopw [4] (fun i wr => ∃ k : Nat, k ≤ nb ∧ i = .int .i64 ((64 * k : Nat) : Int) ∧ J (ups nb k) wr ∧ KeepTwo Bs Bn W wr)
    (fun i _ => 64 * nb - (intOf i).toNat)
  case atStart => exact ⟨0, Nat.zero_le _, rfl, by simpa [ups] using h0, ⟨rfl, rfl⟩⟩
  case round =>
    obtain ⟨k, hk, rfl, hJs, hnx⟩ := hrel
    have c1 : wr.cell? ⟨Bs, 0, none⟩ = some (.slice (some ⟨b, off, none⟩) (64 * nb) cap) := (hnx.cell1 0).trans hBs
    have c2 : wr.cell? ⟨Bn, 0, none⟩ = some (.int .i64 64) := (hnx.cell2 0).trans hBn
    by_cases hlt : k < nb
    · have b1 : 64 * k < 64 * nb := by omega
      have b2 : ((64 * k : Nat) : Int) < ((64 * nb : Nat) : Int) := by omega
      have b3 : (0 : Int) ≤ ((64 * k : Nat) : Int) := by omega
      have b4 : ((64 * k : Nat) : Int) ≤ ((64 * nb : Nat) : Int) := by omega
      gi_wp2
      gi_quiet (fail)
      obtain ⟨fn, tmps, assign, body, hy, hR⟩ := hY _ ⟨k, hlt⟩ (wr.drewN nq) (hJd _ _ _ hJs) (by rw [ups_length hk]; exact hlt)
      dsimp only at hy
      gi_wp2
      refine hR.mono ?_
      rintro e W3 (⟨rfl, hJ3, hk3⟩ | ⟨rfl, hJx3⟩)
      · have hk4 : KeepTwo Bs Bn wr W3 := ⟨hk3.1, hk3.2⟩
        have c3 : W3.cell? ⟨Bs, 0, none⟩ = some (.slice (some ⟨b, off, none⟩) (64 * nb) cap) := (hk4.cell1 0).trans c1
        have c4 : W3.cell? ⟨Bn, 0, none⟩ = some (.int .i64 64) := (hk4.cell2 0).trans c2
        gi_wp2
        go_roundw
        case rel => exact ⟨k + 1, by omega, by go_num, by rw [ups_succ hlt]; exact hJ3, hnx.t hk4⟩
        case measure => simp [intOf]; omega
      · gi_wp2
        refine bodyPost_ret (results_none rfl _ _ _) rfl ?_
        exact ⟨⟨_, rfl⟩, .inr ⟨_, ⟨k + 1, by omega, (ups_succ hlt).symm⟩, hJx3⟩⟩
    · obtain rfl : k = nb := by omega
      gi_wp2
      go_end0
      exact ⟨⟨_, rfl⟩, .inl ⟨_, rfl, by rw [← ups_all]; exact hJs⟩⟩
theorem grown_drewN (w : World) (n : Nat) (row : Option Nat) : w.grownBy (w.drewN n) row := ⟨rfl, rfl, rfl, Nat.le_refl _, fun _ _ _ => rfl⟩

/-- slices.Chunk's value goes over the blocks of 64 bytes. -/
theorem chunk_stops (n : Nat) (hn : 1 ≤ n) (Bs Bn b off nb cap : Nat) (hcap : 64 * nb ≤ cap) (hreach : nb ≤ 1000000000000) (w : World) (hBs' : Bs < w.heap.size) (hBn' : Bn < w.heap.size)
    (hBs : w.cell? ⟨Bs, 0, none⟩ = some (.slice (some ⟨b, off, none⟩) (64 * nb) cap)) (hBn : w.cell? ⟨Bn, 0, none⟩ = some (.int .i64 64)) :
    SeqStopsK .wide n Tryd.prog 75 #[.pointer (some ⟨Bs, 0, none⟩), .pointer (some ⟨Bn, 0, none⟩)] (fun x : Fin nb => #[.slice (some ⟨b, off + 64 * x.1, none⟩) 64 64]) (KeepTwo Bs Bn)
      (fun ys => ys = List.finRange nb) (fun pre => ∃ k, k ≤ nb ∧ pre = ups nb k) nb w := fun l J Jx W hW hJ hJx hY h0 =>
  chunk1_in n hn l Bs Bn b off nb cap hcap hreach J Jx (fun pre W m h => hJ pre W _ none h (grown_drewN _ _ _) (fun r e => by cases e)) hY W
    ((hW.cell (p := ⟨Bs, 0, none⟩) hBs').trans hBs) ((hW.cell (p := ⟨Bn, 0, none⟩) hBn').trans hBn) h0
end Go.Proofs.YtbjfkliijhnloaaDoor
