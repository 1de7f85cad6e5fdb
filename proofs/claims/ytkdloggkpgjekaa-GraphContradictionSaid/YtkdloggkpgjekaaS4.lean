/- Contracts of hide and Small. -/
import Derived.Test.YtkdloggkpgjekaaS3
namespace Go.Proofs.Ytkdloggkpgjekaa
open Go.RowKit
set_option linter.unusedVariables false
theorem IntsAt.keep {w w' : World} {a : Option Addr} {xs : List Int} (h : IntsAt w a xs) (k : Below w.heap.size w w') : IntsAt w' a xs := RowAt.keep h k

theorem hide_step {k : Nat} {w wr w1 : World} {v v' : Value} {xs ys : List Int} {x : Int} {o : Obj} (hy : ys.length = k) (hlt : k < xs.length) (hq : ∀ i, (h : i < k) → (g : i < xs.length) → ys.getD i 0 = -1 ∨ ys.getD i 0 = xs[i])
    (hx : x = -1 ∨ x = xs[k]) (ho : wr.ownsRow w.heap.size 3 1 v k (ys.map (Value.int .i64))) (hb : Below w.heap.size w wr) (ho1 : w1.ownsRow w.heap.size 3 1 v' (k + 1) (ys.map (Value.int .i64) ++ [.int .i64 x])) (hg : (wr.alloc o).grownBy w1 v.ownBlock) :
    ∃ ys : List Int, ys.length = k + 1 ∧ (∀ i, (h : i < k + 1) → (g : i < xs.length) → ys.getD i 0 = -1 ∨ ys.getD i 0 = xs[i]) ∧ w1.ownsRow w.heap.size 3 1 v' (k + 1) (ys.map (Value.int .i64)) ∧ Below w.heap.size w w1 := by
  refine ⟨ys ++ [x], by simp [hy], fun i h g => ?_, by simpa using ho1, ?_⟩
  · rcases Nat.lt_succ_iff_lt_or_eq.1 h with h | rfl
    · have := hq i h g
      simpa [List.getD, List.getElem?_append_left (show i < ys.length by omega)] using this
    · simpa [List.getD, ← hy] using hx
  · refine (hb.alloc hb.size o).grown hg (by have := hb.size; simp; omega) ?_
    intro g hgk
    obtain ⟨_, h⟩ := ho
    rcases h with ⟨rfl, _⟩ | ⟨g', cap, cur, rfl, hbg, _⟩
    · simp [Value.ownBlock] at hgk
    · simp [Value.ownBlock] at hgk; omega

set_option maxHeartbeats 1000000 in
theorem hide_any (a : Option Addr) (xs : List Int) (m : Int) (ca : Nat) (w : World) (hx : IntsAt w a xs) (hl : xs.length ≤ 1000000) (hm : 0 ≤ m ∧ m ≤ 255) :
    Calls Try.prog 11 #[.slice a xs.length ca, .int .u8 m] w fun e w' => (∃ ys, ys.length = xs.length ∧ (∃ ao c, e = .returned (.slice ao xs.length c) ∧ (ao = none → c = 0) ∧ OwnAt w.heap.size w' ao ys) ∧ ∀ i, (h : i < xs.length) → ys.getD i 0 = -1 ∨ ys.getD i 0 = xs[i]) ∧ Below w.heap.size w w' := by
  obtain ⟨hm0, hm1⟩ := hm
  obtain ⟨i, hi, hz, hs, hb⟩ := infoInt'
  go_enter Try.func11, Try.ntmps11
  go_wp2_with fail
  go_loopw [5, 6] (fun v i wr => ∃ k : Nat, k ≤ xs.length ∧ i = .int .i64 k ∧ ∃ ys : List Int, ys.length = k ∧ (∀ i, (h : i < k) → (g : i < xs.length) → ys.getD i 0 = -1 ∨ ys.getD i 0 = xs[i]) ∧ wr.ownsRow w.heap.size 3 1 v k (ys.map (Value.int .i64)) ∧ Below w.heap.size w wr) (fun _ i _ => xs.length - (intOf i).toNat)
  case atStart => exact ⟨0, Nat.zero_le _, rfl, [], rfl, fun i h => by omega, owns_nil _ _, Below.refl _ _⟩
  case round =>
    obtain ⟨k, hk, rfl, ys, hys, hq, hown, hbw⟩ := hrel
    by_cases hlt : k < xs.length
    · obtain ⟨b, off, rfl, lb, c1⟩ := (hx.keep hbw).get hlt
      have HQ := hid hq; have HX := hid hx; have HYS := hid hys; have HO := hid hown; have HB := hid hbw
      clear hq hx hys hown hbw
      have HI := hid hi; have HZ := hid hz; have HS := hid hs; have HBY := hid hb
      clear hi hz hs hb
      cases hbit : (bits BinOp.and IntKind.u8 (m / 2 ^ (k % 8)) 1 == 1)
      · go_upto_region 5 with (fail)
        go_wp2_with (at_builtin; refine wpList_append_own _ rfl _ _ 31 rfl w.heap.size 3 i (.int .i64 0) 1 8 Try.underlying31 HI.out HZ.out HS.out HBY.out rfl (by decide) _ k _ rfl (HO.out.alloc _) ⟨wr.heap.size, 0, none⟩ 1 1 [.int .i64 xs[k]] rfl ?c1 ?c2 ?c3 ?c4 ?c5 ?c6 ?_)
        case c1 => rfl
        case c2 => exact cell_one_new _ _ _
        case c3 => intro u hu; simp at hu; subst hu; rfl
        case c4 => simp [maxLen]; omega
        case c5 => omega
        case c6 => have := HB.out.size; simp; omega
        intro v' w1 hown1 hgrow _
        have HO1 := hid hown1; have HG := hid hgrow
        clear hown1 hgrow
        go_wp2_with fail
        go_roundw
        case rel =>
          refine ⟨k + 1, by omega, by go_num, hide_step HYS.out hlt HQ.out (Or.inr rfl) HO.out HB.out (by simpa using HO1.out) HG.out⟩
        case measure => simp [intOf]; omega
      · go_upto_region 5 with (fail)
        go_wp2_with (at_builtin; refine wpList_append_own _ rfl _ _ 31 rfl w.heap.size 3 i (.int .i64 0) 1 8 Try.underlying31 HI.out HZ.out HS.out HBY.out rfl (by decide) _ k _ rfl (HO.out.alloc _) ⟨wr.heap.size, 0, none⟩ 1 1 [.int .i64 (-1)] rfl ?c1 ?c2 ?c3 ?c4 ?c5 ?c6 ?_)
        case c1 => rfl
        case c2 => exact cell_one_new _ _ _
        case c3 => intro u hu; simp at hu; subst hu; rfl
        case c4 => simp [maxLen]; omega
        case c5 => omega
        case c6 => have := HB.out.size; simp; omega
        intro v' w1 hown1 hgrow _
        have HO1 := hid hown1; have HG := hid hgrow
        clear hown1 hgrow
        go_wp2_with fail
        go_roundw
        case rel =>
          refine ⟨k + 1, by omega, by go_num, hide_step HYS.out hlt HQ.out (Or.inl rfl) HO.out HB.out (by simpa using HO1.out) HG.out⟩
        case measure => simp [intOf]; omega
    · have HQ := hid hq; have HX := hid hx; have HYS := hid hys; have HO := hid hown; have HB := hid hbw
      clear hq hx hys hown hbw hi hz hs hb
      obtain rfl : k = xs.length := by omega
      go_wp2_with fail
      go_ret
      refine ⟨⟨ys, HYS.out, ?_, fun i h => HQ.out i h h⟩, HB.out⟩
      have h := HO.out
      rw [← HYS.out] at h
      obtain ⟨ao, c, hv, hc, hown⟩ := OwnAt.of_owns h
      exact ⟨ao, c, by rw [← HYS.out, ← hv]; rfl, hc, hown⟩

/-- The number of operands of a program's nodes, up to node k. -/
def edges (ns : List Nd) (k : Nat) : Nat := ((ns.take k).map fun n => n.of.length).sum
theorem edges_succ (ns : List Nd) (k : Nat) (h : k < ns.length) : edges ns (k + 1) = edges ns k + ns[k].of.length := by
  unfold edges
  rw [List.take_succ_eq_append_getElem h, List.map_append, List.sum_append]
  rfl
def smallF (ns : List Nd) (il : Nat) : Bool := if 400 < ns.length ∨ 20 < il then false else decide (edges ns ns.length ≤ 1000)

theorem edges_le (ns : List Nd) (k : Nat) (h : ∀ i, (h : i < ns.length) → ns[i].of.length ≤ 140737488355328) (hk : k ≤ ns.length) : edges ns k ≤ k * 140737488355328 := by
  induction k with
  | zero => simp [edges]
  | succ k ih =>
    rw [edges_succ ns k (by omega)]
    have := ih (by omega)
    have := h k (by omega)
    omega

set_option maxHeartbeats 1000000 in
theorem small_any (ia : Option Addr) (il ic : Nat) (an : Option Addr) (cn : Nat) (ns : List Nd) (root pts : Int) (w : World) (h : ProgAt w an ns) (hil : il ≤ 140737488355328) :
    Calls Try.prog 8 #[.agg #[.slice ia il ic, .slice an ns.length cn, .int .i64 root, .int .i64 pts]] w fun e w' => e = .returned (.bool (smallF ns il)) ∧ Below w.heap.size w w' := by
  have hN := h.npos
  have hb0 : Below w.heap.size w (w.alloc (.cells #[.slice ia il ic, .slice an ns.length cn, .int .i64 root, .int .i64 pts] 25)) := (Below.refl _ _).alloc (Nat.le_refl _) _
  by_cases h1 : 400 < ns.length
  · have hF := hid (show smallF ns il = false by simp [smallF, h1])
    have d1 : decide (400 < ns.length) = true := by simpa using h1
    go_enter Try.func8, Try.ntmps8
    go_wp2_with fail
    go_ret
    exact ⟨ret_bool hF.out.symm, hb0⟩
  · have d1 : decide (400 < ns.length) = false := by simpa using h1
    by_cases h2 : 20 < il
    · have hF := hid (show smallF ns il = false by simp [smallF, h2])
      have d2 : decide (20 < il) = true := by simpa using h2
      go_enter Try.func8, Try.ntmps8
      go_wp2_with fail
      go_ret
      exact ⟨ret_bool hF.out.symm, hb0⟩
    · have hF := hid (show smallF ns il = decide (edges ns ns.length ≤ 1000) by simp [smallF, h1, h2])
      have d2 : decide (20 < il) = false := by simpa using h2
      have HH := hid h
      clear h
      go_enter Try.func8, Try.ntmps8
      go_wp2_with fail
      go_loopw [3, 4] (fun e i wr => ∃ k : Nat, k ≤ ns.length ∧ i = .int .i64 k ∧ e = .int .i64 (edges ns k) ∧ wr = (w.alloc (.cells #[.slice ia il ic, .slice an ns.length cn, .int .i64 root, .int .i64 pts] 25))) (fun _ i _ => ns.length - (intOf i).toNat)
      case atStart => exact ⟨0, Nat.zero_le _, rfl, rfl, rfl⟩
      case round =>
        obtain ⟨k, hk, rfl, rfl, rfl⟩ := hrel
        by_cases hlt : k < ns.length
        · obtain ⟨bn, on, rfl, lb, _, _, _, c3⟩ := HH.out.node k hlt
          have hes := edges_succ ns k hlt
          have hle := edges_le ns k (fun i hi => (HH.out.of i hi).1) hk
          have hl2 := (HH.out.of k hlt).1
          have hle2 : edges ns k ≤ 60000000000000000 := by
            have : k * 140737488355328 ≤ 400 * 140737488355328 := Nat.mul_le_mul_right _ (by omega)
            omega
          have HES := hid hes
          clear hes hle
          go_wp2_with fail
          go_roundw
          case rel => exact ⟨k + 1, by omega, by go_num, by rw [HES.out]; go_num, trivial⟩
          case measure => simp [intOf]; omega
        · obtain rfl : k = ns.length := by omega
          have hle := edges_le ns ns.length (fun i hi => (HH.out.of i hi).1) (Nat.le_refl _)
          clear hle
          go_wp2_with fail
          go_ret
          refine ⟨ret_bool ?_, hb0⟩
          rw [hF.out, decide_eq_decide]
          omega
end Go.Proofs.Ytkdloggkpgjekaa
