/- The contract of Possible. -/
import Derived.Test.YtkdloggkpgjekaaS4
namespace Go.Proofs.Ytkdloggkpgjekaa
open Go.RowKit
set_option linter.unusedVariables false

/-- Each enclosing point is none, or a point with a side. -/
def GoodE (e : List (Int × Int)) : Prop := ∀ i, (h : i < e.length) → e[i] = (-1, 0) ∨ (0 ≤ e[i].1 ∧ e[i].1 < e.length ∧ (e[i].2 = 1 ∨ e[i].2 = 2))

def okAt (e : List (Int × Int)) (took : List Int) (i : Nat) : Bool := !(took.getD i 0 != 0 && shutF (e.getD i (-1, 0)) took)
def possibleF (e : List (Int × Int)) (took : List Int) : Bool := validF took e.length 0 && (List.range took.length).all (okAt e took)

theorem PairsAt.keep {w w' : World} {a : Option Addr} {l : List (Int × Int)} (h : PairsAt w a l) (k : Below w.heap.size w w') : PairsAt w' a l := fun i hi => by
  obtain ⟨b, off, e, l, c1, c2⟩ := h i hi
  exact ⟨b, off, e, Nat.lt_of_lt_of_le l k.size, by rw [k.cell (p := ⟨b, _, none⟩) l]; exact c1, by rw [k.cell (p := ⟨b, _, none⟩) l]; exact c2⟩

theorem valid_len {took : List Int} {n least : Int} (h : validF took n least = true) : (took.length : Int) = n ∧ ∀ i, i < took.length → least ≤ took.getD i 0 ∧ took.getD i 0 ≤ 3 := by
  unfold validF at h
  simp only [Bool.and_eq_true, decide_eq_true_eq, Bool.not_eq_true', List.any_eq_false, Bool.or_eq_true, not_or, Int.not_lt] at h
  refine ⟨h.1, fun i hi => ?_⟩
  have := h.2 took[i] (List.getElem_mem hi)
  simpa [hi] using this

theorem all_range_step {n : Nat} {p : Nat → Bool} (h : ∀ j, j < n → p j = true) : (List.range n).all p = true := by
  simpa [List.all_eq_true] using h

set_option maxHeartbeats 1000000 in
theorem possible_any (ia : Option Addr) (il ic : Nat) (an : Option Addr) (cn : Nat) (ns : List Nd) (root pts : Int) (a : Option Addr) (took : List Int) (ca : Nat) (w : World) (h : ProgAt w an ns) (hx : IntsAt w a took) (hl : took.length ≤ 140737488355328)
    (hg : GoodE (enclF ns root pts)) :
    Calls Try.prog 10 #[.agg #[.slice ia il ic, .slice an ns.length cn, .int .i64 root, .int .i64 pts], .slice a took.length ca] w fun e w' => e = .returned (.bool (possibleF (enclF ns root pts) took)) ∧ Below w.heap.size w w' := by
  have hE := fun w h => enclosing_any (.slice ia il ic) an cn ns root pts w h ⟨_, _, _, rfl⟩
  generalize enclF ns root pts = es at *
  have hb0 : Below w.heap.size w (w.alloc (.cells #[.slice ia il ic, .slice an ns.length cn, .int .i64 root, .int .i64 pts] 25)) := (Below.refl _ _).alloc (Nat.le_refl _) _
  have HE := hid (hE _ (h.keep hb0)); have HX := hid hx; have HG := hid hg; have HB0 := hid hb0
  clear hE h hx hg hb0
  go_enter Try.func10, Try.ntmps10
  go_wp2_with ((with_reducible refine (HE.out).mono ?_); rintro e w1 ⟨⟨B, hB, rfl, hp⟩, hb1⟩; have HP := hid hp; have HB1 := hid hb1; clear hp hb1)
  have hb1 : Below w.heap.size w w1 := HB0.out.trans (HB1.out.mono (by simp))
  have HB := hid hb1
  have hv := valid_any took es.length 0 a ca w1 hl (HX.out.keep hb1)
  have HV := hid hv
  clear hb1 hv HB1 HB0 HE hB
  cases hval : validF took es.length 0
  · have HVAL := hid (show possibleF es took = false by unfold possibleF; rw [hval]; rfl)
    rw [hval] at HV
    clear hval
    go_wp2_with ((with_reducible refine (HV.out).mono ?_); rintro e w2 ⟨rfl, hb2⟩; have HB2 := hid hb2; clear hb2)
    go_ret
    exact ⟨ret_bool HVAL.out.symm, HB.out.trans (HB2.out.mono HB.out.size)⟩
  · obtain ⟨hlen, hrange⟩ := valid_len hval
    have HVAL := hid hval; have HLEN := hid hlen; have HR := hid hrange
    rw [hval] at HV
    clear hval hlen hrange
    go_wp2_with ((with_reducible refine (HV.out).mono ?_); rintro e w2 ⟨rfl, hb2⟩; have HB2 := hid hb2; clear hb2)
    have hbw := HB.out.trans (HB2.out.mono HB.out.size)
    have HBW := hid hbw; have HP2 := hid (HP.out.keep HB2.out)
    clear hbw HB2 HP HV HB
    go_loopw [17] (fun i wr => ∃ k : Nat, k ≤ took.length ∧ i = .int .i64 k ∧ (∀ j, j < k → okAt es took j = true) ∧ Below w2.heap.size w2 wr) (fun i _ => took.length - (intOf i).toNat)
    case atStart => exact ⟨0, Nat.zero_le _, rfl, fun j h => by omega, Below.refl _ _⟩
    case round =>
      obtain ⟨k, hk, rfl, hq, hbr⟩ := hrel
      have HQ := hid hq; have HBR := hid hbr
      clear hq hbr
      have hw := HBW.out.trans (HBR.out.mono HBW.out.size)
      have HWR := hid hw
      clear hw
      by_cases hlt : k < took.length
      · obtain ⟨b, off, ea, lb, c1⟩ := (HX.out.keep HWR.out).get hlt
        have hke : k < es.length := by have := HLEN.out; omega
        obtain ⟨bB, oB, eB, lB, p1, p2⟩ := (HP2.out.keep HBR.out) k hke
        obtain ⟨rfl, rfl⟩ : bB = B ∧ oB = 0 := by cases Option.some.inj eB; exact ⟨rfl, rfl⟩
        clear eB
        simp only [Nat.zero_add] at p1 p2
        subst ea
        have hsh := shut_any es[k].1 es[k].2 took (some ⟨b, off, none⟩) ca wr (HX.out.keep HWR.out) (by have := HG.out k hke; have hl := HLEN.out; rcases this with h | ⟨h1, h2, h3⟩; exact Or.inl h; exact Or.inr ⟨h1, by omega, h3⟩) (fun i hi => by have := HR.out i hi; omega)
        have hsh' : shutF (es[k].1, es[k].2) took = shutF (es.getD k (-1, 0)) took := by simp [hke]
        have hok : okAt es took k = !(took[k] != 0 && shutF (es.getD k (-1, 0)) took) := by simp [okAt, hlt]
        rw [hsh'] at hsh
        have HOK := hid hok; have HSH := hid hsh
        clear hsh hsh' hok
        by_cases h0 : took[k] = 0
        · have q0 : (took[k] != 0) = false := by simp [h0]
          have HOK2 := hid (show okAt es took k = true by rw [HOK.out, q0]; rfl)
          clear h0
          go_wp2_with fail
          go_roundw
          case rel =>
            refine ⟨k + 1, by omega, by go_num, fun j hj => ?_, HBR.out⟩
            rcases Nat.lt_succ_iff_lt_or_eq.1 hj with h | rfl
            · exact HQ.out j h
            · exact HOK2.out
          case measure => simp [intOf]; omega
        · have q0 : (took[k] != 0) = true := by simp [h0]
          clear h0
          cases hs : shutF (es.getD k (-1, 0)) took
          · have HOK2 := hid (show okAt es took k = true by rw [HOK.out, q0, hs]; rfl)
            rw [hs] at HSH
            clear hs
            go_wp2_with ((with_reducible refine (HSH.out).mono ?_); rintro e w3 ⟨rfl, hb3⟩; have HB3 := hid hb3; clear hb3)
            go_roundw
            case rel =>
              refine ⟨k + 1, by omega, by go_num, fun j hj => ?_, HBR.out.trans (HB3.out.mono HBR.out.size)⟩
              rcases Nat.lt_succ_iff_lt_or_eq.1 hj with h | rfl
              · exact HQ.out j h
              · exact HOK2.out
            case measure => simp [intOf]; omega
          · have HOK2 := hid (show okAt es took k = false by rw [HOK.out, q0, hs]; rfl)
            rw [hs] at HSH
            clear hs
            go_wp2_with ((with_reducible refine (HSH.out).mono ?_); rintro e w3 ⟨rfl, hb3⟩; have HB3 := hid hb3; clear hb3)
            go_ret
            refine ⟨ret_bool ?_, HWR.out.trans (HB3.out.mono HWR.out.size)⟩
            symm
            unfold possibleF
            rw [HVAL.out, Bool.true_and, List.all_eq_false]
            exact ⟨k, by simpa using hlt, by rw [HOK2.out]; simp⟩
      · obtain rfl : k = took.length := by omega
        go_wp2_with fail
        go_ret
        refine ⟨ret_bool ?_, HWR.out⟩
        symm
        unfold possibleF
        rw [HVAL.out, Bool.true_and]
        exact all_range_step HQ.out
end Go.Proofs.Ytkdloggkpgjekaa
