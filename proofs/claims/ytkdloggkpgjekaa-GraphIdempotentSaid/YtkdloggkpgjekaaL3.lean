/- GraphIdempotent: the law's own walk. -/
import Derived.Test.YtkdloggkpgjekaaL2
namespace Go.Proofs.Ytkdloggkpgjekaa
open Go.RowKit
set_option linter.unusedVariables false

set_option maxHeartbeats 4000000 in
theorem idemlaw_any (ia : Option Addr) (il ic : Nat) (an : Option Addr) (cn : Nat) (ns : List Nd) (root pts : Int) (a : Option Addr) (took : List Int) (ca : Nat) (w : World) (h : ProgAt w an ns) (hil : il ≤ 140737488355328)
    (hx : IntsAt w a took) (hl : took.length ≤ 140737488355328) (hca : a = none → ca = 0) :
    Calls Try.prog 6 #[.agg #[.slice ia il ic, .slice an ns.length cn, .int .i64 root, .int .i64 pts], .slice a took.length ca] w fun e w' => e = .returned (.bool true) ∧ Below w.heap.size w w' := by
  have hb0 : Below w.heap.size w (w.alloc (.cells #[.slice ia il ic, .slice an ns.length cn, .int .i64 root, .int .i64 pts] 25)) := (Below.refl _ _).alloc (Nat.le_refl _) _
  have hg := (enclF_forest ns root pts).good
  have hP := fun w h hx => possible_any ia il ic an cn ns root pts a took ca w h hx hl hg
  have hI := fun (ao : Option Addr) (ys : List Int) (co : Nat) w h hy hl2 hco => infer_any ia il ic an cn ns root pts ao ys co w h hy hl2 hco hg
  generalize enclF ns root pts = es at *
  have HH := hid h; have HX := hid hx; have HG := hid hg; have HP := hid hP; have HI := hid hI; have HB0 := hid hb0; have HCA := hid hca
  clear h hx hg hP hI hb0 hca
  go_enter Try.func6, Try.ntmps6
  go_wp2_with fail
  refine (sanity_any _).mono ?_
  rintro e w1 ⟨rfl, hb⟩
  have HB1 := hid (HB0.out.trans (hb.mono (by simp)))
  have HBX1 := hid ((BoxP.mk' w ia il ic an ns.length cn root pts).keep hb)
  obtain ⟨z, g0, g1, g2, g3⟩ := HBX1.out
  clear hb
  have HS := hid (small_any ia il ic an cn ns root pts w1 (HH.out.keep HB1.out) hil)
  cases hsm : smallF ns il
  · rw [hsm] at HS
    clear hsm
    go_wp2_with ((with_reducible refine (HS.out).mono ?_); rintro e w2 ⟨rfl, hb2⟩; have HB2 := hid hb2; clear hb2)
    go_ret
    exact ⟨rfl, HB1.out.trans (HB2.out.mono HB1.out.size)⟩
  rw [hsm] at HS
  clear hsm
  by_cases hl20 : 20 < took.length
  · have d1 : decide (20 < took.length) = true := by simpa using hl20
    go_wp2_with ((with_reducible refine (HS.out).mono ?_); rintro e w2 ⟨rfl, hb2⟩; have HB2 := hid hb2; clear hb2)
    go_ret
    exact ⟨rfl, HB1.out.trans (HB2.out.mono HB1.out.size)⟩
  have d1 : decide (20 < took.length) = false := by simpa using hl20
  go_wp2_with ((with_reducible refine (HS.out).mono ?_); rintro e w2 ⟨rfl, hb2⟩; have q0 := (hb2.cell (p := ⟨w.heap.size, 0, none⟩) z).trans g0; have q1 := (hb2.cell (p := ⟨w.heap.size, 1, none⟩) z).trans g1; have q2 := (hb2.cell (p := ⟨w.heap.size, 2, none⟩) z).trans g2; have q3 := (hb2.cell (p := ⟨w.heap.size, 3, none⟩) z).trans g3; have HB2 := hid hb2; clear hb2)
  have HB12 := hid (HB1.out.trans (HB2.out.mono HB1.out.size))
  have HBX2 := hid (HBX1.out.keep HB2.out)
  have hI2 := HI.out a took ca w2 (HH.out.keep HB12.out) (RowAt.keep HX.out HB12.out) (by omega) HCA.out
  unfold InferPost at hI2
  have hfull := @full es took
  cases hinf : inferF es took with
  | none =>
    rw [hinf] at hI2 hfull
    have HI2 := hid hI2; have HF := hid hfull
    clear hI2 hfull hinf
    go_wp2_with ((with_reducible refine (HI2.out).mono ?_); rintro e w3 ⟨rfl, hb3⟩; have HB3 := hid hb3; clear hb3)
    have HB13 := hid (HB12.out.trans (HB3.out.mono HB12.out.size))
    have HBX3 := hid (HBX2.out.keep HB3.out)
    clear z g0 g1 g2 g3 q0 q1 q2 q3
    go_loopw [8, 9] (fun u i wr => ∃ (k : Nat) (b : Bool), k ≤ took.length ∧ i = .int .i64 k ∧ u = .bool b ∧ (b = true → ∀ j, j < k → 0 ≤ took.getD j 0) ∧ wr = w3) (fun _ i _ => took.length - (intOf i).toNat)
    case atStart => exact ⟨0, true, Nat.zero_le _, rfl, rfl, (fun _ j h => by omega), rfl⟩
    case round =>
      obtain ⟨k, b, hk, rfl, rfl, hq, rfl⟩ := hrel
      have HQ := hid hq
      clear hq
      by_cases hlt : k < took.length
      · obtain ⟨b1, o1, rfl, lb1, t1⟩ := IntsAt.get (RowAt.keep HX.out HB13.out) hlt
        have e3 : took.getD k 0 = took[k] := by rw [List.getD_eq_getElem?_getD, List.getElem?_eq_getElem hlt]; rfl
        have HE3 := hid e3
        clear e3
        cases b
        · go_wp2_with fail
          go_roundw
          case rel => exact ⟨k + 1, false, by omega, by go_num, rfl, (fun h => by cases h), trivial⟩
          case measure => simp [intOf]; omega
        · by_cases h0 : 0 ≤ took[k]
          · have q0 : decide (0 ≤ took[k]) = true := by simpa using h0
            have H0 := hid h0
            clear h0
            go_wp2_with fail
            go_roundw
            case rel =>
              refine ⟨k + 1, true, by omega, by go_num, rfl, (fun _ j hj => ?_), trivial⟩
              rcases Nat.lt_succ_iff_lt_or_eq.1 hj with h | rfl
              · exact HQ.out rfl j h
              · rw [HE3.out]; exact H0.out
            case measure => simp [intOf]; omega
          · have q0 : decide (0 ≤ took[k]) = false := by simpa using h0
            clear h0
            go_wp2_with fail
            go_roundw
            case rel => exact ⟨k + 1, false, by omega, by go_num, rfl, (fun h => by cases h), trivial⟩
            case measure => simp [intOf]; omega
      · obtain rfl : k = took.length := by omega
        obtain ⟨y, y0, y1, y2, y3⟩ := HBX3.out
        cases b
        · go_wp2_with fail
          go_ret
          exact ⟨rfl, HB13.out⟩
        · have hp := HP.out wr (HH.out.keep HB13.out) (RowAt.keep HX.out HB13.out)
          have hf := HF.out (fun i hi => HQ.out rfl i hi)
          rw [← hf] at hp
          simp only [Option.isSome_none] at hp
          have HPP := hid hp
          clear hp hf
          go_wp2_with fail
          refine (HPP.out).mono ?_
          rintro e w4 ⟨rfl, hb4⟩
          have HB4 := hid hb4
          clear hb4
          go_wp2_with fail
          go_ret
          exact ⟨rfl, HB13.out.trans (HB4.out.mono HB13.out.size)⟩
  | some l =>
    obtain ⟨hidm, hll, hinr⟩ := idem hinf
    rw [hinf] at hI2 hfull
    have HI2 := hid hI2; have HF := hid hfull; have HIL := hid hidm; have HLL := hid hll
    clear hI2 hfull hinf hidm hll hinr
    go_wp2_with ((with_reducible refine (HI2.out).mono ?_); rintro e w3 ⟨⟨ai, ci, rfl, hci, hol⟩, hb3⟩; have HB3 := hid hb3; have HCI := hid hci; have HOL : Hid (IntsAt w3 ai l) := hid hol.ints; clear hb3 hci hol)
    rw [HLL.out]
    have HB13 := hid (HB12.out.trans (HB3.out.mono HB12.out.size))
    have HBX3 := hid (HBX2.out.keep HB3.out)
    clear z g0 g1 g2 g3 q0 q1 q2 q3
    go_loopw [8, 9] (fun u i wr => ∃ (k : Nat) (b : Bool), k ≤ took.length ∧ i = .int .i64 k ∧ u = .bool b ∧ (b = true → ∀ j, j < k → 0 ≤ took.getD j 0) ∧ wr = w3) (fun _ i _ => took.length - (intOf i).toNat)
    case atStart => exact ⟨0, true, Nat.zero_le _, rfl, rfl, (fun _ j h => by omega), rfl⟩
    case round =>
      obtain ⟨k, b, hk, rfl, rfl, hq, rfl⟩ := hrel
      have HQ := hid hq
      clear hq
      by_cases hlt : k < took.length
      · obtain ⟨b1, o1, rfl, lb1, t1⟩ := IntsAt.get (RowAt.keep HX.out HB13.out) hlt
        have e3 : took.getD k 0 = took[k] := by rw [List.getD_eq_getElem?_getD, List.getElem?_eq_getElem hlt]; rfl
        have HE3 := hid e3
        clear e3
        cases b
        · go_wp2_with fail
          go_roundw
          case rel => exact ⟨k + 1, false, by omega, by go_num, rfl, (fun h => by cases h), trivial⟩
          case measure => simp [intOf]; omega
        · by_cases h0 : 0 ≤ took[k]
          · have q0 : decide (0 ≤ took[k]) = true := by simpa using h0
            have H0 := hid h0
            clear h0
            go_wp2_with fail
            go_roundw
            case rel =>
              refine ⟨k + 1, true, by omega, by go_num, rfl, (fun _ j hj => ?_), trivial⟩
              rcases Nat.lt_succ_iff_lt_or_eq.1 hj with h | rfl
              · exact HQ.out rfl j h
              · rw [HE3.out]; exact H0.out
            case measure => simp [intOf]; omega
          · have q0 : decide (0 ≤ took[k]) = false := by simpa using h0
            clear h0
            go_wp2_with fail
            go_roundw
            case rel => exact ⟨k + 1, false, by omega, by go_num, rfl, (fun h => by cases h), trivial⟩
            case measure => simp [intOf]; omega
      · obtain rfl : k = took.length := by omega
        obtain ⟨y, y0, y1, y2, y3⟩ := HBX3.out
        cases b
        · clear y y0 y1 y2 y3
          have hIl := HI.out ai l ci wr (HH.out.keep HB13.out) (RowAt.keep HOL.out (Below.refl _ _)) (by rw [HLL.out]; omega) HCI.out
          unfold InferPost at hIl
          rw [HIL.out, HLL.out] at hIl
          have HIl := hid hIl
          clear hIl
          obtain ⟨v, v0, v1, v2, v3⟩ := HBX3.out
          go_wp2_with fail
          refine (HIl.out).mono ?_
          rintro e w5 ⟨⟨am, cm, rfl, _, hom⟩, hb5⟩
          have hints := ints_any ai am l l ci cm w5 (RowAt.keep (RowAt.keep HOL.out (Below.refl _ _)) hb5) hom.ints (by rw [HLL.out]; omega)
          have hdl : decide (l = l) = true := by simp
          rw [HLL.out, hdl] at hints
          rw [HLL.out]
          have HIN := hid hints; have HB15 := hid (HB13.out.trans (hb5.mono HB13.out.size))
          clear hints hb5 hom hdl v v0 v1 v2 v3
          go_wp2_with fail
          refine (HIN.out).mono ?_
          rintro e w6 ⟨rfl, hb6⟩
          have HB6 := hid hb6
          clear hb6
          go_wp2_with fail
          go_ret
          exact ⟨rfl, HB15.out.trans (HB6.out.mono HB15.out.size)⟩
        · have hp := HP.out wr (HH.out.keep HB13.out) (RowAt.keep HX.out HB13.out)
          have hf := HF.out (fun i hi => HQ.out rfl i hi)
          rw [← hf] at hp
          simp only [Option.isSome_some] at hp
          have HPP := hid hp
          clear hp hf
          go_wp2_with fail
          refine (HPP.out).mono ?_
          rintro e w4 ⟨rfl, hb4⟩
          have HB4 := hid hb4; have HB14 := hid (HB13.out.trans (hb4.mono HB13.out.size)); have HBX4 := hid (HBX3.out.keep hb4)
          clear hb4 y y0 y1 y2 y3
          have hIl := HI.out ai l ci w4 (HH.out.keep HB14.out) (RowAt.keep HOL.out HB4.out) (by rw [HLL.out]; omega) HCI.out
          unfold InferPost at hIl
          rw [HIL.out, HLL.out] at hIl
          have HIl := hid hIl
          clear hIl
          obtain ⟨v, v0, v1, v2, v3⟩ := HBX4.out
          go_wp2_with fail
          refine (HIl.out).mono ?_
          rintro e w5 ⟨⟨am, cm, rfl, _, hom⟩, hb5⟩
          have hints := ints_any ai am l l ci cm w5 (RowAt.keep (RowAt.keep HOL.out HB4.out) hb5) hom.ints (by rw [HLL.out]; omega)
          have hdl : decide (l = l) = true := by simp
          rw [HLL.out, hdl] at hints
          rw [HLL.out]
          have HIN := hid hints; have HB15 := hid (HB14.out.trans (hb5.mono HB14.out.size))
          clear hints hb5 hom hdl v v0 v1 v2 v3
          go_wp2_with fail
          refine (HIN.out).mono ?_
          rintro e w6 ⟨rfl, hb6⟩
          have HB6 := hid hb6
          clear hb6
          go_wp2_with fail
          go_ret
          exact ⟨rfl, HB15.out.trans (HB6.out.mono HB15.out.size)⟩
end Go.Proofs.Ytkdloggkpgjekaa
