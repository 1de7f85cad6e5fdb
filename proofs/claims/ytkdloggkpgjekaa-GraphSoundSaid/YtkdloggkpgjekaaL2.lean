/- GraphSound: the law's own walk. -/
import Derived.Test.YtkdloggkpgjekaaL0
import Derived.Test.YtkdloggkpgjekaaP2
namespace Go.Proofs.Ytkdloggkpgjekaa
open Go.RowKit
set_option linter.unusedVariables false

/-- A law's variable p. -/
structure BoxP (b : Nat) (ia : Option Addr) (il ic : Nat) (an : Option Addr) (n cn : Nat) (root pts : Int) (w : World) : Prop where
  lt : b < w.heap.size
  c0 : w.cell? ⟨b, 0, none⟩ = some (.slice ia il ic)
  c1 : w.cell? ⟨b, 1, none⟩ = some (.slice an n cn)
  c2 : w.cell? ⟨b, 2, none⟩ = some (.int .i64 root)
  c3 : w.cell? ⟨b, 3, none⟩ = some (.int .i64 pts)
theorem BoxP.keep {b : Nat} {ia : Option Addr} {il ic : Nat} {an : Option Addr} {n cn : Nat} {root pts : Int} {w w' : World} (h : BoxP b ia il ic an n cn root pts w) (k : Below w.heap.size w w') : BoxP b ia il ic an n cn root pts w' :=
  ⟨Nat.lt_of_lt_of_le h.lt k.size, (k.cell (p := ⟨b, 0, none⟩) h.lt).trans h.c0, (k.cell (p := ⟨b, 1, none⟩) h.lt).trans h.c1, (k.cell (p := ⟨b, 2, none⟩) h.lt).trans h.c2, (k.cell (p := ⟨b, 3, none⟩) h.lt).trans h.c3⟩
theorem BoxP.mk' (w : World) (ia : Option Addr) (il ic : Nat) (an : Option Addr) (n cn : Nat) (root pts : Int) : BoxP w.heap.size ia il ic an n cn root pts (w.alloc (.cells #[.slice ia il ic, .slice an n cn, .int .i64 root, .int .i64 pts] 25)) :=
  ⟨by simp, by rw [World.cell?_alloc_at (hn := rfl)]; rfl, by rw [World.cell?_alloc_at (hn := rfl)]; rfl, by rw [World.cell?_alloc_at (hn := rfl)]; rfl, by rw [World.cell?_alloc_at (hn := rfl)]; rfl⟩

set_option maxHeartbeats 4000000 in
theorem soundlaw_any (ia : Option Addr) (il ic : Nat) (an : Option Addr) (cn : Nat) (ns : List Nd) (root pts : Int) (a : Option Addr) (took : List Int) (ca : Nat) (mask : Int) (w : World) (h : ProgAt w an ns) (hil : il ≤ 140737488355328)
    (hx : IntsAt w a took) (hl : took.length ≤ 140737488355328) (hmask : 0 ≤ mask ∧ mask ≤ 255) :
    Calls Try.prog 4 #[.agg #[.slice ia il ic, .slice an ns.length cn, .int .i64 root, .int .i64 pts], .slice a took.length ca, .int .u8 mask] w fun e w' => e = .returned (.bool true) ∧ Below w.heap.size w w' := by
  have hb0 : Below w.heap.size w (w.alloc (.cells #[.slice ia il ic, .slice an ns.length cn, .int .i64 root, .int .i64 pts] 25)) := (Below.refl _ _).alloc (Nat.le_refl _) _
  have hg := (enclF_forest ns root pts).good
  have hP := fun w h hx => possible_any ia il ic an cn ns root pts a took ca w h hx hl hg
  have hI := fun (ao : Option Addr) (ys : List Int) (co : Nat) w h hy hl2 hco => infer_any ia il ic an cn ns root pts ao ys co w h hy hl2 hco hg
  generalize enclF ns root pts = es at *
  have HH := hid h; have HX := hid hx; have HG := hid hg; have HP := hid hP; have HI := hid hI; have HB0 := hid hb0; have HMK := hid hmask
  clear h hx hg hP hI hb0 hmask
  go_enter Try.func4, Try.ntmps4
  go_wp2_with fail
  refine (sanity_any _).mono ?_
  rintro e w1 ⟨rfl, hb⟩
  have HB1 := hid (HB0.out.trans (hb.mono (by simp)))
  have HBX1 := hid ((BoxP.mk' w ia il ic an ns.length cn root pts).keep hb)
  obtain ⟨z, g0, g1, g2, g3⟩ := HBX1.out
  clear hb
  have HS := hid (small_any ia il ic an cn ns root pts w1 (HH.out.keep HB1.out) hil)
  cases hsm : smallF ns il
  · rw [hsm] at HS
    clear hsm
    go_wp2_with ((with_reducible refine (HS.out).mono ?_); rintro e w2 ⟨rfl, hb2⟩; have HB2 := hid hb2; clear hb2)
    go_ret
    exact ⟨rfl, HB1.out.trans (HB2.out.mono HB1.out.size)⟩
  rw [hsm] at HS
  clear hsm
  by_cases hl20 : 20 < took.length
  · have d1 : decide (20 < took.length) = true := by simpa using hl20
    go_wp2_with ((with_reducible refine (HS.out).mono ?_); rintro e w2 ⟨rfl, hb2⟩; have HB2 := hid hb2; clear hb2)
    go_ret
    exact ⟨rfl, HB1.out.trans (HB2.out.mono HB1.out.size)⟩
  have d1 : decide (20 < took.length) = false := by simpa using hl20
  cases hpos : possibleF es took
  · go_wp2_with ((with_reducible refine (HS.out).mono ?_); rintro e w2 ⟨rfl, hb2⟩; have q0 := (hb2.cell (p := ⟨w.heap.size, 0, none⟩) z).trans g0; have q1 := (hb2.cell (p := ⟨w.heap.size, 1, none⟩) z).trans g1; have q2 := (hb2.cell (p := ⟨w.heap.size, 2, none⟩) z).trans g2; have q3 := (hb2.cell (p := ⟨w.heap.size, 3, none⟩) z).trans g3; have HB2 := hid hb2; clear hb2)
    have HB12 := hid (HB1.out.trans (HB2.out.mono HB1.out.size))
    have HP2 := hid (HP.out w2 (HH.out.keep HB12.out) (RowAt.keep HX.out HB12.out))
    rw [hpos] at HP2
    clear hpos
    refine (HP2.out).mono ?_
    rintro e w3 ⟨rfl, hb3⟩
    have HB3 := hid hb3
    clear hb3
    go_wp2_with fail
    go_ret
    exact ⟨rfl, HB12.out.trans (HB3.out.mono HB12.out.size)⟩
  have HPOS := hid hpos
  clear hpos
  go_wp2_with ((with_reducible refine (HS.out).mono ?_); rintro e w2 ⟨rfl, hb2⟩; have q0 := (hb2.cell (p := ⟨w.heap.size, 0, none⟩) z).trans g0; have q1 := (hb2.cell (p := ⟨w.heap.size, 1, none⟩) z).trans g1; have q2 := (hb2.cell (p := ⟨w.heap.size, 2, none⟩) z).trans g2; have q3 := (hb2.cell (p := ⟨w.heap.size, 3, none⟩) z).trans g3; have HB2 := hid hb2; clear hb2)
  have HB12 := hid (HB1.out.trans (HB2.out.mono HB1.out.size))
  have HBX2 := hid (HBX1.out.keep HB2.out)
  have HP2 := HP.out w2 (HH.out.keep HB12.out) (RowAt.keep HX.out HB12.out)
  rw [HPOS.out] at HP2
  refine HP2.mono ?_
  rintro e w3 ⟨rfl, hb3⟩
  have HB13 := hid (HB12.out.trans (hb3.mono HB12.out.size))
  have HBX3 := hid (HBX2.out.keep hb3)
  clear hb3 HP2 z g0 g1 g2 g3 q0 q1 q2 q3
  go_wp2_with fail
  refine (hide_any a took mask ca w3 (RowAt.keep HX.out HB13.out) (by omega) HMK.out).mono ?_
  rintro e w4 ⟨⟨ys, hys, ⟨ao, co, rfl, hco, hown⟩, hyq⟩, hb4⟩
  have HYS := hid hys; have HOWN := hid hown; have HYQ := hid hyq
  have HB14 := hid (HB13.out.trans (hb4.mono HB13.out.size))
  have HBX4 := hid (HBX3.out.keep hb4)
  obtain ⟨z, g0, g1, g2, g3⟩ := HBX4.out
  have HCO := hid hco
  clear hb4 hys hown hyq hco
  obtain ⟨l, hinf, hbet⟩ := sound HPOS.out HG.out HYS.out (fun i hi => by have := HYQ.out i hi; simpa [hi] using this)
  have hI2 := HI.out ao ys co w4 (HH.out.keep HB14.out) HOWN.out.ints (by rw [HYS.out]; omega) HCO.out
  unfold InferPost at hI2
  rw [hinf, HYS.out] at hI2
  have HI2 := hid hI2; have HBT := hid hbet; have HLL := hid hbet.1
  clear hinf hI2 hbet
  go_wp2_with fail
  refine (HI2.out).mono ?_
  rintro e w5 ⟨⟨ai, ci, rfl, _, hown5⟩, hb5⟩
  rw [HLL.out]
  have HB15 := hid (HB14.out.trans (hb5.mono HB14.out.size))
  have HOWN5 := hid hown5; have HOY := hid (HOWN.out.keep hb5)
  clear hown5 hb5 z g0 g1 g2 g3
  go_wp2_with fail
  go_loopw [11] (fun i wr => ∃ k : Nat, k ≤ took.length ∧ i = .int .i64 k ∧ ∃ n, wr = w5.drewN n) (fun i _ => took.length - (intOf i).toNat)
  case atStart => exact ⟨0, Nat.zero_le _, rfl, 0, rfl⟩
  case round =>
    obtain ⟨k, hk, rfl, n, rfl⟩ := hrel
    by_cases hlt : k < took.length
    · obtain ⟨b1, o1, rfl, lb1, t1⟩ := IntsAt.get (RowAt.keep HX.out HB15.out) hlt
      have hkl : k < l.length := by rw [HLL.out]; exact hlt
      have hky : k < ys.length := by rw [HYS.out]; exact hlt
      obtain ⟨b2, rfl, _, lb2, t2, _⟩ := HOWN5.out k hkl
      obtain ⟨b3, rfl, _, lb3, t3, _⟩ := HOY.out k hky
      have hbt := HBT.out.2 k hlt
      have e1 : l.getD k 0 = l[k] := by rw [List.getD_eq_getElem?_getD, List.getElem?_eq_getElem hkl]; rfl
      have e2 : ys.getD k 0 = ys[k] := by rw [List.getD_eq_getElem?_getD, List.getElem?_eq_getElem hky]; rfl
      have e3 : took.getD k 0 = took[k] := by rw [List.getD_eq_getElem?_getD, List.getElem?_eq_getElem hlt]; rfl
      rw [e1, e2, e3] at hbt
      obtain ⟨lk, hlk⟩ : ∃ x, l[k] = x := ⟨_, rfl⟩
      obtain ⟨yk, hyk⟩ : ∃ x, ys[k] = x := ⟨_, rfl⟩
      obtain ⟨tk, htk⟩ : ∃ x, took[k] = x := ⟨_, rfl⟩
      rw [hlk, hyk, htk] at hbt
      rw [hlk] at t2
      rw [hyk] at t3
      rw [htk] at t1
      clear e1 e2 e3 hlk hyk htk
      by_cases hl1 : lk = -1
      · have hy1 : yk = -1 := by
          by_cases h : yk = -1
          · exact h
          · have := hbt.2 h; omega
        subst hl1; subst hy1
        clear hbt
        go_upto_region 10 with (fail)
        go_quiet (fail)
        go_wp2_with fail
        go_roundw
        case rel => exact ⟨k + 1, by omega, by go_num, n + nq, rfl⟩
        case measure => simp [intOf]; omega
      · have hlt2 : lk = tk := by
          rcases hbt.1 with h | h
          · exact absurd h hl1
          · exact h
        subst hlt2
        have q1 : (lk != -1) = true := by simpa using hl1
        have q2 : (lk != lk) = false := by simp
        by_cases hy1 : yk = -1
        · subst hy1
          clear hbt hl1
          go_upto_region 10 with (fail)
          go_quiet (fail)
          go_wp2_with fail
          go_roundw
          case rel => exact ⟨k + 1, by omega, by go_num, n + nq, rfl⟩
          case measure => simp [intOf]; omega
        · obtain rfl : lk = yk := hbt.2 hy1
          clear hbt hl1 hy1
          go_upto_region 10 with (fail)
          go_quiet (fail)
          go_wp2_with fail
          go_roundw
          case rel => exact ⟨k + 1, by omega, by go_num, n + nq, rfl⟩
          case measure => simp [intOf]; omega
    · go_wp2_with fail
      go_ret
      exact ⟨rfl, below_drewN HB15.out n⟩
end Go.Proofs.Ytkdloggkpgjekaa
