/- GraphTree: the law's own walk. -/
import Derived.Test.YtkdloggkpgjekaaL0
namespace Go.Proofs.Ytkdloggkpgjekaa
open Go.RowKit
set_option linter.unusedVariables false

def StepOk (r : Nat → Nat) (n g s : Nat) (at_ : Int) : Prop := (at_ = -1 ∧ g = 0) ∨ ∃ q : Nat, at_ = q ∧ q < n ∧ s + r q < n ∧ g = r q + 1

set_option maxHeartbeats 2000000 in
theorem tree_any (ia : Option Addr) (il ic : Nat) (an : Option Addr) (cn : Nat) (ns : List Nd) (root pts : Int) (w : World) (h : ProgAt w an ns) (hil : il ≤ 140737488355328) :
    Calls Try.prog 3 #[.agg #[.slice ia il ic, .slice an ns.length cn, .int .i64 root, .int .i64 pts]] w fun e w' => e = .returned (.bool true) ∧ Below w.heap.size w w' := by
  have hb0 : Below w.heap.size w (w.alloc (.cells #[.slice ia il ic, .slice an ns.length cn, .int .i64 root, .int .i64 pts] 25)) := (Below.refl _ _).alloc (Nat.le_refl _) _
  obtain ⟨r, hr⟩ := enclF_forest ns root pts
  have hnl := enclF_length ns root pts
  have hn8 := nPts_le pts
  have hE := fun w h => enclosing_any (.slice ia il ic) an cn ns root pts w h ⟨_, _, _, rfl⟩
  generalize enclF ns root pts = es at *
  have HH := hid h; have HR := hid hr; have HE := hid hE; have HB0 := hid hb0; have hN : es.length ≤ 8 := by omega
  clear h hr hE hb0 hnl hn8
  go_enter Try.func3, Try.ntmps3
  go_wp2_with fail
  refine (sanity_any _).mono ?_
  rintro e w1 ⟨rfl, hb⟩
  have hb1 := HB0.out.trans (hb.mono (by simp))
  have HB1 := hid hb1
  have g0 := (hb.cell (p := ⟨w.heap.size, 0, none⟩) (by simp)).trans (show _ = some (.slice ia il ic) by rw [World.cell?_alloc_at (hn := rfl)]; rfl)
  have g1 := (hb.cell (p := ⟨w.heap.size, 1, none⟩) (by simp)).trans (show _ = some (.slice an ns.length cn) by rw [World.cell?_alloc_at (hn := rfl)]; rfl)
  have g2 := (hb.cell (p := ⟨w.heap.size, 2, none⟩) (by simp)).trans (show _ = some (.int .i64 root) by rw [World.cell?_alloc_at (hn := rfl)]; rfl)
  have g3 := (hb.cell (p := ⟨w.heap.size, 3, none⟩) (by simp)).trans (show _ = some (.int .i64 pts) by rw [World.cell?_alloc_at (hn := rfl)]; rfl)
  have z := cell_lt g0
  simp only at z
  clear hb hb1
  have hs := small_any ia il ic an cn ns root pts w1 (HH.out.keep HB1.out) hil
  have HS := hid hs
  clear hs
  cases hsm : smallF ns il
  · rw [hsm] at HS
    clear hsm
    go_wp2_with ((with_reducible refine (HS.out).mono ?_); rintro e w2 ⟨rfl, hb2⟩; have HB2 := hid hb2; clear hb2)
    go_ret
    exact ⟨rfl, HB1.out.trans (HB2.out.mono HB1.out.size)⟩
  · rw [hsm] at HS
    clear hsm
    go_upto_region 4 with ((with_reducible refine (HS.out).mono ?_); rintro e w2 ⟨rfl, hb2⟩; have q0 := (hb2.cell (p := ⟨w.heap.size, 0, none⟩) z).trans g0; have q1 := (hb2.cell (p := ⟨w.heap.size, 1, none⟩) z).trans g1; have q2 := (hb2.cell (p := ⟨w.heap.size, 2, none⟩) z).trans g2; have q3 := (hb2.cell (p := ⟨w.heap.size, 3, none⟩) z).trans g3; have HB2 := hid hb2; clear hb2)
    have HB12 := hid (HB1.out.trans (HB2.out.mono HB1.out.size))
    have HE2 := hid (HE.out w2 (HH.out.keep HB12.out))
    go_wp2_with ((with_reducible refine (HE2.out).mono ?_); rintro e w3 ⟨⟨B, hB, rfl, hp⟩, hb3⟩; have HP := hid hp; have HB3 := hid hb3; clear hp hb3 hB)
    have HB13 := hid (HB12.out.trans (HB3.out.mono HB12.out.size))
    clear q0 q1 q2 q3 g0 g1 g2 g3 z
    go_loopw [5] (fun i wr => ∃ k : Nat, k ≤ es.length ∧ i = .int .i64 k ∧ Below w3.heap.size w3 wr) (fun i _ => es.length - (intOf i).toNat)
    case atStart => exact ⟨0, Nat.zero_le _, rfl, Below.refl _ _⟩
    case round =>
      obtain ⟨k, hk, rfl, hbr⟩ := hrel
      have HBR := hid hbr
      clear hbr
      by_cases hlt : k < es.length
      · go_wp2_with fail
        obtain ⟨wo, rfl⟩ : ∃ wo : World, wo = wr := ⟨_, rfl⟩
        go_loopg [6, 7] (r k + 1) (fun g a s wr => ∃ (x : Int) (sn : Nat), a = .int .i64 x ∧ s = .int .i64 sn ∧ sn ≤ es.length ∧ StepOk r es.length g sn x ∧ Below w3.heap.size w3 wr)
        case atStart => exact ⟨k, 0, rfl, rfl, Nat.zero_le _, Or.inr ⟨k, rfl, hlt, by have := (HR.out k hlt).1; omega, rfl⟩, HBR.out⟩
        case round =>
          obtain ⟨x, sn, rfl, rfl, hsn, hok, hbr2⟩ := hrel
          have HBR2 := hid hbr2
          clear hbr2
          rcases hok with ⟨rfl, hg⟩ | ⟨q, rfl, hq, hrq, hg⟩
          · have HG := hid hg
            clear hg
            go_wp2_with fail
            go_roundw
            case rel => exact ⟨k + 1, by omega, by go_num, HBR2.out⟩
            case measure => simp [intOf]; omega
          · have HG := hid hg; have HRQ := hid hrq
            have hsl : sn < es.length := by omega
            clear hg hrq
            obtain ⟨bB, oB, eB, lB, p1, p2⟩ := (HP.out.keep HBR2.out) q hq
            obtain ⟨rfl, rfl⟩ : bB = B ∧ oB = 0 := by cases Option.some.inj eB; exact ⟨rfl, rfl⟩
            clear eB
            simp only [Nat.zero_add] at p1 p2
            rcases (HR.out q hq).2 with he | ⟨q', s, hq', hr', hs', he⟩
            · rw [he] at p1 p2
              have HE := hid he
              clear he
              go_wp2_with fail
              go_roundg 0
              case measure => rw [HG.out]; omega
              case rel => exact ⟨-1, sn + 1, rfl, by go_num, by omega, Or.inl ⟨rfl, rfl⟩, HBR2.out.alloc HBR2.out.size _⟩
            · rw [he] at p1 p2
              have HR' := hid hr'
              clear he hr'
              rcases hs' with rfl | rfl
              all_goals
                go_wp2_with fail
                go_roundg (r q' + 1)
                case measure => rw [HG.out]; have := HR'.out; omega
                case rel => exact ⟨q', sn + 1, rfl, by go_num, by omega, Or.inr ⟨q', rfl, hq', by have := HRQ.out; have := HR'.out; omega, rfl⟩, HBR2.out.alloc HBR2.out.size _⟩
      · go_wp2_with fail
        go_ret
        exact ⟨rfl, HB13.out.trans (HBR.out.mono HB13.out.size)⟩
end Go.Proofs.Ytkdloggkpgjekaa
