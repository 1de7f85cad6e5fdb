/- The contract of Infer. -/
import Derived.Test.YtkdloggkpgjekaaI0
import Derived.Deep.LoopGhost
namespace Go.Proofs.Ytkdloggkpgjekaa
open Go.RowKit
set_option linter.unusedVariables false

/-- What holds between two rounds: the list l has come of so many passes. -/
structure Rnd (es : List (Int × Int)) (took : List Int) (w2 : World) (ao : Option Addr) (l : List Int) (wr : World) : Prop where
  it : ∃ n, l = iterF es n took
  own : OwnAt w2.heap.size wr ao l
  below : Below w2.heap.size w2 wr
  inr : InR l
/-- .. in the middle of a pass. -/
structure Mdl (es : List (Int × Int)) (took : List Int) (w2 : World) (ao : Option Addr) (l : List Int) (k : Nat) (b : Bool) (wr : World) : Prop where
  own : OwnAt w2.heap.size wr ao (passTo es l k)
  below : Below w2.heap.size w2 wr
  inr : InR (passTo es l k)
  no : b = false → passTo es l k = l
  yes : b = true → cnt (passTo es l k) < cnt l

theorem Mdl.start {es : List (Int × Int)} {took : List Int} {w2 : World} {ao : Option Addr} {l : List Int} {wr : World} (h : Rnd es took w2 ao l wr) : Mdl es took w2 ao l 0 false wr :=
  ⟨h.own, h.below, h.inr, fun _ => rfl, fun h => by cases h⟩
theorem Mdl.skip {es : List (Int × Int)} {took : List Int} {w2 : World} {ao : Option Addr} {l : List Int} {k : Nat} {b : Bool} {wr w' : World} (h : Mdl es took w2 ao l k b wr) (hb : Below wr.heap.size wr w')
    (hs : ¬ ((passTo es l k).getD k 0 = -1 ∧ shutF (es.getD k (-1, 0)) (passTo es l k) = true)) : Mdl es took w2 ao l (k + 1) b w' := by
  have e : passTo es l (k + 1) = passTo es l k := by rw [passTo_succ, stepF, if_neg hs]
  exact ⟨by rw [e]; exact h.own.keep hb, h.below.trans (hb.mono h.below.size), by rw [e]; exact h.inr, by rw [e]; exact h.no, by rw [e]; exact h.yes⟩
theorem Mdl.set {es : List (Int × Int)} {took : List Int} {w2 : World} {ao : Option Addr} {l : List Int} {k : Nat} {b : Bool} {wr w' : World} {g : Nat} (h : Mdl es took w2 ao l k b wr) (hb : Below wr.heap.size wr w')
    (hk : k < l.length) (hg : ao = some ⟨g, 0, none⟩) (hs : (passTo es l k).getD k 0 = -1 ∧ shutF (es.getD k (-1, 0)) (passTo es l k) = true) :
    Mdl es took w2 ao l (k + 1) true (w'.setCell ⟨g, k, none⟩ (.int .i64 0)) := by
  have e : passTo es l (k + 1) = (passTo es l k).set k 0 := by rw [passTo_succ, stepF, if_pos hs]
  have ho := h.own.keep hb
  have hkl : k < (passTo es l k).length := by simpa using hk
  have hgb : w2.heap.size ≤ g := by
    obtain ⟨g', e', hbg, _⟩ := ho k hkl
    rw [hg] at e'
    cases Option.some.inj e'
    exact hbg
  refine ⟨?_, (h.below.trans (hb.mono h.below.size)).setCell hgb _, by rw [e]; exact h.inr.set k, (fun h => by cases h), fun _ => ?_⟩
  · rw [e]
    intro i hi
    obtain ⟨g', e', hbg, hl, hc, hf⟩ := ho i (by simpa using hi)
    rw [hg] at e'
    cases Option.some.inj e'
    refine ⟨g, hg, hbg, by simpa using hl, ?_, by simpa using hf⟩
    obtain ⟨g2, e2, _, _, hck, _⟩ := ho k hkl
    rw [hg] at e2
    cases Option.some.inj e2
    rw [setCell_cell hck]
    by_cases ek : k = i
    · subst ek; simp
    · rw [if_neg ek, hc]; simp [ek]
  · rw [e]
    have := cnt_set (passTo es l k) k hs.1
    cases b
    · rw [h.no rfl] at this ⊢; omega
    · have := h.yes rfl; omega
theorem Mdl.done {es : List (Int × Int)} {took : List Int} {w2 : World} {ao : Option Addr} {l : List Int} {b : Bool} {wr : World} (h : Mdl es took w2 ao l l.length b wr) (hi : ∃ n, l = iterF es n took) :
    Rnd es took w2 ao (passF es l) wr ∧ (b = false → passF es (passF es l) = passF es l) ∧ 2 * cnt (passF es l) + b.toNat < 2 * cnt l + 1 := by
  obtain ⟨n, hn⟩ := hi
  refine ⟨⟨⟨n + 1, by rw [iter_add, ← hn]; rfl⟩, h.own, h.below, h.inr⟩, fun hb => ?_, ?_⟩
  · have := h.no hb
    show passF es (passTo es l l.length) = passTo es l l.length
    rw [this]; exact this
  · cases b
    · have : passF es l = l := h.no rfl
      rw [this]; simp
    · have : cnt (passF es l) < cnt l := h.yes rfl
      simp; omega

/-- What Infer returns. -/
def InferPost (es : List (Int × Int)) (took : List Int) (base : Nat) (e : Ending) (w' : World) : Prop :=
  match inferF es took with
  | some l => ∃ ao c, e = .returned (.tuple #[.slice ao l.length c, .bool true]) ∧ (ao = none → c = 0) ∧ OwnAt base w' ao l
  | none => e = .returned (.tuple #[.slice none 0 0, .bool false])

theorem inferF_invalid {es : List (Int × Int)} {took : List Int} (h : validF took es.length (-1) = false) : inferF es took = none := by simp [inferF, h]

set_option maxHeartbeats 2000000 in
theorem infer_any (ia : Option Addr) (il ic : Nat) (an : Option Addr) (cn : Nat) (ns : List Nd) (root pts : Int) (a : Option Addr) (took : List Int) (ca : Nat) (w : World) (h : ProgAt w an ns) (hx : IntsAt w a took) (hl : took.length ≤ 1000000) (hca : a = none → ca = 0)
    (hg : GoodE (enclF ns root pts)) :
    Calls Try.prog 12 #[.agg #[.slice ia il ic, .slice an ns.length cn, .int .i64 root, .int .i64 pts], .slice a took.length ca] w fun e w' => InferPost (enclF ns root pts) took w.heap.size e w' ∧ Below w.heap.size w w' := by
  have hE := fun w h => enclosing_any (.slice ia il ic) an cn ns root pts w h ⟨_, _, _, rfl⟩
  generalize enclF ns root pts = es at *
  have hb0 : Below w.heap.size w (w.alloc (.cells #[.slice ia il ic, .slice an ns.length cn, .int .i64 root, .int .i64 pts] 25)) := (Below.refl _ _).alloc (Nat.le_refl _) _
  have HE := hid (hE _ (h.keep hb0)); have HX := hid hx; have HG := hid hg; have HB0 := hid hb0; have HCA := hid hca
  clear hE h hx hg hb0 hca
  go_enter Try.func12, Try.ntmps12
  go_wp2_with ((with_reducible refine (HE.out).mono ?_); rintro e w1 ⟨⟨B, hB, rfl, hp⟩, hb1⟩; have HP := hid hp; have HB1 := hid hb1; clear hp hb1)
  have hb1 : Below w.heap.size w w1 := HB0.out.trans (HB1.out.mono (by simp))
  have HB := hid hb1
  have hv := valid_any took es.length (-1) a ca w1 (by omega) (HX.out.keep hb1)
  have HV := hid hv
  clear hb1 hv HB1 HB0 HE hB
  cases hval : validF took es.length (-1)
  · have HVAL := hid (inferF_invalid hval)
    rw [hval] at HV
    clear hval
    go_wp2_with ((with_reducible refine (HV.out).mono ?_); rintro e w2 ⟨rfl, hb2⟩; have HB2 := hid hb2; clear hb2)
    go_ret2
    exact ⟨by unfold InferPost; rw [HVAL.out]; rfl, HB.out.trans (HB2.out.mono HB.out.size)⟩
  · obtain ⟨hlen, hrange⟩ := valid_len hval
    have HVAL := hid hval; have HLEN := hid hlen; have HR := hid hrange
    rw [hval] at HV
    clear hval hlen hrange
    go_upto_region 4 with ((with_reducible refine (HV.out).mono ?_); rintro e w2 ⟨rfl, hb2⟩; have HB2 := hid hb2; clear hb2)
    have hbw := HB.out.trans (HB2.out.mono HB.out.size)
    have HBW := hid hbw; have HP2 := hid (HP.out.keep HB2.out)
    have HCL := hid (clone_any a took ca w2 hl (HX.out.keep hbw) HCA.out)
    clear hbw HB2 HP HV HB
    go_wp2_with ((with_reducible refine (HCL.out).mono ?_); rintro e w3 ⟨⟨ao, co, rfl, hco, ho⟩, hb3⟩; have HO := hid ho; have HB3 := hid hb3; have HCO := hid hco; clear ho hb3 hco)
    go_loopg [8] (2 * cnt took + 1) (fun g u wr => ∃ (l : List Int) (b : Bool), u = .bool b ∧ l.length = took.length ∧ Rnd es took w2 ao l wr ∧ (b = false → passF es l = l) ∧ g = 2 * cnt l + b.toNat)
    case atStart => exact ⟨took, true, rfl, rfl, ⟨⟨0, rfl⟩, HO.out, HB3.out, fun i hi => HR.out i hi⟩, (fun h => by cases h), rfl⟩
    case round =>
      obtain ⟨l, b, rfl, hll, hr, hfix, hgk⟩ := hrel
      have HLL := hid hll; have HRD := hid hr; have HFX := hid hfix; have HGK := hid hgk
      clear hll hr hfix hgk
      cases b
      · have hit : l = iterF es took.length took := by
          obtain ⟨n, hn⟩ := HRD.out.it
          exact reached es took l n hn (HFX.out rfl)
        have hinf : inferF es took = if (List.range l.length).all (inferOk es l) then some l else none := by
          unfold inferF
          rw [if_pos HVAL.out, ← hit]
        have HINF := hid hinf
        clear hit hinf
        go_wp2_with fail
        obtain ⟨wo, rfl⟩ : ∃ wo : World, wo = wr := ⟨_, rfl⟩
        go_loopw [46] (fun i wr => ∃ k : Nat, k ≤ took.length ∧ i = .int .i64 k ∧ (∀ j, j < k → inferOk es l j = true) ∧ Below wo.heap.size wo wr) (fun i _ => took.length - (intOf i).toNat)
        case atStart => exact ⟨0, Nat.zero_le _, rfl, fun j h => by omega, Below.refl _ _⟩
        case round =>
          obtain ⟨k, hk, rfl, hq, hbr⟩ := hrel
          have HQ := hid hq; have HBR := hid hbr
          clear hq hbr
          have hw := HRD.out.below.trans (HBR.out.mono HRD.out.below.size)
          have HW2 := hid hw
          have HWW := hid (HBW.out.trans (hw.mono HBW.out.size))
          clear hw
          by_cases hlt : k < took.length
          · have hlt' : k < l.length := by have := HLL.out; omega
            obtain ⟨g, eg, hbg, lg, c1, f1⟩ := (HRD.out.own.keep HBR.out) k hlt'
            have hke : k < es.length := by have := HLEN.out; omega
            obtain ⟨bB, oB, eB, lB, p1, p2⟩ := (HP2.out.keep HW2.out) k hke
            obtain ⟨rfl, rfl⟩ : bB = B ∧ oB = 0 := by cases Option.some.inj eB; exact ⟨rfl, rfl⟩
            clear eB
            simp only [Nat.zero_add] at p1 p2
            subst eg
            have hsh := shut_any es[k].1 es[k].2 l (some ⟨g, 0, none⟩) co wr (HRD.out.own.keep HBR.out).ints (by have := HG.out k hke; have hl := HLEN.out; have := HLL.out; rcases HG.out k hke with h | ⟨h1, h2, h3⟩; exact Or.inl h; exact Or.inr ⟨h1, by omega, h3⟩) HRD.out.inr
            have hsh' : shutF (es[k].1, es[k].2) l = shutF (es.getD k (-1, 0)) l := by simp [hke]
            rw [hsh', HLL.out] at hsh
            have HSH := hid hsh
            have hok : inferOk es l k = !(decide (0 < l[k]) && shutF (es.getD k (-1, 0)) l) := by
              unfold inferOk
              rw [List.getD_eq_getElem?_getD (l := l), List.getElem?_eq_getElem hlt']; rfl
            obtain ⟨v, hv⟩ : ∃ v, l[k] = v := ⟨_, rfl⟩
            rw [hv] at c1 hok
            have HOK := hid hok
            clear hsh hsh' hv hok
            by_cases h0 : 0 < v
            · have q0 : decide (0 < v) = true := by simp [h0]
              cases hs : shutF (es.getD k (-1, 0)) l
              · have HOK2 := hid (show inferOk es l k = true by rw [HOK.out, q0, hs]; rfl)
                rw [hs] at HSH
                clear hs
                go_wp2_with ((with_reducible refine (HSH.out).mono ?_); rintro e w4 ⟨rfl, hb4⟩; have HB4 := hid hb4; clear hb4)
                go_roundw
                case rel =>
                  refine ⟨k + 1, by omega, by go_num, fun j hj => ?_, HBR.out.trans (HB4.out.mono HBR.out.size)⟩
                  rcases Nat.lt_succ_iff_lt_or_eq.1 hj with h | rfl
                  · exact HQ.out j h
                  · exact HOK2.out
                case measure => simp [intOf]; omega
              · have HOK2 := hid (show inferOk es l k = false by rw [HOK.out, q0, hs]; rfl)
                rw [hs] at HSH
                clear hs
                go_wp2_with ((with_reducible refine (HSH.out).mono ?_); rintro e w4 ⟨rfl, hb4⟩; have HB4 := hid hb4; clear hb4)
                go_ret2
                refine ⟨?_, HWW.out.trans (HB4.out.mono HWW.out.size)⟩
                unfold InferPost
                rw [HINF.out, if_neg (by rw [Bool.not_eq_true, List.all_eq_false]; exact ⟨k, by simpa using hlt', by rw [HOK2.out]; simp⟩)]
                rfl
            · have q0 : decide (0 < v) = false := by simp [h0]
              have HOK2 := hid (show inferOk es l k = true by rw [HOK.out, q0]; rfl)
              clear h0
              go_wp2_with fail
              go_roundw
              case rel =>
                refine ⟨k + 1, by omega, by go_num, fun j hj => ?_, HBR.out⟩
                rcases Nat.lt_succ_iff_lt_or_eq.1 hj with h | rfl
                · exact HQ.out j h
                · exact HOK2.out
              case measure => simp [intOf]; omega
          · obtain rfl : k = took.length := by omega
            go_wp2_with fail
            go_ret2
            refine ⟨?_, HWW.out⟩
            unfold InferPost
            rw [HINF.out, if_pos (all_range_step (fun j hj => HQ.out j (by have := HLL.out; omega)))]
            exact ⟨ao, co, by rw [HLL.out]; rfl, HCO.out, fun i hi => by
              obtain ⟨g, eg, hbg, lg, c1, f1⟩ := (HRD.out.own.keep HBR.out) i hi
              exact ⟨g, eg, Nat.le_trans HBW.out.size hbg, lg, c1, f1⟩⟩
      · go_wp2_with fail
        obtain ⟨wo, rfl⟩ : ∃ wo : World, wo = wr := ⟨_, rfl⟩
        go_loopw [8, 25] (fun u i wr => ∃ (k : Nat) (b : Bool), k ≤ took.length ∧ u = .bool b ∧ i = .int .i64 k ∧ Mdl es took w2 ao l k b wr) (fun _ i _ => took.length - (intOf i).toNat)
        case atStart => exact ⟨0, false, Nat.zero_le _, rfl, rfl, Mdl.start HRD.out⟩
        case round =>
          obtain ⟨k, b, hk, rfl, rfl, hm⟩ := hrel
          have HM := hid hm
          clear hm
          by_cases hlt : k < took.length
          · have hlt' : k < l.length := by have := HLL.out; omega
            have hlt2 : k < (passTo es l k).length := by simpa using hlt'
            have hlen2 : (passTo es l k).length = took.length := by rw [passTo_length]; exact HLL.out
            obtain ⟨g, eg, hbg, lg, c1, f1⟩ := HM.out.own k hlt2
            have hke : k < es.length := by have := HLEN.out; omega
            obtain ⟨bB, oB, eB, lB, p1, p2⟩ := (HP2.out.keep HM.out.below) k hke
            obtain ⟨rfl, rfl⟩ : bB = B ∧ oB = 0 := by cases Option.some.inj eB; exact ⟨rfl, rfl⟩
            clear eB
            simp only [Nat.zero_add] at p1 p2
            subst eg
            have hsh := shut_any es[k].1 es[k].2 (passTo es l k) (some ⟨g, 0, none⟩) co wr HM.out.own.ints (by have := HG.out k hke; have hl := HLEN.out; rcases this with h | ⟨h1, h2, h3⟩; exact Or.inl h; exact Or.inr ⟨h1, by omega, h3⟩) HM.out.inr
            have hsh' : shutF (es[k].1, es[k].2) (passTo es l k) = shutF (es.getD k (-1, 0)) (passTo es l k) := by simp [hke]
            rw [hsh', hlen2] at hsh
            have HSH := hid hsh
            have hgt : (passTo es l k)[k] = (passTo es l k).getD k 0 := by rw [List.getD_eq_getElem?_getD, List.getElem?_eq_getElem hlt2]; rfl
            rw [hgt] at c1
            obtain ⟨v, hv⟩ : ∃ v, (passTo es l k).getD k 0 = v := ⟨_, rfl⟩
            rw [hv] at c1
            have HVV := hid hv; have HL2 := hid hlen2
            clear hsh hsh' hgt hv hlen2
            by_cases h0 : v = -1
            · subst h0
              cases hs : shutF (es.getD k (-1, 0)) (passTo es l k)
              · have HSK := hid (show ¬ ((passTo es l k).getD k 0 = -1 ∧ shutF (es.getD k (-1, 0)) (passTo es l k) = true) by rw [hs]; simp)
                rw [hs] at HSH
                clear hs
                go_wp2_with ((with_reducible refine (HSH.out).mono ?_); rintro e w4 ⟨rfl, hb4⟩; have HB4 := hid hb4; clear hb4)
                go_roundw
                case rel => exact ⟨k + 1, b, by omega, rfl, by go_num, HM.out.skip HB4.out HSK.out⟩
                case measure => simp [intOf]; omega
              · have HSK := hid (show (passTo es l k).getD k 0 = -1 ∧ shutF (es.getD k (-1, 0)) (passTo es l k) = true from ⟨HVV.out, hs⟩)
                rw [hs] at HSH
                clear hs
                go_wp2_with ((with_reducible refine (HSH.out).mono ?_); rintro e w4 ⟨rfl, hb4⟩; have q1 := (hb4.cell (p := ⟨g, k, none⟩) lg).trans c1; have q2 := (hb4.frozen (p := ⟨g, k, none⟩) lg).trans f1; have HB4 := hid hb4; clear hb4)
                go_roundw
                case rel => exact ⟨k + 1, true, by omega, rfl, by go_num, HM.out.set HB4.out hlt' rfl HSK.out⟩
                case measure => simp [intOf]; omega
            · have q0 : (v == -1) = false := by simp [h0]
              have HSK := hid (show ¬ ((passTo es l k).getD k 0 = -1 ∧ shutF (es.getD k (-1, 0)) (passTo es l k) = true) by rw [HVV.out]; simp [h0])
              clear h0
              go_wp2_with fail
              go_roundw
              case rel => exact ⟨k + 1, b, by omega, rfl, by go_num, HM.out.skip (Below.refl _ _) HSK.out⟩
              case measure => simp [intOf]; omega
          · obtain rfl : k = l.length := by have := HLL.out; omega
            obtain ⟨hr2, hf2, hm2⟩ := HM.out.done HRD.out.it
            have HR2 := hid hr2; have HF2 := hid hf2; have HM2 := hid hm2
            clear hr2 hf2 hm2
            go_wp2_with fail
            go_roundg (2 * cnt (passF es l) + b.toNat)
            case measure => rw [HGK.out]; exact HM2.out
            case rel => exact ⟨passF es l, b, rfl, by rw [passF_length]; exact HLL.out, HR2.out, HF2.out, rfl⟩
end Go.Proofs.Ytkdloggkpgjekaa
