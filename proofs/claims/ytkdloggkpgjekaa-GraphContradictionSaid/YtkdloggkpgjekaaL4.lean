/- GraphContradiction: the law's own walk. -/
import Derived.Test.YtkdloggkpgjekaaL2
import Derived.Test.YtkdloggkpgjekaaP3
namespace Go.Proofs.Ytkdloggkpgjekaa
open Go.RowKit
set_option linter.unusedVariables false

def agr (took : List Int) (K i : Nat) : Bool := (List.range i).all fun j => took.getD j 0 == -1 || took.getD j 0 == ((K / 4 ^ j % 4 : Nat) : Int)
theorem agr_succ (took : List Int) (K i : Nat) : agr took K (i + 1) = (agr took K i && (took.getD i 0 == -1 || took.getD i 0 == ((K / 4 ^ i % 4 : Nat) : Int))) := by
  simp [agr, List.range_succ]
theorem agr_eq (took : List Int) (K : Nat) : agreesF took (dig took.length K) took.length = agr took K took.length := by
  unfold agreesF agr
  rw [Bool.eq_iff_iff, List.all_eq_true, List.all_eq_true]
  constructor
  · intro h i hi
    have := h i hi
    rwa [dig_get _ _ _ (by simpa using hi)] at this
  · intro h i hi
    rw [dig_get _ _ _ (by simpa using hi)]
    exact h i hi

/-- The middle of the inner loop: i digits of K are laid. -/
structure Dg (took : List Int) (w : World) (K : Nat) (v : Value) (i : Nat) (wr : World) : Prop where
  own : wr.ownsRow w.heap.size 3 1 v i ((dig i K).map (Value.int .i64))
  below : Below w.heap.size w wr
theorem Dg.step {took : List Int} {w wr w1 : World} {K i : Nat} {v v' : Value} {o : Obj} (h : Dg took w K v i wr) (ho1 : w1.ownsRow w.heap.size 3 1 v' (i + 1) ((dig i K).map (Value.int .i64) ++ [.int .i64 ((K / 4 ^ i % 4 : Nat) : Int)])) (hg : (wr.alloc o).grownBy w1 v.ownBlock) : Dg took w K v' (i + 1) w1 := by
  refine ⟨by rw [dig_succ]; simpa using ho1, (h.below.alloc h.below.size o).grown hg (by have := h.below.size; simp; omega) ?_⟩
  intro g hgk
  obtain ⟨_, h'⟩ := h.own
  rcases h' with ⟨rfl, _⟩ | ⟨g', cap, cur, rfl, hbg, _⟩
  · simp [Value.ownBlock] at hgk
  · simp [Value.ownBlock] at hgk; omega

set_option maxRecDepth 100000 in
set_option maxHeartbeats 8000000 in
theorem contralaw_any (ia : Option Addr) (il ic : Nat) (an : Option Addr) (cn : Nat) (ns : List Nd) (root pts : Int) (a : Option Addr) (took : List Int) (ca : Nat) (w : World) (h : ProgAt w an ns) (hil : il ≤ 140737488355328)
    (hx : IntsAt w a took) (hl : took.length ≤ 140737488355328) (hca : a = none → ca = 0) :
    Calls Try.prog 5 #[.agg #[.slice ia il ic, .slice an ns.length cn, .int .i64 root, .int .i64 pts], .slice a took.length ca] w fun e w' => e = .returned (.bool true) ∧ Below w.heap.size w w' := by
  have hb0 : Below w.heap.size w (w.alloc (.cells #[.slice ia il ic, .slice an ns.length cn, .int .i64 root, .int .i64 pts] 25)) := (Below.refl _ _).alloc (Nat.le_refl _) _
  have hg := (enclF_forest ns root pts).good
  have hE := fun w h => enclosing_any (.slice ia il ic) an cn ns root pts w h ⟨_, _, _, rfl⟩
  have hP := fun (ao : Option Addr) (l : List Int) (co : Nat) w h hx hl => possible_any ia il ic an cn ns root pts ao l co w h hx hl hg
  have hI := fun w h hy hl2 => infer_any ia il ic an cn ns root pts a took ca w h hy hl2 hca hg
  have hnl := enclF_length ns root pts
  have hn8 := nPts_le pts
  generalize enclF ns root pts = es at *
  have he8 : es.length ≤ 8 := by omega
  have HH := hid h; have HX := hid hx; have HG := hid hg; have HP := hid hP; have HI := hid hI; have HE := hid hE; have HB0 := hid hb0; have HCA := hid hca
  clear h hx hg hP hI hE hb0 hca hnl hn8
  go_enter Try.func5, Try.ntmps5
  go_wp2_with fail
  refine (sanity_any _).mono ?_
  rintro e w1 ⟨rfl, hb⟩
  have HB1 := hid (HB0.out.trans (hb.mono (by simp)))
  have HBX1 := hid ((BoxP.mk' w ia il ic an ns.length cn root pts).keep hb)
  obtain ⟨z, g0, g1, g2, g3⟩ := HBX1.out
  clear hb
  have HE1 := hid (HE.out w1 (HH.out.keep HB1.out))
  go_wp2_with ((with_reducible refine (HE1.out).mono ?_); rintro e w2 ⟨⟨B, hB, rfl, hp⟩, hb2⟩; have HB2 := hid hb2; have HPA := hid hp; clear hp hB; have q0 := (hb2.cell (p := ⟨w.heap.size, 0, none⟩) z).trans g0; have q1 := (hb2.cell (p := ⟨w.heap.size, 1, none⟩) z).trans g1; have q2 := (hb2.cell (p := ⟨w.heap.size, 2, none⟩) z).trans g2; have q3 := (hb2.cell (p := ⟨w.heap.size, 3, none⟩) z).trans g3; clear hb2)
  have HB12 := hid (HB1.out.trans (HB2.out.mono HB1.out.size))
  have HBX2 := hid (HBX1.out.keep HB2.out)
  have HS := hid (small_any ia il ic an cn ns root pts w2 (HH.out.keep HB12.out) hil)
  clear z g0 g1 g2 g3
  cases hsm : smallF ns il
  · rw [hsm] at HS
    clear hsm
    go_wp2_with ((with_reducible refine (HS.out).mono ?_); rintro e w3 ⟨rfl, hb3⟩; have HB3 := hid hb3; clear hb3)
    go_ret
    exact ⟨rfl, HB12.out.trans (HB3.out.mono HB12.out.size)⟩
  rw [hsm] at HS
  clear hsm
  by_cases hn4 : 4 < es.length
  · have d1 : decide (4 < es.length) = true := by simpa using hn4
    go_wp2_with ((with_reducible refine (HS.out).mono ?_); rintro e w3 ⟨rfl, hb3⟩; have HB3 := hid hb3; clear hb3)
    go_ret
    exact ⟨rfl, HB12.out.trans (HB3.out.mono HB12.out.size)⟩
  have d1 : decide (4 < es.length) = false := by simpa using hn4
  by_cases hne : took.length = es.length
  case neg =>
    have d2 : ((took.length : Int) != es.length) = true := by simp; omega
    have HNE := hid hne
    clear hne
    go_wp2_with ((with_reducible refine (HS.out).mono ?_); rintro e w3 ⟨rfl, hb3⟩; have HB3 := hid hb3; clear hb3)
    go_ret
    exact ⟨rfl, HB12.out.trans (HB3.out.mono HB12.out.size)⟩
  have d2 : ((took.length : Int) != es.length) = false := by simp [hne]
  have HNE := hid hne
  clear hne
  have hlt4 : es.length ≤ 4 := by omega
  go_wp2_with ((with_reducible refine (HS.out).mono ?_); rintro e w3 ⟨rfl, hb3⟩; have HB3 := hid hb3; clear hb3)
  have HB13 := hid (HB12.out.trans (HB3.out.mono HB12.out.size))
  have HBX3 := hid (HBX2.out.keep HB3.out)
  clear q0 q1 q2 q3
  go_loopw [7, 8] (fun u i wr => ∃ (k m : Nat), k ≤ es.length ∧ m = 4 ^ k ∧ m ≤ 256 ∧ (k < 4 → m ≤ 64) ∧ i = .int .i64 k ∧ u = .int .i64 m ∧ (∀ j, j < k → -1 ≤ took.getD j 0 ∧ took.getD j 0 ≤ 3) ∧ wr = w3) (fun _ i _ => es.length - (intOf i).toNat)
  case atStart => exact ⟨0, 1, Nat.zero_le _, rfl, by omega, fun _ => by omega, rfl, rfl, fun j h => by omega, rfl⟩
  case round =>
    obtain ⟨k, m, hk, hm, hm2, hm3, rfl, rfl, hq, rfl⟩ := hrel
    have HQ := hid hq; have HM := hid hm
    clear hq hm
    by_cases hlt : k < es.length
    · have hm4 : m ≤ 64 := hm3 (by omega)
      clear hm3 hm2
      have hlt2 : k < took.length := by have := HNE.out; omega
      obtain ⟨b1, o1, rfl, lb1, t1⟩ := IntsAt.get (RowAt.keep HX.out HB13.out) hlt2
      have e3 : took.getD k 0 = took[k] := by rw [List.getD_eq_getElem?_getD, List.getElem?_eq_getElem hlt2]; rfl
      have HE3 := hid e3
      clear e3
      by_cases hlo : took[k] < -1
      · have r1 : decide (took[k] < -1) = true := by simpa using hlo
        go_wp2_with fail
        go_ret
        exact ⟨rfl, HB13.out⟩
      · have r1 : decide (took[k] < -1) = false := by simpa using hlo
        by_cases hhi : 3 < took[k]
        · have r2 : decide (3 < took[k]) = true := by simpa using hhi
          go_wp2_with fail
          go_ret
          exact ⟨rfl, HB13.out⟩
        · have r2 : decide (3 < took[k]) = false := by simpa using hhi
          have HLH := hid (show -1 ≤ took[k] ∧ took[k] ≤ 3 by omega)
          clear hlo hhi
          go_wp2_with fail
          go_roundw
          case rel =>
            refine ⟨k + 1, 4 * m, by omega, by rw [HM.out, Nat.pow_succ, Nat.mul_comm], by omega, ?_, by go_num, by go_num, fun j hj => ?_, trivial⟩
            · intro h
              have : k < 3 := by omega
              have : k = 0 ∨ k = 1 ∨ k = 2 := by omega
              have := HM.out
              rcases ‹k = 0 ∨ k = 1 ∨ k = 2› with rfl | rfl | rfl <;> omega
            · rcases Nat.lt_succ_iff_lt_or_eq.1 hj with h | rfl
              · exact HQ.out j h
              · rw [HE3.out]; exact HLH.out
          case measure => simp [intOf]; omega
    · obtain rfl : k = es.length := by omega
      clear hm3
      go_wp2_with fail
      obtain ⟨wo, rfl⟩ : ∃ wo : World, wo = wr := ⟨_, rfl⟩
      go_loopw [9, 10] (fun u i w' => ∃ (K : Nat) (b : Bool), K ≤ m ∧ i = .int .i64 K ∧ u = .bool b ∧ (b = false → ∀ j, j < K → goodK es took j = false) ∧ (b = true → ∃ j, j < m ∧ goodK es took j = true) ∧ Below wo.heap.size wo w') (fun _ i _ => m - (intOf i).toNat)
      case atStart => exact ⟨0, false, Nat.zero_le _, rfl, rfl, (fun _ j h => by omega), (fun h => by cases h), Below.refl _ _⟩
      case round =>
        obtain ⟨K, b, hK, rfl, rfl, hno, hyes, hbr⟩ := hrel
        have HNO := hid hno; have HYES := hid hyes; have HBR := hid hbr
        clear hno hyes hbr
        have HWR := hid (HB13.out.trans (HBR.out.mono HB13.out.size))
        have hsome : (b = true ∨ ¬ K < m) → Hid ((inferF es took).isSome = b) := fun hor => by
          have hc := contra (took := took) HG.out HNE.out
          rw [HNE.out, ← HM.out] at hc
          rcases hor with rfl | hge
          · exact hc.2 (HYES.out rfl)
          · cases b
            · show (inferF es took).isSome = false
              rw [← Bool.not_eq_true, hc]
              rintro ⟨j, hj, hgj⟩
              rw [HNO.out rfl j (by omega)] at hgj; cases hgj
            · exact hc.2 (HYES.out rfl)
        have fin : (b = true ∨ ¬ K < m) → Hid (Calls Try.prog 12 #[.agg #[.slice ia il ic, .slice an ns.length cn, .int .i64 root, .int .i64 pts], .slice a took.length ca] wr fun e w' => (∃ v, e = .returned (.tuple #[v, .bool b])) ∧ Below wr.heap.size wr w') := fun hor => by
          refine (HI.out wr (HH.out.keep HWR.out) (RowAt.keep HX.out HWR.out) (by have := HNE.out; omega)).mono fun e w' ⟨hp, hb⟩ => ⟨?_, hb⟩
          have hs := (hsome hor).out
          unfold InferPost at hp
          cases hi : inferF es took with
          | none => rw [hi] at hp hs; exact ⟨_, by rw [← hs]; exact hp⟩
          | some l => rw [hi] at hp hs; obtain ⟨ao, c, he, _⟩ := hp; exact ⟨_, by rw [← hs]; exact he⟩
        clear hsome
        obtain ⟨y, y0, y1, y2, y3⟩ := HBX3.out.keep HBR.out
        by_cases hend : b = true ∨ ¬ K < m
        · have HFIN := fin hend
          clear fin
          rcases hend with rfl | hge
          all_goals
            first
              | (by_cases hKm : K < m <;> go_wp2_with ((with_reducible refine (HFIN.out).mono ?_); rintro e w4 ⟨⟨v, rfl⟩, hb4⟩; have HB4 := hid hb4; clear hb4))
              | go_wp2_with ((with_reducible refine (HFIN.out).mono ?_); rintro e w4 ⟨⟨v, rfl⟩, hb4⟩; have HB4 := hid hb4; clear hb4)
          all_goals
            go_ret
            exact ⟨ret_bool (by simp), HWR.out.trans (HB4.out.mono HWR.out.size)⟩
        · obtain rfl : b = false := by cases b; rfl; exact absurd (Or.inl rfl) hend
          have hKm : K < m := by
            rcases Nat.lt_or_ge K m with h | h
            · exact h
            · exact absurd (Or.inr (by omega)) hend
          clear fin hend
          obtain ⟨i3, hi, hz, hs, hby⟩ := infoInt'
          have HI3 := hid hi; have HZ3 := hid hz; have HS3 := hid hs; have HY3 := hid hby
          clear hi hz hs hby
          go_wp2_with fail
          obtain ⟨wq, rfl⟩ : ∃ wq : World, wq = wr := ⟨_, rfl⟩
          go_loopw [11, 12, 13, 14] (fun x v u i w' => ∃ (t xn : Nat) (b : Bool), t ≤ es.length ∧ xn = K / 4 ^ t ∧ xn ≤ 256 ∧ x = .int .i64 xn ∧ i = .int .i64 t ∧ u = .bool b ∧ b = agr took K t ∧ Dg took wq K v t w') (fun _ _ _ i _ => es.length - (intOf i).toNat)
          case atStart => exact ⟨0, K, true, Nat.zero_le _, by simp, by omega, rfl, rfl, rfl, rfl, owns_nil _ _, Below.refl _ _⟩
          case round =>
            obtain ⟨t, xn, b, ht, hxn, hx256, rfl, rfl, rfl, hb, hdg⟩ := hrel
            have HXN := hid hxn; have HBB := hid hb; have HDG := hid hdg
            have HDB := hid (HWR.out.trans (hdg.below.mono HWR.out.size))
            clear hxn hb hdg
            by_cases htl : t < es.length
            · have htl2 : t < took.length := by have := HNE.out; omega
              obtain ⟨b1, o1, rfl, lb1, t1⟩ := IntsAt.get (RowAt.keep HX.out HDB.out) htl2
              have e3 : took.getD t 0 = took[t] := by rw [List.getD_eq_getElem?_getD, List.getElem?_eq_getElem htl2]; rfl
              have hagr := agr_succ took K t
              rw [← HBB.out, e3, ← HXN.out] at hagr
              have HAG := hid hagr
              clear e3 hagr
              have hmod : ((xn % 4 : Nat) : Int) = (xn : Int) % 4 := by omega
              have hdiv : ((xn / 4 : Nat) : Int) = (xn : Int) / 4 := by omega
              have HMOD := hid hmod; have HDIV := hid hdiv
              clear hmod hdiv
              go_wp2_with (at_builtin; refine wpList_append_own _ rfl _ _ 31 rfl wq.heap.size 3 i3 (.int .i64 0) 1 8 Try.underlying31 HI3.out HZ3.out HS3.out HY3.out rfl (by decide) _ t _ rfl (HDG.out.own.alloc _) ⟨wr.heap.size, 0, none⟩ 1 1 [.int .i64 ((xn : Int) % 4)] rfl ?c1 ?c2 ?c3 ?c4 ?c5 ?c6 ?_)
              case c1 => rfl
              case c2 => exact cell_one_new _ _ _
              case c3 => intro u hu; simp at hu; subst hu; rfl
              case c4 => simp [maxLen]; omega
              case c5 => omega
              case c6 => have := HDG.out.below.size; simp; omega
              intro v' w1 hown1 hgrow _
              have hD2 : Dg took wq K v' (t + 1) w1 := HDG.out.step (by rw [← HXN.out, HMOD.out]; simpa using hown1) hgrow
              have HD2 := hid hD2
              have c1' : w1.cell? ⟨b1, o1 + t, none⟩ = some (.int .i64 took[t]) := by
                obtain ⟨b2, o2, e2, _, t2⟩ := IntsAt.get (RowAt.keep HX.out (HWR.out.trans (hD2.below.mono HWR.out.size))) htl2
                cases Option.some.inj e2
                exact t2
              clear hown1 hgrow hD2
              cases b
              · have HA2 := hid (show false = agr took K (t + 1) by rw [HAG.out]; rfl)
                go_wp2_with fail
                go_roundw
                case rel => exact ⟨t + 1, xn / 4, false, by omega, by rw [HXN.out, Nat.div_div_eq_div_mul, Nat.pow_succ], by omega, by go_num, by go_num, rfl, HA2.out, HD2.out⟩
                case measure => simp [intOf]; omega
              · by_cases h1 : took[t] = -1
                · have s1 : (took[t] == -1) = true := by simp [h1]
                  have HA2 := hid (show true = agr took K (t + 1) by rw [HAG.out, s1]; rfl)
                  clear h1
                  go_wp2_with fail
                  go_roundw
                  case rel => exact ⟨t + 1, xn / 4, true, by omega, by rw [HXN.out, Nat.div_div_eq_div_mul, Nat.pow_succ], by omega, by go_num, by go_num, rfl, HA2.out, HD2.out⟩
                  case measure => simp [intOf]; omega
                · have s1 : (took[t] == -1) = false := by simp [h1]
                  clear h1
                  by_cases h2 : took[t] = (xn : Int) % 4
                  · have s2 : (took[t] == (xn : Int) % 4) = true := by simp [h2]
                    have HA2 := hid (show true = agr took K (t + 1) by rw [HAG.out, s1, HMOD.out, s2]; rfl)
                    clear h2
                    go_wp2_with fail
                    go_roundw
                    case rel => exact ⟨t + 1, xn / 4, true, by omega, by rw [HXN.out, Nat.div_div_eq_div_mul, Nat.pow_succ], by omega, by go_num, by go_num, rfl, HA2.out, HD2.out⟩
                    case measure => simp [intOf]; omega
                  · have s2 : (took[t] == (xn : Int) % 4) = false := by simp [h2]
                    have HA2 := hid (show false = agr took K (t + 1) by rw [HAG.out, s1, HMOD.out, s2]; rfl)
                    clear h2
                    go_wp2_with fail
                    go_roundw
                    case rel => exact ⟨t + 1, xn / 4, false, by omega, by rw [HXN.out, Nat.div_div_eq_div_mul, Nat.pow_succ], by omega, by go_num, by go_num, rfl, HA2.out, HD2.out⟩
                    case measure => simp [intOf]; omega
            · obtain rfl : t = es.length := by omega
              have hag2 : b = agreesF took (dig took.length K) took.length := by rw [agr_eq, HNE.out]; exact HBB.out
              have hgood : goodK es took K = (b && possibleF es (dig es.length K)) := by unfold goodK; rw [← hag2, HNE.out]
              have HGD := hid hgood
              clear hag2 hgood
              have hown := HDG.out.own
              obtain ⟨ao, c, rfl, _, hoa⟩ := OwnAt.of_owns (base := wq.heap.size) (w := wr) (v := u12) (xs := dig es.length K) (by rw [dig_length]; exact hown)
              have hpos := HP.out ao (dig es.length K) c wr (HH.out.keep HDB.out) hoa.ints (by rw [dig_length]; omega)
              rw [dig_length] at hpos
              have HPS := hid hpos
              clear hown hoa hpos
              rw [dig_length]
              have hnext : ∀ b', goodK es took K = b' → (b' = false → ∀ j, j < K + 1 → goodK es took j = false) ∧ (b' = true → ∃ j, j < m ∧ goodK es took j = true) := by
                intro b' hb'
                refine ⟨fun h j hj => ?_, fun h => ⟨K, hKm, by rw [hb', h]⟩⟩
                rcases Nat.lt_succ_iff_lt_or_eq.1 hj with h' | rfl
                · exact HNO.out (by trivial) j h'
                · rw [hb', h]
              have HNX := hid hnext
              clear hnext
              obtain ⟨x0, x1, x2, x3, x4⟩ := HBX3.out.keep (HBR.out.trans (HDG.out.below.mono HBR.out.size))
              have HBQ := hid (HBR.out.trans (HDG.out.below.mono HBR.out.size))
              clear y y0 y1 y2 y3
              cases b
              · obtain ⟨n1, n2⟩ := HNX.out false (by rw [HGD.out]; rfl)
                have HN1 := hid n1; have HN2 := hid n2
                clear n1 n2
                go_wp2_with fail
                go_roundw
                case rel => exact ⟨K + 1, false, by omega, by go_num, rfl, HN1.out, HN2.out, HBQ.out⟩
                case measure => simp [intOf]; omega
              · obtain ⟨n1, n2⟩ := HNX.out (possibleF es (dig es.length K)) (by rw [HGD.out]; rfl)
                have HN1 := hid n1; have HN2 := hid n2
                clear n1 n2
                obtain ⟨pb, hpb⟩ : ∃ pb, possibleF es (dig es.length K) = pb := ⟨_, rfl⟩
                rw [hpb] at HN1 HN2 HPS
                clear hpb
                go_wp2_with fail
                refine (HPS.out).mono ?_
                rintro e w5 ⟨rfl, hb5⟩
                have HB5 := hid hb5
                clear hb5
                go_wp2_with fail
                go_roundw
                case rel => exact ⟨K + 1, pb, by omega, by go_num, rfl, HN1.out, HN2.out, HBQ.out.trans (HB5.out.mono HBQ.out.size)⟩
                case measure => simp [intOf]; omega
end Go.Proofs.Ytkdloggkpgjekaa
