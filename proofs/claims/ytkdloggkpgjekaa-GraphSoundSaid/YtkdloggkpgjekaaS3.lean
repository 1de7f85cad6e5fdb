/- Contracts of slices.Clone at []int, hide, Ints, Pairs, Small. -/
import Derived.Test.YtkdloggkpgjekaaE1
namespace Go.Proofs.Ytkdloggkpgjekaa
open Go.RowKit
set_option linter.unusedVariables false

/-- A row of integers of the call's own: from block base on, not frozen. -/
def OwnAt (base : Nat) (w : World) (a : Option Addr) (xs : List Int) : Prop :=
  ∀ i, (h : i < xs.length) → ∃ g, a = some ⟨g, 0, none⟩ ∧ base ≤ g ∧ g < w.heap.size ∧ w.cell? ⟨g, i, none⟩ = some (.int .i64 xs[i]) ∧ w.frozen? ⟨g, i, none⟩ = false

theorem OwnAt.ints {base : Nat} {w : World} {a : Option Addr} {xs : List Int} (h : OwnAt base w a xs) : IntsAt w a xs := by
  intro i hi
  obtain ⟨g, rfl, _, hl, hc, _⟩ := h i hi
  exact ⟨g, 0, rfl, hl, by simpa [hi] using hc⟩
theorem OwnAt.keep {base : Nat} {w w' : World} {a : Option Addr} {xs : List Int} (h : OwnAt base w a xs) (k : Below w.heap.size w w') : OwnAt base w' a xs := by
  intro i hi
  obtain ⟨g, e, hb, hl, hc, hf⟩ := h i hi
  exact ⟨g, e, hb, Nat.lt_of_lt_of_le hl k.size, by rw [k.cell (p := ⟨g, i, none⟩) hl]; exact hc, by rw [k.frozen (p := ⟨g, i, none⟩) hl]; exact hf⟩
theorem OwnAt.of_owns {base : Nat} {w : World} {v : Value} {xs : List Int} (h : w.ownsRow base 3 1 v xs.length (xs.map (Value.int .i64))) : ∃ a c, v = .slice a xs.length c ∧ (a = none → c = 0) ∧ OwnAt base w a xs := by
  obtain ⟨_, h⟩ := h
  rcases h with ⟨rfl, hn⟩ | ⟨g, cap, cur, rfl, hb, hh, hle, _, hsz, htk⟩
  · exact ⟨none, 0, by rw [hn], fun _ => rfl, fun i hi => by omega⟩
  · refine ⟨_, _, rfl, (fun h => by cases h), fun i hi => ⟨g, rfl, hb, ?_, ?_, ?_⟩⟩
    · rcases Nat.lt_or_ge g w.heap.size with h' | h'
      · exact h'
      · simp [Array.getElem?_eq_none h'] at hh
    · have e : cur[i]? = some (.int .i64 xs[i]) := by
        have h1 : (cur.toList.take (xs.length * 1))[i]? = some (.int .i64 xs[i]) := by rw [htk]; simp [hi]
        rw [List.getElem?_take_of_lt (by omega)] at h1
        simpa using h1
      simp [World.cell?, hh, e]
    · simp [World.frozen?, hh]
theorem owns_nil (base : Nat) (w : World) : w.ownsRow base 3 1 (.slice none 0 0) 0 [] := ⟨rfl, Or.inl ⟨rfl, rfl⟩⟩

theorem infoInt : (Try.prog.info? 3).map (fun i => (i.zero, i.size, i.bytes)) = some (some (.int .i64 0), 1, 8) := by kernel_rfl
theorem infoInt' : ∃ i, Try.prog.info? 3 = some i ∧ i.zero = some (.int .i64 0) ∧ i.size = 1 ∧ i.bytes = 8 := by
  obtain ⟨i, hi, hzz⟩ := Option.map_eq_some_iff.1 infoInt
  simp only [Prod.mk.injEq] at hzz
  exact ⟨i, hi, hzz.1, hzz.2.1, hzz.2.2⟩

set_option maxHeartbeats 400000 in
theorem clone_nil (w : World) :
    Calls Try.prog 21 #[.slice none 0 0] w fun e w' => e = .returned (.slice none 0 0) ∧ w = w' := by
  have heq : ∀ w, (binOp .eql 31 (.slice none 0 0) (.slice none 0 0)).run Try.prog w = .ok (.bool true) w := fun w => by kernel_rfl
  go_enter Try.func21, Try.ntmps21
  go_wp2_with fail
  go_ret
  exact ⟨rfl, rfl⟩

theorem cells_news {w : World} {ad : Addr} {xs : List Int} (hx : IntsAt w (some ad) xs) : ∀ j u, (xs.map (Value.int .i64))[j]? = some u → w.cell? (ad.add j) = some u := by
  intro j u hu
  simp only [List.getElem?_map, Option.map_eq_some_iff] at hu
  obtain ⟨x, hx1, rfl⟩ := hu
  have hj : j < xs.length := by
    rcases Nat.lt_or_ge j xs.length with h | h
    · exact h
    · simp [List.getElem?_eq_none h] at hx1
  obtain ⟨b, off, e, _, hc⟩ := hx.get hj
  obtain rfl := Option.some.inj e
  rw [List.getElem?_eq_getElem hj] at hx1
  rw [← Option.some.inj hx1]
  by_cases h0 : j = 0
  · subst h0; simpa [Addr.add] using hc
  · simpa [Addr.add, h0] using hc

set_option maxHeartbeats 400000 in
theorem clone_some (ad : Addr) (xs : List Int) (cap : Nat) (w : World) (hl : xs.length ≤ 1000000) (hx : IntsAt w (some ad) xs) :
    Calls Try.prog 21 #[.slice (some ad) xs.length cap] w fun e w' => (∃ v, e = .returned v ∧ w'.ownsRow w.heap.size 3 1 v xs.length (xs.map (Value.int .i64))) ∧ Below w.heap.size w w' := by
  obtain ⟨i, hi, hz, hs, hb⟩ := infoInt'
  have hnews := cells_news hx
  have heq : ∀ w, (binOp .eql 31 (.slice (some ad) xs.length cap) (.slice none 0 0)).run Try.prog w = .ok (.bool false) w := fun w => by kernel_rfl
  have hb0 : Below w.heap.size w (w.alloc (.cells #[] 3)) := (Below.refl _ _).alloc (Nat.le_refl _) _
  have hn2 : ∀ j u, (xs.map (Value.int .i64))[j]? = some u → (w.alloc (.cells #[] 3)).cell? (ad.add j) = some u := cells_news (hx.keep hb0)
  have hown : (w.alloc (.cells #[] 3)).ownsRow w.heap.size 3 1 (.slice (some ⟨w.heap.size, 0, none⟩) 0 0) 0 [] :=
    ⟨rfl, Or.inr ⟨w.heap.size, 0, #[], rfl, Nat.le_refl _, by show (w.heap.push _)[w.heap.size]? = _; simp, Nat.le_refl _, by simp [maxLen], rfl, rfl⟩⟩
  have HN := hid hn2; have HO := hid hown; have HI := hid hi; have HZ := hid hz; have HS := hid hs; have HB := hid hb; have HB0 := hid hb0
  clear hx hnews hn2 hown hi hz hs hb hb0
  go_enter Try.func21, Try.ntmps21
  go_wp2_with (at_builtin; refine wpList_append_own _ rfl _ _ 31 rfl w.heap.size 3 i (.int .i64 0) 1 8 Try.underlying31 HI.out HZ.out HS.out HB.out rfl (by decide) _ 0 [] rfl HO.out ad xs.length cap (xs.map (Value.int .i64)) rfl ?c1 HN.out ?c3 ?c4 ?c5 ?c6 ?_)
  case c1 => simp
  case c3 => intro u hu; obtain ⟨x, _, rfl⟩ := List.mem_map.1 hu; rfl
  case c4 => simp [maxLen]; omega
  case c5 => omega
  case c6 => simp
  intro v' w' ho hg _
  have HO2 := hid ho; have HG := hid hg
  clear ho hg
  go_wp2_with fail
  go_ret
  refine ⟨⟨_, rfl, ?_⟩, ?_⟩
  · simpa using HO2.out
  · exact HB0.out.grown HG.out (by simp) (by intro k hk; simp [Value.ownBlock] at hk; omega)

/-- The contract of Clone at []int. -/
theorem clone_any (a : Option Addr) (xs : List Int) (cap : Nat) (w : World) (hl : xs.length ≤ 1000000) (hx : IntsAt w a xs) (hcap : a = none → cap = 0) :
    Calls Try.prog 21 #[.slice a xs.length cap] w fun e w' => (∃ ao c, e = .returned (.slice ao xs.length c) ∧ (ao = none → c = 0) ∧ OwnAt w.heap.size w' ao xs) ∧ Below w.heap.size w w' := by
  cases a with
  | none =>
    obtain rfl := hcap rfl
    have h0 : xs.length = 0 := by
      rcases Nat.eq_zero_or_pos xs.length with h | h
      · exact h
      · obtain ⟨_, _, e, _⟩ := hx.get h; cases e
    rw [h0]
    refine (clone_nil w).mono fun e w' ⟨he, hw⟩ => ?_
    subst hw
    exact ⟨⟨none, 0, he, fun _ => rfl, fun i hi => by omega⟩, Below.refl _ _⟩
  | some ad =>
    refine (clone_some ad xs cap w hl hx).mono fun e w' ⟨⟨v, he, ho⟩, hb⟩ => ?_
    obtain ⟨ao, c, rfl, hc, hown⟩ := OwnAt.of_owns ho
    exact ⟨⟨ao, c, he, hc, hown⟩, hb⟩

set_option maxHeartbeats 1000000 in
theorem ints_any (a b : Option Addr) (xs ys : List Int) (ca cb : Nat) (w : World) (hx : IntsAt w a xs) (hy : IntsAt w b ys) (hl : xs.length ≤ 140737488355328) :
    Calls Try.prog 13 #[.slice a xs.length ca, .slice b ys.length cb] w fun e w' => e = .returned (.bool (decide (xs = ys))) ∧ Below w.heap.size w w' := by
  by_cases hne : xs.length = ys.length
  · have h1 : ((xs.length : Int) != ys.length) = false := by simp [hne]
    have HNE := hid hne
    clear hne
    go_enter Try.func13, Try.ntmps13
    go_wp2_with fail
    go_loopw [5] (fun i wr => ∃ k : Nat, k ≤ xs.length ∧ i = .int .i64 k ∧ xs.take k = ys.take k ∧ ∃ n, wr = w.drewN n) (fun i _ => xs.length - (intOf i).toNat)
    case atStart => exact ⟨0, Nat.zero_le _, rfl, rfl, 0, rfl⟩
    case round =>
      obtain ⟨k, hk, rfl, htk, n, rfl⟩ := hrel
      have HTK := hid htk
      clear htk
      by_cases hlt : k < xs.length
      · obtain ⟨ba, oa, rfl, la, c1⟩ := hx.get hlt
        obtain ⟨bb, ob, rfl, lb, c2⟩ := hy.get (show k < ys.length by rw [← HNE.out]; exact hlt)
        have hltb : k < ys.length := by rw [← HNE.out]; exact hlt
        have HX := hid hx; have HY := hid hy
        clear hx hy
        by_cases he : xs[k] = ys[k]
        · have h2 : (xs[k] != ys[k]) = false := by simp [he]
          have HE := hid he
          clear he
          go_upto_region 6 with (fail)
          go_quiet (fail)
          go_wp2_with fail
          go_roundw
          case rel => exact ⟨k + 1, by omega, by go_num, by rw [List.take_succ_eq_append_getElem hlt, List.take_succ_eq_append_getElem hltb, HTK.out, HE.out], n + nq, rfl⟩
          case measure => simp [intOf]; omega
        · have h2 : (xs[k] != ys[k]) = true := by simp [he]
          have HE := hid he
          clear he
          go_upto_region 6 with (fail)
          go_quiet (fail)
          go_wp2_with fail
          go_ret
          refine ⟨ret_bool ?_, by repeat (first | exact Below.refl _ _ | refine below_drewN ?_ _)⟩
          symm
          rw [decide_eq_false_iff_not]
          rintro rfl
          exact HE.out rfl
      · have HX := hid hx; have HY := hid hy
        clear hx hy
        go_wp2_with fail
        go_ret
        refine ⟨ret_bool ?_, by repeat (first | exact Below.refl _ _ | refine below_drewN ?_ _)⟩
        symm
        rw [decide_eq_true_iff]
        have h := HTK.out
        rw [List.take_of_length_le (by omega), List.take_of_length_le (by have := HNE.out; omega)] at h
        exact h
  · have h1 : ((xs.length : Int) != ys.length) = true := by simp; omega
    have HNE := hid hne
    clear hne
    go_enter Try.func13, Try.ntmps13
    go_wp2_with fail
    go_ret
    refine ⟨ret_bool ?_, Below.refl _ _⟩
    symm
    rw [decide_eq_false_iff_not]
    rintro rfl
    exact HNE.out rfl

@[go_sem] theorem neq_pair (w : World) (a b c d : Int) : (binOp .neq 30 (.agg #[.int .i64 a, .int .i64 b]) (.agg #[.int .i64 c, .int .i64 d])).run Try.prog w = .ok (.bool (!(a == c && b == d))) w := by
  have h : (binOp .neq 30 (.agg #[.int .i64 a, .int .i64 b]) (.agg #[.int .i64 c, .int .i64 d])).run Try.prog w = ((Op.equalIn 10000 30 (.agg #[.int .i64 a, .int .i64 b]) (.agg #[.int .i64 c, .int .i64 d])).run Try.prog w).andThen fun b w' => .ok (.bool (!b)) w' := by
    simp [binOp, Op.equal, Op.maxDepth]
  rw [h, eq_pair]
  rfl

set_option maxHeartbeats 1000000 in
theorem pairs_any (a b : Option Addr) (xs ys : List (Int × Int)) (ca cb : Nat) (w : World) (hx : PairsAt w a xs) (hy : PairsAt w b ys) (hl : xs.length ≤ 140737488355328) :
    Calls Try.prog 15 #[.slice a xs.length ca, .slice b ys.length cb] w fun e w' => e = .returned (.bool (decide (xs = ys))) ∧ Below w.heap.size w w' := by
  by_cases hne : xs.length = ys.length
  · have h1 : ((xs.length : Int) != ys.length) = false := by simp [hne]
    have HNE := hid hne
    clear hne
    go_enter Try.func15, Try.ntmps15
    go_wp2_with fail
    go_loopw [5] (fun i wr => ∃ k : Nat, k ≤ xs.length ∧ i = .int .i64 k ∧ xs.take k = ys.take k ∧ ∃ n, wr = w.drewN n) (fun i _ => xs.length - (intOf i).toNat)
    case atStart => exact ⟨0, Nat.zero_le _, rfl, rfl, 0, rfl⟩
    case round =>
      obtain ⟨k, hk, rfl, htk, n, rfl⟩ := hrel
      have HTK := hid htk
      clear htk
      by_cases hlt : k < xs.length
      · have hltb : k < ys.length := by rw [← HNE.out]; exact hlt
        obtain ⟨ba, oa, rfl, la, c1, c2⟩ := hx k hlt
        obtain ⟨bb, ob, rfl, lb, c3, c4⟩ := hy k hltb
        have HX := hid hx; have HY := hid hy
        clear hx hy
        by_cases he : xs[k] = ys[k]
        · have h2 : (!(xs[k].1 == ys[k].1 && xs[k].2 == ys[k].2)) = false := by simp [he]
          have HE := hid he
          clear he
          go_upto_region 6 with (fail)
          go_quiet (fail)
          go_wp2_with fail
          go_roundw
          case rel => exact ⟨k + 1, by omega, by go_num, by rw [List.take_succ_eq_append_getElem hlt, List.take_succ_eq_append_getElem hltb, HTK.out, HE.out], n + nq, rfl⟩
          case measure => simp [intOf]; omega
        · have h2 : (!(xs[k].1 == ys[k].1 && xs[k].2 == ys[k].2)) = true := by
            rw [Bool.not_eq_true', Bool.and_eq_false_iff]
            simp only [beq_eq_false_iff_ne, ne_eq]
            by_cases h : xs[k].1 = ys[k].1
            · right; intro h'; exact he (Prod.ext h h')
            · exact Or.inl h
          have HE := hid he
          clear he
          go_upto_region 6 with (fail)
          go_quiet (fail)
          go_wp2_with fail
          go_ret
          refine ⟨ret_bool ?_, by repeat (first | exact Below.refl _ _ | refine below_drewN ?_ _)⟩
          symm
          rw [decide_eq_false_iff_not]
          rintro rfl
          exact HE.out rfl
      · have HX := hid hx; have HY := hid hy
        clear hx hy
        go_wp2_with fail
        go_ret
        refine ⟨ret_bool ?_, by repeat (first | exact Below.refl _ _ | refine below_drewN ?_ _)⟩
        symm
        rw [decide_eq_true_iff]
        have h := HTK.out
        rw [List.take_of_length_le (by omega), List.take_of_length_le (by have := HNE.out; omega)] at h
        exact h
  · have h1 : ((xs.length : Int) != ys.length) = true := by simp; omega
    have HNE := hid hne
    clear hne
    go_enter Try.func15, Try.ntmps15
    go_wp2_with fail
    go_ret
    refine ⟨ret_bool ?_, Below.refl _ _⟩
    symm
    rw [decide_eq_false_iff_not]
    rintro rfl
    exact HNE.out rfl
end Go.Proofs.Ytkdloggkpgjekaa
