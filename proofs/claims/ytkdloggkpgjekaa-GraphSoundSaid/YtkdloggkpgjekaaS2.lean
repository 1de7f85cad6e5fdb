/- Contracts of valid, slices.ContainsFunc, slices.IndexFunc, slices.Clone at []int. -/
import Derived.Test.YtkdloggkpgjekaaS1
namespace Go.Proofs.Ytkdloggkpgjekaa
open Go.RowKit
set_option linter.unusedVariables false

set_option maxHeartbeats 400000 in
theorem validLit (least x : Int) (b : Nat) (w : World) (hc : w.cell? ⟨b, 0, none⟩ = some (.int .i64 least)) :
    Calls Try.prog 23 #[.int .i64 x, .pointer (some ⟨b, 0, none⟩)] w fun e w' => e = .returned (.bool (decide (x < least) || decide (3 < x))) ∧ w = w' := by
  go_enter Try.func23, Try.ntmps23
  go_wp2
  all_goals (go_ret; exact ⟨by simp [*], rfl⟩)

set_option maxHeartbeats 400000 in
theorem indexFunc_any (xs : List Int) (p : Int → Bool) (a : Option Addr) (cap : Nat) (c : Value) (w : World)
    (hlen : xs.length ≤ 140737488355328)
    (hx : IntsAt w a xs)
    (hp : ∀ x, Calls Try.prog 23 #[.int .i64 x, c] w fun e w' => e = .returned (.bool (p x)) ∧ w = w') :
    Calls Try.prog 24 #[.slice a xs.length cap, .func (.func 23) #[] #[c]] w fun e w' => (∃ n : Int, (0 ≤ n ↔ ∃ x ∈ xs, p x = true) ∧ e = .returned (.int .i64 n)) ∧ w = w' := by
  go_enter Try.func24, Try.ntmps24
  go_wp2
  go_loop [5, 8] (fun _ i => ∃ k : Nat, k ≤ xs.length ∧ i = .int .i64 k ∧ (∀ j, j < k → p (xs.getD j 0) = false)) (fun _ i => xs.length - (intOf i).toNat)
  case atStart => exact ⟨0, Nat.zero_le _, rfl, by intro j hj; omega⟩
  case round =>
    obtain ⟨k, hk, rfl, hq⟩ := hrel
    have HQ := hid hq; clear hq
    by_cases hlt : k < xs.length
    · obtain ⟨b, off, rfl, _, hcell⟩ := hx.get hlt
      clear hx
      cases hpx : p xs[k]
      · have hp' : Calls Try.prog 23 #[.int .i64 xs[k], c] w fun e w' => e = .returned (.bool false) ∧ w = w' := by rw [← hpx]; exact hp _
        have HPX := hid hpx; clear hpx hp
        go_wp2_with ((with_reducible refine hp'.mono ?_); rintro e w' ⟨rfl, rfl⟩)
        go_round
        case rel =>
          refine ⟨k + 1, by omega, by go_num, ?_⟩
          intro j hj
          rcases Nat.lt_succ_iff_lt_or_eq.1 hj with h | rfl
          · exact HQ.out j h
          · rw [← HPX.out]; simp [hlt]
        case measure => simp [intOf]; omega
      · have hp' : Calls Try.prog 23 #[.int .i64 xs[k], c] w fun e w' => e = .returned (.bool true) ∧ w = w' := by rw [← hpx]; exact hp _
        have HPX := hid hpx; clear hpx hp
        go_wp2_with ((with_reducible refine hp'.mono ?_); rintro e w' ⟨rfl, rfl⟩)
        go_ret
        exact ⟨⟨k, ⟨fun _ => ⟨xs[k], by simp, HPX.out⟩, fun _ => by omega⟩, rfl⟩, rfl⟩
    · go_wp2_with fail
      go_ret
      refine ⟨⟨-1, ⟨fun h => by omega, ?_⟩, rfl⟩, rfl⟩
      rintro ⟨x, hxm, hpx⟩
      obtain ⟨i, hi, rfl⟩ := List.mem_iff_getElem.1 hxm
      have := HQ.out i (by omega)
      simp [hi] at this
      simp [this] at hpx

set_option maxHeartbeats 400000 in
theorem containsFunc_any (xs : List Int) (p : Int → Bool) (a : Option Addr) (cap : Nat) (c : Value) (w : World)
    (hlen : xs.length ≤ 140737488355328)
    (hx : IntsAt w a xs)
    (hp : ∀ x, Calls Try.prog 23 #[.int .i64 x, c] w fun e w' => e = .returned (.bool (p x)) ∧ w = w') :
    Calls Try.prog 22 #[.slice a xs.length cap, .func (.func 23) #[] #[c]] w fun e w' => e = .returned (.bool (xs.any p)) ∧ w = w' := by
  have H := hid (indexFunc_any xs p a cap c w hlen hx hp)
  clear hx hp
  go_enter Try.func22, Try.ntmps22
  go_wp2_with ((refine (H.out).mono ?_); rintro e w' ⟨⟨n, hn, rfl⟩, rfl⟩; have HN := hid hn; clear hn)
  go_ret
  refine ⟨ret_bool (a := decide (0 ≤ n)) ?_, rfl⟩
  rw [Bool.eq_iff_iff, decide_eq_true_iff, List.any_eq_true]
  exact HN.out

def validF (took : List Int) (n least : Int) : Bool := decide ((took.length : Int) = n) && !(took.any fun t => decide (t < least) || decide (3 < t))

set_option maxHeartbeats 400000 in
theorem valid_any (xs : List Int) (n least : Int) (a : Option Addr) (cap : Nat) (w : World)
    (hlen : xs.length ≤ 140737488355328) (hx : IntsAt w a xs) :
    Calls Try.prog 19 #[.slice a xs.length cap, .int .i64 n, .int .i64 least] w fun e w' => e = .returned (.bool (validF xs n least)) ∧ Below w.heap.size w w' := by
  by_cases hn : (xs.length : Int) = n
  · have hn' : ((xs.length : Int) == n) = true := by simpa using hn
    have HV : Hid (validF xs n least = !(xs.any fun t => decide (t < least) || decide (3 < t))) := by simp [validF, hn, Hid]
    clear hn
    have hb := (Below.refl w.heap.size w).alloc (Nat.le_refl _) (.cells #[.int .i64 least] 3)
    have H := hid (containsFunc_any xs (fun t => decide (t < least) || decide (3 < t)) a cap (.pointer (some ⟨w.heap.size, 0, none⟩)) (w.alloc (.cells #[.int .i64 least] 3)) hlen (hx.keep hb) (fun x => validLit least x _ _ (by simp)))
    go_enter Try.func19, Try.ntmps19
    go_wp2_with ((refine (H.out).mono ?_); rintro e w' ⟨rfl, rfl⟩)
    go_ret
    exact ⟨ret_bool HV.out.symm, hb⟩
  · have hn' : ((xs.length : Int) == n) = false := by simpa using hn
    have HV : Hid (validF xs n least = false) := by simp [validF, hn, Hid]
    clear hn
    go_enter Try.func19, Try.ntmps19
    go_wp2_with fail
    go_ret
    exact ⟨ret_bool HV.out.symm, (Below.refl w.heap.size w).alloc (Nat.le_refl _) _⟩
end Go.Proofs.Ytkdloggkpgjekaa
