/- Contracts of the small functions of package graph: outermost, points, shut. -/
import Derived.Test.YtkdloggkpgjekaaBase
namespace Go.Proofs.Ytkdloggkpgjekaa
open Go.RowKit

set_option maxHeartbeats 400000 in
theorem outermost_any (w : World) :
    Calls Try.prog 17 #[] w fun e w' => e = .returned (.agg #[.int .i64 (-1), .int .i64 0]) ∧ Below w.heap.size w w' := by
  go_enter Try.func17, Try.ntmps17
  go_wp2
  exact bodyPost_ret (v := .agg #[.int .i64 (-1), .int .i64 0]) (by simp [results, Try.results17, go_sem]) rfl ⟨rfl, (Below.refl _ _).alloc (Nat.le_refl _) _⟩

set_option maxHeartbeats 400000 in
theorem points_any (a b r : Value) (n : Int) (w : World) :
    Calls Try.prog 16 #[.agg #[a, b, r, .int .i64 n]] w fun e w' => e = .returned (.int .i64 (min (max n 0) 8)) ∧ Below w.heap.size w w' := by
  go_enter Try.func16, Try.ntmps16
  go_wp2
  all_goals (go_ret; exact ⟨by simp; omega, (Below.refl _ _).alloc (Nat.le_refl _) _⟩)

theorem bits_and3 (t y : Int) (h0 : 0 ≤ t) (h3 : t ≤ 3) (hy : y = 1 ∨ y = 2) : (bits BinOp.and IntKind.i64 t y == 0) = !(if y = 1 then decide (t = 1 ∨ t = 3) else decide (t = 2 ∨ t = 3)) := by
  have : t = 0 ∨ t = 1 ∨ t = 2 ∨ t = 3 := by omega
  rcases this with rfl | rfl | rfl | rfl <;> rcases hy with rfl | rfl <;> decide +kernel

/-- Does an outcome contain a side? -/
def has (t y : Int) : Bool := if y = 1 then decide (t = 1 ∨ t = 3) else decide (t = 2 ∨ t = 3)
/-- An enclosing point that is known not to have taken the side. -/
def shutF (e : Int × Int) (took : List Int) : Bool :=
  if e = (-1, 0) then false else
    let t := took.getD e.1.toNat 0
    if t = -1 then false else !(has t e.2)

set_option maxHeartbeats 1000000 in
theorem shut_out (v : Value) (w : World) :
    Calls Try.prog 20 #[.agg #[.int .i64 (-1), .int .i64 0], v] w fun e w' => e = .returned (.bool false) ∧ Below w.heap.size w w' := by
  go_enter Try.func20, Try.ntmps20
  go_wp2
  go_region_with (go_at_call 17; refine (outermost_any _).mono ?_; rintro e w' ⟨rfl, hb⟩; obtain ⟨hc, hf⟩ := bcell hb)
  all_goals
    go_wp2_with fail
    go_ret
    exact ⟨rfl, (((Below.refl _ _).alloc (Nat.le_refl _) _).drew).trans (hb.mono (by simp))⟩

set_option maxHeartbeats 1000000 in
theorem shut_in (x y t : Int) (b off len cap : Nat) (w : World) (hne : (x == -1 && y == 0) = false) (hx0 : 0 ≤ x) (hxl : x < len)
    (hb0 : b < w.heap.size) (hcell : w.cell? ⟨b, off + x.toNat, none⟩ = some (.int .i64 t)) :
    Calls Try.prog 20 #[.agg #[.int .i64 x, .int .i64 y], .slice (some ⟨b, off, none⟩) len cap] w fun e w' => e = .returned (.bool (t != -1 && (bits BinOp.and IntKind.i64 t y == 0))) ∧ Below w.heap.size w w' := by
  obtain ⟨k, rfl⟩ := Int.eq_ofNat_of_zero_le hx0
  rw [Int.toNat_natCast] at hcell
  by_cases ht : t = -1
  · subst ht
    go_enter Try.func20, Try.ntmps20
    go_wp2
    go_region_with (go_at_call 17; refine (outermost_any _).mono ?_; rintro e w' ⟨rfl, hb⟩; obtain ⟨hc, hf⟩ := bcell hb)
    all_goals
      go_wp2_with fail
      go_ret
      exact ⟨rfl, (((Below.refl _ _).alloc (Nat.le_refl _) _).drew).trans (hb.mono (by simp))⟩
  · have ht' : (t != -1) = true := by simpa using ht
    have HT := hid ht; clear ht
    go_enter Try.func20, Try.ntmps20
    go_wp2
    go_region_with (go_at_call 17; refine (outermost_any _).mono ?_; rintro e w' ⟨rfl, hb⟩; obtain ⟨hc, hf⟩ := bcell hb)
    all_goals
      go_wp2_with fail
      go_ret
      exact ⟨by simp [ht'], (((Below.refl _ _).alloc (Nat.le_refl _) _).drew).trans (hb.mono (by simp))⟩

/-- The contract of shut. -/
theorem shut_any (x y : Int) (took : List Int) (a : Option Addr) (cap : Nat) (w : World) (hxs : IntsAt w a took)
    (hx : (x, y) = (-1, 0) ∨ (0 ≤ x ∧ x < took.length ∧ (y = 1 ∨ y = 2))) (ht : ∀ i, i < took.length → -1 ≤ took.getD i 0 ∧ took.getD i 0 ≤ 3) :
    Calls Try.prog 20 #[.agg #[.int .i64 x, .int .i64 y], .slice a took.length cap] w fun e w' => e = .returned (.bool (shutF (x, y) took)) ∧ Below w.heap.size w w' := by
  rcases hx with h | ⟨h0, h1, hy⟩
  · obtain ⟨rfl, rfl⟩ := Prod.mk.inj h
    refine (shut_out _ w).mono fun e w' ⟨he, hb⟩ => ⟨?_, hb⟩
    rw [he]; rfl
  · obtain ⟨k, rfl⟩ := Int.eq_ofNat_of_zero_le h0
    have hk : k < took.length := by omega
    obtain ⟨b, off, rfl, hb, hc⟩ := hxs.get hk
    refine (shut_in k y took[k] b off _ cap w (by simp) h0 h1 hb (by simpa using hc)).mono fun e w' ⟨he, hbw⟩ => ⟨?_, hbw⟩
    rw [he]
    have := ht k hk
    simp only [List.getD_eq_getElem?_getD, hk, List.getElem?_eq_getElem, Option.getD_some] at this
    congr 2
    have hne : ((k : Int), y) ≠ (-1, 0) := by intro h; have := (Prod.mk.inj h).1; omega
    simp only [shutF, hne, if_false, Int.toNat_natCast, List.getD_eq_getElem?_getD, hk, List.getElem?_eq_getElem, Option.getD_some]
    by_cases e1 : took[k] = -1
    · simp [e1]
    · rw [if_neg e1, bits_and3 _ _ (by omega) this.2 hy]
      simp [e1, has]
end Go.Proofs.Ytkdloggkpgjekaa
