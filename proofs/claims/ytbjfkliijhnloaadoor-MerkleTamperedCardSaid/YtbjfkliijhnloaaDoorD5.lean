/- merkle's Prove walked: the function. -/
import Derived.Test.YtbjfkliijhnloaaDoorD4
namespace Go.Proofs.YtbjfkliijhnloaaDoor
open Go.RowKit
set_option linter.unusedVariables false

theorem OwnD.mono {n m : Nat} {w : World} {v : Value} {ps : List (List UInt8)} (h : OwnD n w v ps) (k : m ≤ n) : OwnD m w v ps := by
  refine ⟨h.1, ?_⟩
  rcases h.2 with hn | ⟨g, cap, cur, hv, hg, r⟩
  · exact .inl hn
  · exact .inr ⟨g, cap, cur, hv, Nat.le_trans k hg, r⟩
theorem PS.start (w : World) (t t' : TypeId) : PS w.heap.size w ((w.alloc (.cells #[.slice none 0 0] t)).alloc (.cells #[.func (.func 40) #[] #[.pointer (some ⟨w.heap.size + 1, 0, none⟩), .pointer (some ⟨w.heap.size, 0, none⟩)]] t')) [] := by
  refine ⟨(below_alloc w _).alloc (by simp) _, ⟨none, 0, ?_, OwnD.nil _ _⟩, ?_, ?_, by simp⟩
  · rw [World.cell?_alloc_lt _ _ _ (by simp)]; exact lit1 rfl rfl
  · rw [(below_alloc (w.alloc (.cells #[.slice none 0 0] t)) _).frozen (p := ⟨w.heap.size, 0, none⟩) (by simp), World.frozen?_alloc_at (hn := rfl)]
  · exact lit1 (by simp) rfl

set_option maxRecDepth 100000 in
set_option maxHeartbeats 2000000 in
theorem prove_ok (ds : List (List UInt8)) (a : Option Addr) (n c i : Nat) (w : World) (h16 : All16 ds) (hT : Tab w) (hn : n = ds.length) (hc : n ≤ c) (hn2 : n ≤ 100000) (hi : i < n) (hds : DigB w.heap.size w a ds) :
    Calls Tryd.prog 16 #[.slice a n c, .int .i64 i] w fun e w' => (∃ p c', e = .returned (.tuple #[.slice p (proveF ds i).length c', .int .i64 0]) ∧ OwnD w.heap.size w' (.slice p (proveF ds i).length c') (proveF ds i)) ∧ Below w.heap.size w w' := by
  subst hn
  have hb2 : ∀ o o', Below w.heap.size w ((w.alloc o).alloc o') := fun o o' => (below_alloc w o).alloc (by simp) _
  have HW := hid (fun t t' => walk_any w.heap.size hT.lt w (ds.length + 1) ds a ds.length c i [] _ (Nat.lt_succ_self _) h16 (hT.keep (hb2 _ _)) rfl (by omega) hc hn2 hi (hds.keep (hb2 _ _)) (PS.start w t t') (by simp; omega))
  have HB2 := hid hb2
  have hi1 : (i : Int) < (ds.length : Int) := by omega
  have hi0 : (0 : Int) ≤ (i : Int) := by omega
  have hi2 : ¬ ((i : Int) < 0) := by omega
  have hi3 : ¬ ((i : Int) ≥ (ds.length : Int)) := by omega
  clear hb2 hds hT
  go_enter Tryd.func16, Tryd.ntmps16
  go_wp2_with ((with_reducible refine (HW.out _ _).mono ?_); rintro e w3 ⟨⟨v3, rfl⟩, hP3, hT3, hb3⟩; have HP3 := hid hP3; have HB3 := hid hb3; obtain ⟨a3, c3, hc3, ho3⟩ := hP3.own; have HO3 := hid ho3; clear hP3 hT3 hb3 ho3)
  go_ret2
  have h0 : [] ++ proveF ds i = proveF ds i := List.nil_append _
  have ho := HO3.out
  exact ⟨⟨_, _, rfl, OwnD.mono (by simpa using ho) (by omega)⟩, (HB2.out _ _).trans HB3.out⟩

set_option maxRecDepth 100000 in
set_option maxHeartbeats 2000000 in
theorem prove_bad (a : Option Addr) (n c : Nat) (i : Int) (w : World) (hi : i < 0 ∨ (n : Int) ≤ i) :
    Calls Tryd.prog 16 #[.slice a n c, .int .i64 i] w fun e w' => e = .returned (.tuple #[.slice none 0 0, .int .i64 1]) ∧ w = w' := by
  rcases hi with hi | hi
  · go_enter Tryd.func16, Tryd.ntmps16
    go_wp2_with fail
    go_ret2
    exact ⟨rfl, rfl⟩
  · have h0 : ¬ (i < 0) := by omega
    have h1 : i ≥ (n : Int) := by omega
    go_enter Tryd.func16, Tryd.ntmps16
    go_wp2_with fail
    go_ret2
    exact ⟨rfl, rfl⟩
end Go.Proofs.YtbjfkliijhnloaaDoor
