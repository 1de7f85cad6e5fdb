/- The reference's Verify: bootchainref03's Verify. -/
import Derived.Test.YtbjfkliijhnloaaDoorR7
namespace Go.Proofs.YtbjfkliijhnloaaDoor
open Go.RowKit
set_option linter.unusedVariables false

set_option maxRecDepth 100000 in
set_option maxHeartbeats 2000000 in
theorem verify1_bad (root leaf : List UInt8) (hr : root.length = 16) (hl : leaf.length = 16) (n : Nat) (i : Int) (a : Option Addr) (m c : Nat) (w : World) (hi : i < 0 ∨ (n : Int) ≤ i) :
    Calls Tryd.prog 22 #[.agg (root.map u8).toArray, .int .i64 n, .int .i64 i, .agg (leaf.map u8).toArray, .slice a m c] w fun e w' => e = .returned (.bool false) ∧ Below w.heap.size w w' := by
  have hs1 : (List.map u8 root).toArray.size = 16 := by simp [hr]
  have hs2 : (List.map u8 leaf).toArray.size = 16 := by simp [hl]
  have hb := (below_alloc w (.cells (root.map u8).toArray 28)).alloc (by simp) (.cells (leaf.map u8).toArray 28)
  rcases hi with hi | hi
  · go_enter Tryd.func22, Tryd.ntmps22
    go_wp2_with fail
    go_ret
    exact ⟨rfl, hb⟩
  · have h0 : ¬ (i < 0) := by omega
    have h1 : i ≥ (n : Int) := by omega
    go_enter Tryd.func22, Tryd.ntmps22
    go_wp2_with fail
    go_ret
    exact ⟨rfl, hb⟩

set_option maxRecDepth 100000 in
set_option maxHeartbeats 2000000 in
theorem verify1_ok (root leaf : List UInt8) (hr : root.length = 16) (hl : leaf.length = 16) (n i : Nat) (hin : i < n) (hn2 : n ≤ 100000) (proof : List (List UInt8)) (hp16 : All16 proof) (a : Option Addr) (m c : Nat) (hm : m = proof.length) (hmc0 : m ≤ c) (hmc : m ≤ 1000000) (w : World) (hT : Tab w) (hpr : DigB w.heap.size w a proof) :
    Calls Tryd.prog 22 #[.agg (root.map u8).toArray, .int .i64 n, .int .i64 i, .agg (leaf.map u8).toArray, .slice a m c] w fun e w' => e = .returned (.bool (verifyF root n i leaf proof)) ∧ Below w.heap.size w w' := by
  subst hm
  have hs1 : (List.map u8 root).toArray.size = 16 := by simp [hr]
  have hs2 : (List.map u8 leaf).toArray.size = 16 := by simp [hl]
  obtain ⟨W0, hW0⟩ : ∃ W0, (w.alloc (.cells (root.map u8).toArray 28)).alloc (.cells (leaf.map u8).toArray 28) = W0 := ⟨_, rfl⟩
  have hb0 : Below w.heap.size w W0 := by rw [← hW0]; exact (below_alloc w _).alloc (by simp) _
  have hz0 : w.heap.size + 1 < W0.heap.size := by rw [← hW0]; simp
  have HRR := hid (show W0.rangeAt w.heap.size 0 (root.map u8) by rw [← hW0]; exact range_keep (dig_range w root _) (below_alloc _ _) (by simp))
  have HRL := hid (show W0.rangeAt (w.heap.size + 1) 0 (leaf.map u8) by
    have := dig_range (w.alloc (.cells (root.map u8).toArray 28)) leaf 28
    rw [World.size_alloc] at this; rw [← hW0]; exact this)
  obtain ⟨⟨d, okb⟩, hcd⟩ : ∃ r, combF n i leaf proof = r := ⟨_, rfl⟩
  have HD16 := hid (show d.length = 16 by have := comb_length (n + 1) n i leaf proof (Nat.lt_succ_self _) hin; rw [hcd] at this; exact this)
  have HW := hid (show Calls Tryd.prog 48 #[.int .i64 n, .int .i64 i, .agg (leaf.map u8).toArray, .slice a proof.length c] W0 fun e w' => e = .returned (.tuple #[dv d, .bool okb]) ∧ Below W0.heap.size W0 w' by
    have := comb_any (n + 1) n i leaf proof a proof.length c W0 (Nat.lt_succ_self _) hin hn2 hl hp16 (hT.keep hb0) rfl hmc0 hmc ((hpr.keep hb0).mono hb0.size)
    rw [hcd] at this; exact this)
  have HV := hid (show (okb && decide (d = root)) = verifyF root n i leaf proof by rw [← comb_verify root n i leaf proof hin, hcd])
  have HB0 := hid hb0
  have HW0 := hid hW0
  have i0 : ¬ ((i : Int) < 0) := by omega
  have i1 : ¬ ((i : Int) ≥ (n : Int)) := by omega
  have HI := hid (info16 leaf hl)
  have HIR := hid (info16 root hr)
  have HID := hid (info16 d HD16.out)
  have HIA := hid (info16a d HD16.out)
  have heq := eqIn_dig d root HD16.out hr
  clear hcd hT hpr hb0 hW0 hp16
  cases okb
  all_goals
    (go_enter Tryd.func22, Tryd.ntmps22
     go_upto_region 1 with (fail)
     rw [HW0.out]
     go_wp2_with (first
       | (refine wpList_load_mid rfl _ _ rfl (w.heap.size + 1) 0 rfl _ _ HRL.out rfl rfl HI.out ?_)
       | (go_at_call 48; (with_reducible refine (HW.out).mono ?_); rintro e w3 ⟨rfl, hb3⟩; have HB3 := hid hb3; clear hb3; have HSET := hid (World.rangeAt_setCells_same (w3.alloc (.cells #[.int .u8 0, .int .u8 0, .int .u8 0, .int .u8 0, .int .u8 0, .int .u8 0, .int .u8 0, .int .u8 0, .int .u8 0, .int .u8 0, .int .u8 0, .int .u8 0, .int .u8 0, .int .u8 0, .int .u8 0, .int .u8 0] 28)) w3.heap.size 0 (d.map u8) (by have := alloc_there w3 #[.int .u8 0, .int .u8 0, .int .u8 0, .int .u8 0, .int .u8 0, .int .u8 0, .int .u8 0, .int .u8 0, .int .u8 0, .int .u8 0, .int .u8 0, .int .u8 0, .int .u8 0, .int .u8 0, .int .u8 0, .int .u8 0] 28 16 rfl; simpa [HD16.out] using this)); have HR3 := hid (range_keep HRR.out (HB3.out.trans ((below_box w3 #[.int .u8 0, .int .u8 0, .int .u8 0, .int .u8 0, .int .u8 0, .int .u8 0, .int .u8 0, .int .u8 0, .int .u8 0, .int .u8 0, .int .u8 0, .int .u8 0, .int .u8 0, .int .u8 0, .int .u8 0, .int .u8 0] 28 (d.map u8).toArray.toList).mono HB3.out.size)) (by omega)))
       | (refine wpList_store_mid rfl _ _ _ rfl w3.heap.size 0 _ rfl rfl (there16 (alloc_there w3 _ _ 16 rfl) _ HD16.out) HIA.out (all_u8 d) ?_)
       | (refine load_want (by rfl) _ _ rfl w3.heap.size 0 rfl _ _ HSET.out rfl rfl HID.out ?_)
       | (refine load_want (by rfl) _ _ rfl w.heap.size 0 rfl _ _ HR3.out rfl rfl HIR.out ?_))
     go_ret
     exact ⟨ret_bool (by rw [← HV.out]; simp), HB0.out.trans ((HB3.out.trans ((below_box w3 _ _ _).mono HB3.out.size)).mono HB0.out.size)⟩)
end Go.Proofs.YtbjfkliijhnloaaDoor
