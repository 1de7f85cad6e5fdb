/- MerkleVerify walked: it answers true. -/
import Derived.Test.YtbjfkliijhnloaaDoorR8
import Derived.Test.YtbjfkliijhnloaaDoorE3
namespace Go.Proofs.YtbjfkliijhnloaaDoor
open Go.RowKit
set_option linter.unusedVariables false

set_option maxRecDepth 100000 in
set_option maxHeartbeats 4000000 in
theorem lverify_any (root leaf : List UInt8) (hr16 : root.length = 16) (hl16 : leaf.length = 16) (nb : Nat) (hnb : nb < 256) (i : Int) (hi : -9223372036854775808 ≤ i ∧ i ≤ 9223372036854775807) (proof : List (List UInt8)) (h16 : All16 proof) (a : Option Addr) (m c : Nat) (w : World) (hT : Tab w) (hm : m = proof.length) (hc : m ≤ c) (hpr : DigB w.heap.size w a proof) :
    Calls Tryd.prog 4 #[.agg (root.map u8).toArray, .int .u8 nb, .int .i64 i, .agg (leaf.map u8).toArray, .slice a m c] w fun e w' => e = .returned (.bool true) ∧ Below w.heap.size w w' := by
  subst hm
  have hs1 : (List.map u8 root).toArray.size = 16 := by simp [hr16]
  have hs2 : (List.map u8 leaf).toArray.size = 16 := by simp [hl16]
  obtain ⟨W0, hW0⟩ : ∃ W0, (w.alloc (.cells (root.map u8).toArray 28)).alloc (.cells (leaf.map u8).toArray 28) = W0 := ⟨_, rfl⟩
  have hb0 : Below w.heap.size w W0 := by rw [← hW0]; exact (below_alloc w _).alloc (by simp) _
  have hz0 : w.heap.size + 1 < W0.heap.size := by rw [← hW0]; simp
  have HRR := hid (show W0.rangeAt w.heap.size 0 (root.map u8) by rw [← hW0]; exact range_keep (dig_range w root _) (below_alloc _ _) (by simp))
  have HRL := hid (show W0.rangeAt (w.heap.size + 1) 0 (leaf.map u8) by
    have := dig_range (w.alloc (.cells (root.map u8).toArray 28)) leaf 28
    rw [World.size_alloc] at this; rw [← hW0]; exact this)
  have HT := hid (hT.keep hb0)
  have HPR := hid ((hpr.keep hb0).mono hb0.size)
  have HSA := hid (sanity_any W0 HT.out)
  have HB0 := hid hb0; have HW0 := hid hW0; have H16 := hid h16
  have hw1 : IntKind.i64.wrap (nb : Int) = (nb : Int) := by simp [IntKind.wrap, IntKind.bits, IntKind.signed]; omega
  obtain ⟨n, hn⟩ : ∃ n, nb % 41 = n := ⟨_, rfl⟩
  have hrem : ((nb : Int) % 41) = (n : Int) := by omega
  have hn40 : n ≤ 40 := by omega
  clear hT hpr hb0 hW0 h16 hn
  by_cases h10 : proof.length > 10
  · have b1 : (proof.length : Int) > 10 := by omega
    go_enter Tryd.func4, Tryd.ntmps4
    go_upto_region 1 with (fail)
    rw [HW0.out]
    go_wp2_with ((with_reducible refine (HSA.out).mono ?_); rintro e w1 ⟨rfl, hb⟩; have HB := hid hb; clear hb)
    go_ret
    exact ⟨rfl, HB0.out.trans (HB.out.mono HB0.out.size)⟩
  · have b1 : ¬ ((proof.length : Int) > 10) := by omega
    obtain ⟨T, HV1, HV2⟩ : ∃ T, (∀ W : World, Below W0.heap.size W0 W → Calls Tryd.prog 21 #[.agg (root.map u8).toArray, .int .i64 n, .int .i64 i, .agg (leaf.map u8).toArray, .slice a proof.length c] W fun e w' => e = .returned (.bool T) ∧ Below W.heap.size W w') ∧
        (∀ W : World, Below W0.heap.size W0 W → Calls Tryd.prog 22 #[.agg (root.map u8).toArray, .int .i64 n, .int .i64 i, .agg (leaf.map u8).toArray, .slice a proof.length c] W fun e w' => e = .returned (.bool T) ∧ Below W.heap.size W w') := by
      by_cases hin : 0 ≤ i ∧ i < (n : Int)
      · obtain ⟨k, rfl⟩ : ∃ k : Nat, i = k := ⟨i.toNat, by omega⟩
        exact ⟨verifyF root n k leaf proof, fun W hb => verify_ok root leaf hr16 hl16 n k (by omega) (by omega) proof H16.out a proof.length c rfl (by omega) W (HT.out.keep hb) ((HPR.out.keep hb).mono hb.size),
          fun W hb => verify1_ok root leaf hr16 hl16 n k (by omega) (by omega) proof H16.out a proof.length c rfl hc (by omega) W (HT.out.keep hb) ((HPR.out.keep hb).mono hb.size)⟩
      · have hbad : i < 0 ∨ (n : Int) ≤ i := by omega
        exact ⟨false, fun W hb => verify_bad root leaf hr16 hl16 n i a proof.length c W hbad, fun W hb => verify1_bad root leaf hr16 hl16 n i a proof.length c W hbad⟩
    have HV1 := hid HV1
    have HV2 := hid HV2
    go_enter Tryd.func4, Tryd.ntmps4
    go_upto_region 1 with (fail)
    rw [HW0.out]
    go_upto_region 5 with ((with_reducible refine (HSA.out).mono ?_); rintro e w1 ⟨rfl, hb⟩; have HB := hid hb; clear hb)
    have HL5 := hid (show ∀ p ∈ [(w.heap.size, 0, root), (w.heap.size + 1, 0, leaf)], w1.rangeAt p.1 p.2.1 (p.2.2.map u8) ∧ p.1 < w1.heap.size from fun p hp => by
      have h1 := HB.out.size
      simp only [List.mem_cons, List.not_mem_nil, or_false] at hp
      rcases hp with rfl | rfl
      · exact ⟨range_keep HRR.out HB.out (by omega), by simp only; omega⟩
      · exact ⟨range_keep HRL.out HB.out (by omega), by simp only; omega⟩)
    have HB0S := hid (show w1.heap.size ≤ w1.heap.size from Nat.le_refl _)
    refine wp_region_noPanic ?_
    refine wp_region_held_drew (S := Sx (w1.heap.size) w1 [(w.heap.size, 0, root), (w.heap.size + 1, 0, leaf)]) (by kernel_rfl) (Sx.start (HL5.out)) (fun hH => ?_)
    refine wpAnyH_take (i := 0) (v := ?_) rfl (by kernel_rfl) (by kernel_rfl) (by kernel_rfl) (fun _ _ _ h => h) (Or.inl ⟨by rfl, ?_⟩) hH ?_
    rotate_left
    · (intro w hSw; simp only [List.getElem_toArray, List.getElem_cons_zero]; first | (go_simp; done) | (go_simp; with_reducible rfl))
    simp only [List.getElem_toArray, List.getElem_cons_zero, Act.put, List.setIfInBounds_toArray, List.set_cons_zero, List.set_cons_succ]
    refine wpAnyH_take (i := 1) (v := ?_) rfl (by kernel_rfl) (by kernel_rfl) (by kernel_rfl) (fun _ _ _ h => h) (Or.inl ⟨by rfl, ?_⟩) hH ?_
    rotate_left
    · (intro w hSw; simp only [List.getElem_toArray, List.getElem_cons_succ, List.getElem_cons_zero]; first | (go_simp; done) | (go_simp; with_reducible rfl))
    simp only [List.getElem_toArray, List.getElem_cons_succ, List.getElem_cons_zero, Act.put, List.setIfInBounds_toArray, List.set_cons_zero, List.set_cons_succ]
    refine wpAnyH_take (i := 2) rfl (by kernel_rfl) (by kernel_rfl) (by kernel_rfl) (fun _ _ _ h => h) (yieldsIf_load_mid (by rfl) _ _ rfl w.heap.size 0 rfl (root.map u8) _ (fun w h => Sx.get h (k := 0) rfl) under28 rfl (info16 root hr16)) hH ?_
    simp only [List.getElem_toArray, List.getElem_cons_succ, List.getElem_cons_zero, Act.put, List.setIfInBounds_toArray, List.set_cons_zero, List.set_cons_succ]
    refine wpAnyH_take (i := 3) (v := ?_) rfl (by kernel_rfl) (by kernel_rfl) (by kernel_rfl) (fun _ _ _ h => h) (Or.inl ⟨by rfl, ?_⟩) hH ?_
    rotate_left
    · (intro w hSw; simp only [List.getElem_toArray, List.getElem_cons_succ, List.getElem_cons_zero]; first | (go_simp; done) | (go_simp; with_reducible rfl))
    simp only [List.getElem_toArray, List.getElem_cons_succ, List.getElem_cons_zero, Act.put, List.setIfInBounds_toArray, List.set_cons_zero, List.set_cons_succ]
    refine wpAnyH_take (i := 4) (v := ?_) rfl (by kernel_rfl) (by kernel_rfl) (by kernel_rfl) (fun _ _ _ h => h) (Or.inl ⟨by rfl, ?_⟩) hH ?_
    rotate_left
    · (intro w hSw; simp only [List.getElem_toArray, List.getElem_cons_succ, List.getElem_cons_zero]; first | (go_simp; done) | (go_simp; with_reducible rfl))
    simp only [List.getElem_toArray, List.getElem_cons_succ, List.getElem_cons_zero, Act.put, List.setIfInBounds_toArray, List.set_cons_zero, List.set_cons_succ]
    refine wpAnyH_take (i := 5) rfl (by kernel_rfl) (by kernel_rfl) (by kernel_rfl) (fun _ _ _ h => h) (yieldsIf_load_mid (by rfl) _ _ rfl (w.heap.size + 1) 0 rfl (leaf.map u8) _ (fun w h => Sx.get h (k := 1) rfl) under28 rfl (info16 leaf hl16)) hH ?_
    simp only [List.getElem_toArray, List.getElem_cons_succ, List.getElem_cons_zero, Act.put, List.setIfInBounds_toArray, List.set_cons_zero, List.set_cons_succ]
    refine wpAnyH_take (i := 6) (v := ?_) rfl (by kernel_rfl) (by kernel_rfl) (by kernel_rfl) (fun _ _ _ h => h) (Or.inl ⟨by rfl, ?_⟩) hH ?_
    rotate_left
    · (intro w hSw; simp only [List.getElem_toArray, List.getElem_cons_succ, List.getElem_cons_zero]; first | (go_simp; done) | (go_simp; with_reducible rfl))
    simp only [List.getElem_toArray, List.getElem_cons_succ, List.getElem_cons_zero, Act.put, List.setIfInBounds_toArray, List.set_cons_zero, List.set_cons_succ]
    refine wpAnyH_take (i := 8) rfl (by kernel_rfl) (by kernel_rfl) (by kernel_rfl) (fun _ _ _ h => h) (yieldsIf_load_mid (by rfl) _ _ rfl w.heap.size 0 rfl (root.map u8) _ (fun w h => Sx.get h (k := 0) rfl) under28 rfl (info16 root hr16)) hH ?_
    simp only [List.getElem_toArray, List.getElem_cons_succ, List.getElem_cons_zero, Act.put, List.setIfInBounds_toArray, List.set_cons_zero, List.set_cons_succ]
    refine wpAnyH_take (i := 9) (v := ?_) rfl (by kernel_rfl) (by kernel_rfl) (by kernel_rfl) (fun _ _ _ h => h) (Or.inl ⟨by rfl, ?_⟩) hH ?_
    rotate_left
    · (intro w hSw; simp only [List.getElem_toArray, List.getElem_cons_succ, List.getElem_cons_zero]; first | (go_simp; done) | (go_simp; with_reducible rfl))
    simp only [List.getElem_toArray, List.getElem_cons_succ, List.getElem_cons_zero, Act.put, List.setIfInBounds_toArray, List.set_cons_zero, List.set_cons_succ]
    refine wpAnyH_take (i := 10) (v := ?_) rfl (by kernel_rfl) (by kernel_rfl) (by kernel_rfl) (fun _ _ _ h => h) (Or.inl ⟨by rfl, ?_⟩) hH ?_
    rotate_left
    · (intro w hSw; simp only [List.getElem_toArray, List.getElem_cons_succ, List.getElem_cons_zero]; first | (go_simp; done) | (go_simp; with_reducible rfl))
    simp only [List.getElem_toArray, List.getElem_cons_succ, List.getElem_cons_zero, Act.put, List.setIfInBounds_toArray, List.set_cons_zero, List.set_cons_succ]
    refine wpAnyH_take (i := 11) rfl (by kernel_rfl) (by kernel_rfl) (by kernel_rfl) (fun _ _ _ h => h) (yieldsIf_load_mid (by rfl) _ _ rfl (w.heap.size + 1) 0 rfl (leaf.map u8) _ (fun w h => Sx.get h (k := 1) rfl) under28 rfl (info16 leaf hl16)) hH ?_
    simp only [List.getElem_toArray, List.getElem_cons_succ, List.getElem_cons_zero, Act.put, List.setIfInBounds_toArray, List.set_cons_zero, List.set_cons_succ]
    refine wpAnyH_take (i := 12) (v := ?_) rfl (by kernel_rfl) (by kernel_rfl) (by kernel_rfl) (fun _ _ _ h => h) (Or.inl ⟨by rfl, ?_⟩) hH ?_
    rotate_left
    · (intro w hSw; simp only [List.getElem_toArray, List.getElem_cons_succ, List.getElem_cons_zero]; first | (go_simp; done) | (go_simp; with_reducible rfl))
    simp only [List.getElem_toArray, List.getElem_cons_succ, List.getElem_cons_zero, Act.put, List.setIfInBounds_toArray, List.set_cons_zero, List.set_cons_succ]
    refine wpAnyH_ready (rs := [7]) (by kernel_rfl) (by simp) ?_
    refine AllReadyH.cons rfl (fun K hK => ?_) AllReadyH.nil
    simp only [List.getElem_toArray, List.getElem_cons_succ, List.getElem_cons_zero]
    go_simp
    (with_reducible refine (HV1.out _ (HB.out.trans (hH.below.mono HB.out.size))).mono ?_)
    rintro e z1 ⟨rfl, hb5⟩
    have HBS := hid hb5
    clear hb5
    go_wp2_with fail
    refine hK.out _ _ ?_ (fun hH => ?_)
    · exact hH.call HBS.out HB0S.out
    clear hK K
    try simp only [Act.put, List.setIfInBounds_toArray, List.set_cons_zero, List.set_cons_succ]
    refine wpAnyH_ready (rs := [13]) (by kernel_rfl) (by simp) ?_
    refine AllReadyH.cons rfl (fun K hK => ?_) AllReadyH.nil
    simp only [List.getElem_toArray, List.getElem_cons_succ, List.getElem_cons_zero]
    go_simp
    (with_reducible refine (HV2.out _ (HB.out.trans (hH.below.mono HB.out.size))).mono ?_)
    rintro e z2 ⟨rfl, hb5⟩
    have HBS := hid hb5
    clear hb5
    go_wp2_with fail
    refine hK.out _ _ ?_ (fun hH => ?_)
    · exact hH.call HBS.out HB0S.out
    clear hK K
    try simp only [Act.put, List.setIfInBounds_toArray, List.set_cons_zero, List.set_cons_succ]
    refine wpAnyH_take (i := 14) (v := ?_) rfl (by kernel_rfl) (by kernel_rfl) (by kernel_rfl) (fun _ _ _ h => h) (Or.inl ⟨by rfl, ?_⟩) hH ?_
    rotate_left
    · (intro w hSw; simp only [List.getElem_toArray, List.getElem_cons_succ, List.getElem_cons_zero]; first | (go_simp; done) | (go_simp; with_reducible rfl))
    simp only [List.getElem_toArray, List.getElem_cons_succ, List.getElem_cons_zero, Act.put, List.setIfInBounds_toArray, List.set_cons_zero, List.set_cons_succ]
    refine wpAnyH_take (i := 15) (v := ?_) rfl (by kernel_rfl) (by kernel_rfl) (by kernel_rfl) (fun _ _ _ h => h) (Or.inl ⟨by rfl, ?_⟩) hH ?_
    rotate_left
    · (intro w hSw; simp only [List.getElem_toArray, List.getElem_cons_succ, List.getElem_cons_zero]; first | (go_simp; done) | (go_simp; with_reducible rfl))
    simp only [List.getElem_toArray, List.getElem_cons_succ, List.getElem_cons_zero, Act.put, List.setIfInBounds_toArray, List.set_cons_zero, List.set_cons_succ]
    refine wpAnyH_take (i := 16) (v := ?_) rfl (by kernel_rfl) (by kernel_rfl) (by kernel_rfl) (fun _ _ _ h => h) (Or.inl ⟨by rfl, ?_⟩) hH ?_
    rotate_left
    · (intro w hSw; simp only [List.getElem_toArray, List.getElem_cons_succ, List.getElem_cons_zero]; first | (go_simp; done) | (go_simp; with_reducible rfl))
    simp only [List.getElem_toArray, List.getElem_cons_succ, List.getElem_cons_zero, Act.put, List.setIfInBounds_toArray, List.set_cons_zero, List.set_cons_succ]
    refine wpAnyH_done (by kernel_rfl) ?_ _
    refine NoPanic.normal ?_
    go_wp2_with fail
    go_ret
    exact ⟨ret_bool (by cases T <;> rfl), HB0.out.trans ((HB.out.trans (hH.below.mono HB.out.size)).mono HB0.out.size)⟩
end Go.Proofs.YtbjfkliijhnloaaDoor
