/- MerkleSound walked: it answers true. -/
import Derived.Test.YtbjfkliijhnloaaDoorR9
import Derived.Test.YtbjfkliijhnloaaDoorE3
namespace Go.Proofs.YtbjfkliijhnloaaDoor
open Go.RowKit
set_option linter.unusedVariables false

set_option maxRecDepth 100000 in
set_option maxHeartbeats 4000000 in
theorem lsound_any (ds : List (List UInt8)) (h16 : All16 ds) (a : Option Addr) (n c : Nat) (i : Nat) (hi : i < 256) (leaf : List UInt8) (hl16 : leaf.length = 16) (proof : List (List UInt8)) (hp16 : All16 proof) (a' : Option Addr) (m c' : Nat) (w : World) (hT : Tab w) (hn : n = ds.length) (hc : n ≤ c) (hm : m = proof.length) (hc' : m ≤ c') (hds : DigB w.heap.size w a ds) (hpr : DigB w.heap.size w a' proof) :
    Calls Tryd.prog 6 #[.slice a n c, .int .u8 i, .agg (leaf.map u8).toArray, .slice a' m c'] w fun e w' => e = .returned (.bool true) ∧ Below w.heap.size w w' := by
  subst hn hm
  have hs1 : (List.map u8 leaf).toArray.size = 16 := by simp [hl16]
  obtain ⟨W0, hW0⟩ : ∃ W0, w.alloc (.cells (leaf.map u8).toArray 28) = W0 := ⟨_, rfl⟩
  have hb0 : Below w.heap.size w W0 := by rw [← hW0]; exact below_alloc w _
  have hz0 : w.heap.size < W0.heap.size := by rw [← hW0]; simp
  have HRL := hid (show W0.rangeAt w.heap.size 0 (leaf.map u8) by rw [← hW0]; exact dig_range w leaf _)
  have HT := hid (hT.keep hb0)
  have HDS := hid ((hds.keep hb0).mono hb0.size)
  have HPR := hid ((hpr.keep hb0).mono hb0.size)
  have HSA := hid (sanity_any W0 HT.out)
  have HB0 := hid hb0; have HW0 := hid hW0; have H16 := hid h16; have HP16 := hid hp16
  clear hT hds hpr hb0 hW0 h16 hp16
  by_cases hbig : ds.length > 40 ∨ ds.length = 0 ∨ proof.length > 10
  · by_cases h40 : ds.length > 40
    · have b1 : (ds.length : Int) > 40 := by omega
      clear hbig
      go_enter Tryd.func6, Tryd.ntmps6
      go_upto_region 1 with (fail)
      rw [HW0.out]
      go_wp2_with ((with_reducible refine (HSA.out).mono ?_); rintro e w1 ⟨rfl, hb⟩; have HB := hid hb; clear hb)
      go_ret
      exact ⟨rfl, HB0.out.trans (HB.out.mono HB0.out.size)⟩
    · have b1 : ¬ ((ds.length : Int) > 40) := by omega
      by_cases h0 : ds.length = 0
      · clear hbig
        go_enter Tryd.func6, Tryd.ntmps6
        go_upto_region 1 with (fail)
        rw [HW0.out]
        go_wp2_with ((with_reducible refine (HSA.out).mono ?_); rintro e w1 ⟨rfl, hb⟩; have HB := hid hb; clear hb)
        go_ret
        exact ⟨rfl, HB0.out.trans (HB.out.mono HB0.out.size)⟩
      · have b2 : ¬ ((ds.length : Int) = 0) := by omega
        have d2 : ((ds.length : Int) == 0) = false := beq_eq_false_iff_ne.2 b2
        have b3 : (proof.length : Int) > 10 := by omega
        clear hbig
        go_enter Tryd.func6, Tryd.ntmps6
        go_upto_region 1 with (fail)
        rw [HW0.out]
        go_wp2_with ((with_reducible refine (HSA.out).mono ?_); rintro e w1 ⟨rfl, hb⟩; have HB := hid hb; clear hb)
        go_ret
        exact ⟨rfl, HB0.out.trans (HB.out.mono HB0.out.size)⟩
  · have b1 : ¬ ((ds.length : Int) > 40) := by omega
    have b2 : ¬ ((ds.length : Int) = 0) := by omega
    have b3 : ¬ ((proof.length : Int) > 10) := by omega
    have d1 : decide ((40 : Int) < (ds.length : Int)) = false := by simp; omega
    have d2 : ((ds.length : Int) == 0) = false := beq_eq_false_iff_ne.2 b2
    have d3 : decide ((10 : Int) < (proof.length : Int)) = false := by simp; omega
    have hne : 0 < ds.length := by omega
    obtain ⟨k, hk⟩ : ∃ k, i % ds.length = k := ⟨_, rfl⟩
    have hkl : k < ds.length := by rw [← hk]; exact Nat.mod_lt _ hne
    have hrem : ((i : Int) % (ds.length : Int)) = (k : Int) := by rw [← hk]; exact (Int.natCast_emod i ds.length).symm
    have hrem2 : (Int.tmod (i : Int) (ds.length : Int)) = (k : Int) := by rw [Int.tmod_eq_emod_of_nonneg (by omega)]; exact hrem
    have hk1 : (k : Int) < (ds.length : Int) := by omega
    have hk0 : (0 : Int) ≤ (k : Int) := by omega
    have hw1 : IntKind.i64.wrap (i : Int) = (i : Int) := by simp [IntKind.wrap, IntKind.bits, IntKind.signed]; omega
    obtain ⟨b, off, rfl, hbl, -, hrg⟩ := HDS.out k hkl
    have hx16 := H16.out _ (List.getElem_mem hkl)
    have hxe : ds.getD k [] = ds[k] := by simp [List.getD, hkl]
    obtain ⟨x, hx⟩ : ∃ x, ds[k] = x := ⟨_, rfl⟩
    rw [hx] at hrg hx16 hxe
    rw [Nat.mul_comm] at hrg
    have HX := hid hrg
    obtain ⟨r, hr⟩ : ∃ r, rootF ds = r := ⟨_, rfl⟩
    have hr16 : r.length = 16 := by rw [← hr]; exact rootF_length _
    have HRT := hid (fun (W : World) (hb : Below W0.heap.size W0 W) => (show Calls Tryd.prog 18 #[.slice (some ⟨b, off, none⟩) ds.length c] W fun e w' => e = .returned (dv r) ∧ Below W.heap.size W w' by
      rw [← hr]; exact root_any (ds.length + 1) ds (some ⟨b, off, none⟩) ds.length c W (Nat.lt_succ_self _) H16.out (HT.out.keep hb) rfl hc (by omega) ((HDS.out.keep hb).mono hb.size)))
    obtain ⟨T, hTT⟩ : ∃ T, verifyF r ds.length k leaf proof = T := ⟨_, rfl⟩
    have HVT := hid (fun (W : World) (hb : Below W0.heap.size W0 W) => (show Calls Tryd.prog 21 #[.agg (r.map u8).toArray, .int .i64 ds.length, .int .i64 k, .agg (leaf.map u8).toArray, .slice a' proof.length c'] W fun e w' => e = .returned (.bool T) ∧ Below W.heap.size W w' by
      rw [← hTT]; exact verify_ok r leaf hr16 hl16 ds.length k hkl (by omega) proof HP16.out a' proof.length c' rfl (by omega) W (HT.out.keep hb) ((HPR.out.keep hb).mono hb.size)))
    have HSND := hid (fun (h : T = true) => (show leaf = x ∨ collF ds k leaf proof = true by
      have := verify_sound ds k leaf proof hkl (by rw [hr, hTT]; exact h)
      rwa [hxe] at this))
    have HCL := hid (fun (W : World) (hb : Below W0.heap.size W0 W) => coll_any (ds.length + 1) ds k leaf proof (some ⟨b, off, none⟩) ds.length c a' proof.length c' W (Nat.lt_succ_self _) hkl (by omega) hl16 H16.out HP16.out (HT.out.keep hb) rfl hc rfl hc' (by omega) ((HDS.out.keep hb).mono hb.size) ((HPR.out.keep hb).mono hb.size))
    clear hk hx hrg hxe hr hTT hbig
    go_enter Tryd.func6, Tryd.ntmps6
    go_upto_region 1 with (fail)
    rw [HW0.out]
    go_upto_region 5 with ((with_reducible refine (HSA.out).mono ?_); rintro e w1 ⟨rfl, hb⟩; have HB := hid hb; clear hb)
    have HL5 := hid (show ∀ p ∈ [(w.heap.size, 0, leaf)], w1.rangeAt p.1 p.2.1 (p.2.2.map u8) ∧ p.1 < w1.heap.size from fun p hp => by rw [List.mem_singleton.1 hp]; exact ⟨range_keep HRL.out HB.out hz0, by have := HB.out.size; simp only; omega⟩)
    go_cut [39] (fun u wx => u = .bool (!T) ∧ Below w1.heap.size w1 wx)
    case first =>
      go_wp2_with fail
      have HB0S := hid (show w1.heap.size ≤ w1.heap.size from Nat.le_refl _)
      refine wp_region_noPanic ?_
      refine wp_region_held_drew (S := Sx (w1.heap.size) w1 [(w.heap.size, 0, leaf)]) (by kernel_rfl) (Sx.start (HL5.out)) (fun hH => ?_)
      refine wpAnyH_take (i := 0) (v := ?_) rfl (by kernel_rfl) (by kernel_rfl) (by kernel_rfl) (fun _ _ _ h => h) (Or.inl ⟨by rfl, ?_⟩) hH ?_
      rotate_left
      · (intro w hSw; simp only [List.getElem_toArray, List.getElem_cons_zero]; first | (go_simp; done) | (go_simp; with_reducible rfl))
      simp only [List.getElem_toArray, List.getElem_cons_zero, Act.put, List.setIfInBounds_toArray, List.set_cons_zero, List.set_cons_succ]
      refine wpAnyH_take (i := 2) (v := ?_) rfl (by kernel_rfl) (by kernel_rfl) (by kernel_rfl) (fun _ _ _ h => h) (Or.inl ⟨by rfl, ?_⟩) hH ?_
      rotate_left
      · (intro w hSw; simp only [List.getElem_toArray, List.getElem_cons_succ, List.getElem_cons_zero]; first | (go_simp; done) | (go_simp; with_reducible rfl))
      simp only [List.getElem_toArray, List.getElem_cons_succ, List.getElem_cons_zero, Act.put, List.setIfInBounds_toArray, List.set_cons_zero, List.set_cons_succ]
      refine wpAnyH_take (i := 3) (v := ?_) rfl (by kernel_rfl) (by kernel_rfl) (by kernel_rfl) (fun _ _ _ h => h) (Or.inl ⟨by rfl, ?_⟩) hH ?_
      rotate_left
      · (intro w hSw; simp only [List.getElem_toArray, List.getElem_cons_succ, List.getElem_cons_zero]; first | (go_simp; done) | (go_simp; with_reducible rfl))
      simp only [List.getElem_toArray, List.getElem_cons_succ, List.getElem_cons_zero, Act.put, List.setIfInBounds_toArray, List.set_cons_zero, List.set_cons_succ]
      refine wpAnyH_take (i := 4) (v := ?_) rfl (by kernel_rfl) (by kernel_rfl) (by kernel_rfl) (fun _ _ _ h => h) (Or.inl ⟨by rfl, ?_⟩) hH ?_
      rotate_left
      · (intro w hSw; simp only [List.getElem_toArray, List.getElem_cons_succ, List.getElem_cons_zero]; first | (go_simp; done) | (go_simp; with_reducible rfl))
      simp only [List.getElem_toArray, List.getElem_cons_succ, List.getElem_cons_zero, Act.put, List.setIfInBounds_toArray, List.set_cons_zero, List.set_cons_succ]
      refine wpAnyH_take (i := 5) rfl (by kernel_rfl) (by kernel_rfl) (by kernel_rfl) (fun _ _ _ h => h) (yieldsIf_load_mid (by rfl) _ _ rfl w.heap.size 0 rfl (leaf.map u8) _ (fun w h => Sx.get h (k := 0) rfl) under28 rfl (info16 leaf hl16)) hH ?_
      simp only [List.getElem_toArray, List.getElem_cons_succ, List.getElem_cons_zero, Act.put, List.setIfInBounds_toArray, List.set_cons_zero, List.set_cons_succ]
      refine wpAnyH_take (i := 6) (v := ?_) rfl (by kernel_rfl) (by kernel_rfl) (by kernel_rfl) (fun _ _ _ h => h) (Or.inl ⟨by rfl, ?_⟩) hH ?_
      rotate_left
      · (intro w hSw; simp only [List.getElem_toArray, List.getElem_cons_succ, List.getElem_cons_zero]; first | (go_simp; done) | (go_simp; with_reducible rfl))
      simp only [List.getElem_toArray, List.getElem_cons_succ, List.getElem_cons_zero, Act.put, List.setIfInBounds_toArray, List.set_cons_zero, List.set_cons_succ]
      refine wpAnyH_ready (rs := [1]) (by kernel_rfl) (by simp) ?_
      refine AllReadyH.cons rfl (fun K hK => ?_) AllReadyH.nil
      simp only [List.getElem_toArray, List.getElem_cons_succ, List.getElem_cons_zero]
      go_simp
      (with_reducible refine (HRT.out _ (HB.out.trans (hH.below.mono HB.out.size))).mono ?_)
      rintro e z3 ⟨rfl, hb5⟩
      have HBS := hid hb5
      clear hb5
      go_wp2_with fail
      refine hK.out _ _ ?_ (fun hH => ?_)
      · exact hH.call HBS.out HB0S.out
      clear hK K
      try simp only [Act.put, List.setIfInBounds_toArray, List.set_cons_zero, List.set_cons_succ]
      refine wpAnyH_ready (rs := [7]) (by kernel_rfl) (by simp) ?_
      refine AllReadyH.cons rfl (fun K hK => ?_) AllReadyH.nil
      simp only [List.getElem_toArray, List.getElem_cons_succ, List.getElem_cons_zero]
      go_simp
      (with_reducible refine (HVT.out _ (HB.out.trans (hH.below.mono HB.out.size))).mono ?_)
      rintro e z4 ⟨rfl, hb5⟩
      have HBS := hid hb5
      clear hb5
      go_wp2_with fail
      refine hK.out _ _ ?_ (fun hH => ?_)
      · exact hH.call HBS.out HB0S.out
      clear hK K
      try simp only [Act.put, List.setIfInBounds_toArray, List.set_cons_zero, List.set_cons_succ]
      refine wpAnyH_take (i := 8) (v := ?_) rfl (by kernel_rfl) (by kernel_rfl) (by kernel_rfl) (fun _ _ _ h => h) (Or.inl ⟨by rfl, ?_⟩) hH ?_
      rotate_left
      · (intro w hSw; simp only [List.getElem_toArray, List.getElem_cons_succ, List.getElem_cons_zero]; first | (go_simp; done) | (go_simp; with_reducible rfl))
      simp only [List.getElem_toArray, List.getElem_cons_succ, List.getElem_cons_zero, Act.put, List.setIfInBounds_toArray, List.set_cons_zero, List.set_cons_succ]
      refine wpAnyH_done (by kernel_rfl) ?_ _
      refine NoPanic.normal ?_
      go_wp2_with fail
      go_meet
      case rel => exact ⟨rfl, hH.below⟩
    case rest =>
      rename World => W6
      obtain ⟨rfl, hb6⟩ := hcut
      have HB6 := hid (HB.out.trans (hb6.mono HB.out.size))
      clear hb6
      cases T
      · go_wp2_with fail
        go_ret
        exact ⟨rfl, HB0.out.trans (HB6.out.mono HB0.out.size)⟩
      · have HS := hid (HSND.out rfl)
        have HL7 := hid (show ∀ p ∈ [(w.heap.size, 0, leaf), (b, off + k * 16, x)], W6.rangeAt p.1 p.2.1 (p.2.2.map u8) ∧ p.1 < W6.heap.size from fun p hp => by
          have h6 := HB6.out.size
          simp only [List.mem_cons, List.not_mem_nil, or_false] at hp
          rcases hp with rfl | rfl
          · exact ⟨range_keep HRL.out HB6.out hz0, by simp only; omega⟩
          · exact ⟨range_keep HX.out HB6.out hbl, by simp only; omega⟩)
        by_cases hlx : leaf = x
        · have heq : ∀ W, (Op.equalIn 10000 28 (.agg (leaf.map u8).toArray) (.agg (x.map u8).toArray)).run Tryd.prog W = .ok true W := fun W => by rw [eqIn_dig leaf x hl16 hx16 W, decide_eq_true hlx]
          have HLX := hid hlx
          clear hlx
          go_wp2_with fail
          have HB0S := hid (show W6.heap.size ≤ W6.heap.size from Nat.le_refl _)
          refine wp_region_noPanic ?_
          refine wp_region_held_drew (S := Sx (W6.heap.size) W6 [(w.heap.size, 0, leaf), (b, off + k * 16, x)]) (by kernel_rfl) (Sx.start (HL7.out)) (fun hH => ?_)
          refine wpAnyH_take (i := 0) (v := ?_) rfl (by kernel_rfl) (by kernel_rfl) (by kernel_rfl) (fun _ _ _ h => h) (Or.inl ⟨by rfl, ?_⟩) hH ?_
          rotate_left
          · (intro w hSw; simp only [List.getElem_toArray, List.getElem_cons_zero]; first | (go_simp; done) | (go_simp; with_reducible rfl))
          simp only [List.getElem_toArray, List.getElem_cons_zero, Act.put, List.setIfInBounds_toArray, List.set_cons_zero, List.set_cons_succ]
          refine wpAnyH_take (i := 1) (v := ?_) rfl (by kernel_rfl) (by kernel_rfl) (by kernel_rfl) (fun _ _ _ h => h) (Or.inl ⟨by rfl, ?_⟩) hH ?_
          rotate_left
          · (intro w hSw; simp only [List.getElem_toArray, List.getElem_cons_succ, List.getElem_cons_zero]; first | (go_simp; done) | (go_simp; with_reducible rfl))
          simp only [List.getElem_toArray, List.getElem_cons_succ, List.getElem_cons_zero, Act.put, List.setIfInBounds_toArray, List.set_cons_zero, List.set_cons_succ]
          refine wpAnyH_take (i := 2) rfl (by kernel_rfl) (by kernel_rfl) (by kernel_rfl) (fun _ _ _ h => h) (yieldsIf_load_mid (by rfl) _ _ rfl w.heap.size 0 rfl (leaf.map u8) _ (fun w h => Sx.get h (k := 0) rfl) under28 rfl (info16 leaf hl16)) hH ?_
          simp only [List.getElem_toArray, List.getElem_cons_succ, List.getElem_cons_zero, Act.put, List.setIfInBounds_toArray, List.set_cons_zero, List.set_cons_succ]
          refine wpAnyH_take (i := 3) (v := ?_) rfl (by kernel_rfl) (by kernel_rfl) (by kernel_rfl) (fun _ _ _ h => h) (Or.inl ⟨by rfl, ?_⟩) hH ?_
          rotate_left
          · (intro w hSw; simp only [List.getElem_toArray, List.getElem_cons_succ, List.getElem_cons_zero]; first | (go_simp; done) | (go_simp; with_reducible rfl))
          simp only [List.getElem_toArray, List.getElem_cons_succ, List.getElem_cons_zero, Act.put, List.setIfInBounds_toArray, List.set_cons_zero, List.set_cons_succ]
          refine wpAnyH_take (i := 4) (v := ?_) rfl (by kernel_rfl) (by kernel_rfl) (by kernel_rfl) (fun _ _ _ h => h) (Or.inl ⟨by rfl, ?_⟩) hH ?_
          rotate_left
          · (intro w hSw; simp only [List.getElem_toArray, List.getElem_cons_succ, List.getElem_cons_zero]; first | (go_simp; done) | (go_simp; with_reducible rfl))
          simp only [List.getElem_toArray, List.getElem_cons_succ, List.getElem_cons_zero, Act.put, List.setIfInBounds_toArray, List.set_cons_zero, List.set_cons_succ]
          refine wpAnyH_take (i := 5) (v := ?_) rfl (by kernel_rfl) (by kernel_rfl) (by kernel_rfl) (fun _ _ _ h => h) (Or.inl ⟨by rfl, ?_⟩) hH ?_
          rotate_left
          · (intro w hSw; simp only [List.getElem_toArray, List.getElem_cons_succ, List.getElem_cons_zero]; first | (go_simp; done) | (go_simp; with_reducible rfl))
          simp only [List.getElem_toArray, List.getElem_cons_succ, List.getElem_cons_zero, Act.put, List.setIfInBounds_toArray, List.set_cons_zero, List.set_cons_succ]
          refine wpAnyH_take (i := 6) rfl (by kernel_rfl) (by kernel_rfl) (by kernel_rfl) (fun _ _ _ h => h) (yieldsIf_load_mid (by rfl) _ _ rfl b (off + k * 16) rfl (x.map u8) _ (fun w h => Sx.get h (k := 1) rfl) under28 rfl (info16 x hx16)) hH ?_
          simp only [List.getElem_toArray, List.getElem_cons_succ, List.getElem_cons_zero, Act.put, List.setIfInBounds_toArray, List.set_cons_zero, List.set_cons_succ]
          refine wpAnyH_take (i := 7) (v := ?_) rfl (by kernel_rfl) (by kernel_rfl) (by kernel_rfl) (fun _ _ _ h => h) (Or.inl ⟨by rfl, ?_⟩) hH ?_
          rotate_left
          · (intro w hSw; simp only [List.getElem_toArray, List.getElem_cons_succ, List.getElem_cons_zero]; first | (go_simp; done) | (go_simp; with_reducible rfl))
          simp only [List.getElem_toArray, List.getElem_cons_succ, List.getElem_cons_zero, Act.put, List.setIfInBounds_toArray, List.set_cons_zero, List.set_cons_succ]
          refine wpAnyH_take (i := 8) (v := ?_) rfl (by kernel_rfl) (by kernel_rfl) (by kernel_rfl) (fun _ _ _ h => h) (Or.inl ⟨by rfl, ?_⟩) hH ?_
          rotate_left
          · (intro w hSw; simp only [List.getElem_toArray, List.getElem_cons_succ, List.getElem_cons_zero]; first | (go_simp; done) | (go_simp; with_reducible rfl))
          simp only [List.getElem_toArray, List.getElem_cons_succ, List.getElem_cons_zero, Act.put, List.setIfInBounds_toArray, List.set_cons_zero, List.set_cons_succ]
          refine wpAnyH_take (i := 9) (v := undef) rfl (by kernel_rfl) (by kernel_rfl) (by kernel_rfl) (fun _ _ _ h => h) (Or.inr ⟨by rfl, rfl⟩) hH ?_
          simp only [List.getElem_toArray, List.getElem_cons_succ, List.getElem_cons_zero, Act.put, List.setIfInBounds_toArray, List.set_cons_zero, List.set_cons_succ]
          refine wpAnyH_take (i := 10) (v := undef) rfl (by kernel_rfl) (by kernel_rfl) (by kernel_rfl) (fun _ _ _ h => h) (Or.inr ⟨by rfl, rfl⟩) hH ?_
          simp only [List.getElem_toArray, List.getElem_cons_succ, List.getElem_cons_zero, Act.put, List.setIfInBounds_toArray, List.set_cons_zero, List.set_cons_succ]
          refine wpAnyH_take (i := 11) (v := undef) rfl (by kernel_rfl) (by kernel_rfl) (by kernel_rfl) (fun _ _ _ h => h) (Or.inr ⟨by rfl, rfl⟩) hH ?_
          simp only [List.getElem_toArray, List.getElem_cons_succ, List.getElem_cons_zero, Act.put, List.setIfInBounds_toArray, List.set_cons_zero, List.set_cons_succ]
          refine wpAnyH_take (i := 12) (v := undef) rfl (by kernel_rfl) (by kernel_rfl) (by kernel_rfl) (fun _ _ _ h => h) (Or.inr ⟨by rfl, rfl⟩) hH ?_
          simp only [List.getElem_toArray, List.getElem_cons_succ, List.getElem_cons_zero, Act.put, List.setIfInBounds_toArray, List.set_cons_zero, List.set_cons_succ]
          refine wpAnyH_take (i := 13) (v := undef) rfl (by kernel_rfl) (by kernel_rfl) (by kernel_rfl) (fun _ _ _ h => h) (Or.inr ⟨by rfl, rfl⟩) hH ?_
          simp only [List.getElem_toArray, List.getElem_cons_succ, List.getElem_cons_zero, Act.put, List.setIfInBounds_toArray, List.set_cons_zero, List.set_cons_succ]
          refine wpAnyH_take (i := 14) (v := ?_) rfl (by kernel_rfl) (by kernel_rfl) (by kernel_rfl) (fun _ _ _ h => h) (Or.inl ⟨by rfl, ?_⟩) hH ?_
          rotate_left
          · (intro w hSw; simp only [List.getElem_toArray, List.getElem_cons_succ, List.getElem_cons_zero]; first | (go_simp; done) | (go_simp; with_reducible rfl))
          simp only [List.getElem_toArray, List.getElem_cons_succ, List.getElem_cons_zero, Act.put, List.setIfInBounds_toArray, List.set_cons_zero, List.set_cons_succ]
          refine wpAnyH_take (i := 15) (v := ?_) rfl (by kernel_rfl) (by kernel_rfl) (by kernel_rfl) (fun _ _ _ h => h) (Or.inl ⟨by rfl, ?_⟩) hH ?_
          rotate_left
          · (intro w hSw; simp only [List.getElem_toArray, List.getElem_cons_succ, List.getElem_cons_zero]; first | (go_simp; done) | (go_simp; with_reducible rfl))
          simp only [List.getElem_toArray, List.getElem_cons_succ, List.getElem_cons_zero, Act.put, List.setIfInBounds_toArray, List.set_cons_zero, List.set_cons_succ]
          refine wpAnyH_take (i := 16) (v := ?_) rfl (by kernel_rfl) (by kernel_rfl) (by kernel_rfl) (fun _ _ _ h => h) (Or.inl ⟨by rfl, ?_⟩) hH ?_
          rotate_left
          · (intro w hSw; simp only [List.getElem_toArray, List.getElem_cons_succ, List.getElem_cons_zero]; first | (go_simp; done) | (go_simp; with_reducible rfl))
          simp only [List.getElem_toArray, List.getElem_cons_succ, List.getElem_cons_zero, Act.put, List.setIfInBounds_toArray, List.set_cons_zero, List.set_cons_succ]
          refine wpAnyH_done (by kernel_rfl) ?_ _
          refine NoPanic.normal ?_
          go_wp2_with fail
          go_ret
          exact ⟨rfl, HB0.out.trans ((HB6.out.trans (hH.below.mono HB6.out.size)).mono HB0.out.size)⟩
        · have heq : ∀ W, (Op.equalIn 10000 28 (.agg (leaf.map u8).toArray) (.agg (x.map u8).toArray)).run Tryd.prog W = .ok false W := fun W => by rw [eqIn_dig leaf x hl16 hx16 W, decide_eq_false hlx]
          have hct : collF ds k leaf proof = true := HS.out.resolve_left hlx
          rw [hct] at HCL
          have HLX := hid hlx
          clear hlx hct
          go_wp2_with fail
          have HB0S := hid (show W6.heap.size ≤ W6.heap.size from Nat.le_refl _)
          refine wp_region_noPanic ?_
          refine wp_region_held_drew (S := Sx (W6.heap.size) W6 [(w.heap.size, 0, leaf), (b, off + k * 16, x)]) (by kernel_rfl) (Sx.start (HL7.out)) (fun hH => ?_)
          refine wpAnyH_take (i := 0) (v := ?_) rfl (by kernel_rfl) (by kernel_rfl) (by kernel_rfl) (fun _ _ _ h => h) (Or.inl ⟨by rfl, ?_⟩) hH ?_
          rotate_left
          · (intro w hSw; simp only [List.getElem_toArray, List.getElem_cons_zero]; first | (go_simp; done) | (go_simp; with_reducible rfl))
          simp only [List.getElem_toArray, List.getElem_cons_zero, Act.put, List.setIfInBounds_toArray, List.set_cons_zero, List.set_cons_succ]
          refine wpAnyH_take (i := 1) (v := ?_) rfl (by kernel_rfl) (by kernel_rfl) (by kernel_rfl) (fun _ _ _ h => h) (Or.inl ⟨by rfl, ?_⟩) hH ?_
          rotate_left
          · (intro w hSw; simp only [List.getElem_toArray, List.getElem_cons_succ, List.getElem_cons_zero]; first | (go_simp; done) | (go_simp; with_reducible rfl))
          simp only [List.getElem_toArray, List.getElem_cons_succ, List.getElem_cons_zero, Act.put, List.setIfInBounds_toArray, List.set_cons_zero, List.set_cons_succ]
          refine wpAnyH_take (i := 2) rfl (by kernel_rfl) (by kernel_rfl) (by kernel_rfl) (fun _ _ _ h => h) (yieldsIf_load_mid (by rfl) _ _ rfl w.heap.size 0 rfl (leaf.map u8) _ (fun w h => Sx.get h (k := 0) rfl) under28 rfl (info16 leaf hl16)) hH ?_
          simp only [List.getElem_toArray, List.getElem_cons_succ, List.getElem_cons_zero, Act.put, List.setIfInBounds_toArray, List.set_cons_zero, List.set_cons_succ]
          refine wpAnyH_take (i := 3) (v := ?_) rfl (by kernel_rfl) (by kernel_rfl) (by kernel_rfl) (fun _ _ _ h => h) (Or.inl ⟨by rfl, ?_⟩) hH ?_
          rotate_left
          · (intro w hSw; simp only [List.getElem_toArray, List.getElem_cons_succ, List.getElem_cons_zero]; first | (go_simp; done) | (go_simp; with_reducible rfl))
          simp only [List.getElem_toArray, List.getElem_cons_succ, List.getElem_cons_zero, Act.put, List.setIfInBounds_toArray, List.set_cons_zero, List.set_cons_succ]
          refine wpAnyH_take (i := 4) (v := ?_) rfl (by kernel_rfl) (by kernel_rfl) (by kernel_rfl) (fun _ _ _ h => h) (Or.inl ⟨by rfl, ?_⟩) hH ?_
          rotate_left
          · (intro w hSw; simp only [List.getElem_toArray, List.getElem_cons_succ, List.getElem_cons_zero]; first | (go_simp; done) | (go_simp; with_reducible rfl))
          simp only [List.getElem_toArray, List.getElem_cons_succ, List.getElem_cons_zero, Act.put, List.setIfInBounds_toArray, List.set_cons_zero, List.set_cons_succ]
          refine wpAnyH_take (i := 5) (v := ?_) rfl (by kernel_rfl) (by kernel_rfl) (by kernel_rfl) (fun _ _ _ h => h) (Or.inl ⟨by rfl, ?_⟩) hH ?_
          rotate_left
          · (intro w hSw; simp only [List.getElem_toArray, List.getElem_cons_succ, List.getElem_cons_zero]; first | (go_simp; done) | (go_simp; with_reducible rfl))
          simp only [List.getElem_toArray, List.getElem_cons_succ, List.getElem_cons_zero, Act.put, List.setIfInBounds_toArray, List.set_cons_zero, List.set_cons_succ]
          refine wpAnyH_take (i := 6) rfl (by kernel_rfl) (by kernel_rfl) (by kernel_rfl) (fun _ _ _ h => h) (yieldsIf_load_mid (by rfl) _ _ rfl b (off + k * 16) rfl (x.map u8) _ (fun w h => Sx.get h (k := 1) rfl) under28 rfl (info16 x hx16)) hH ?_
          simp only [List.getElem_toArray, List.getElem_cons_succ, List.getElem_cons_zero, Act.put, List.setIfInBounds_toArray, List.set_cons_zero, List.set_cons_succ]
          refine wpAnyH_take (i := 7) (v := ?_) rfl (by kernel_rfl) (by kernel_rfl) (by kernel_rfl) (fun _ _ _ h => h) (Or.inl ⟨by rfl, ?_⟩) hH ?_
          rotate_left
          · (intro w hSw; simp only [List.getElem_toArray, List.getElem_cons_succ, List.getElem_cons_zero]; first | (go_simp; done) | (go_simp; with_reducible rfl))
          simp only [List.getElem_toArray, List.getElem_cons_succ, List.getElem_cons_zero, Act.put, List.setIfInBounds_toArray, List.set_cons_zero, List.set_cons_succ]
          refine wpAnyH_take (i := 8) (v := ?_) rfl (by kernel_rfl) (by kernel_rfl) (by kernel_rfl) (fun _ _ _ h => h) (Or.inl ⟨by rfl, ?_⟩) hH ?_
          rotate_left
          · (intro w hSw; simp only [List.getElem_toArray, List.getElem_cons_succ, List.getElem_cons_zero]; first | (go_simp; done) | (go_simp; with_reducible rfl))
          simp only [List.getElem_toArray, List.getElem_cons_succ, List.getElem_cons_zero, Act.put, List.setIfInBounds_toArray, List.set_cons_zero, List.set_cons_succ]
          refine wpAnyH_take (i := 9) (v := ?_) rfl (by kernel_rfl) (by kernel_rfl) (by kernel_rfl) (fun _ _ _ h => h) (Or.inl ⟨by rfl, ?_⟩) hH ?_
          rotate_left
          · (intro w hSw; simp only [List.getElem_toArray, List.getElem_cons_succ, List.getElem_cons_zero]; first | (go_simp; done) | (go_simp; with_reducible rfl))
          simp only [List.getElem_toArray, List.getElem_cons_succ, List.getElem_cons_zero, Act.put, List.setIfInBounds_toArray, List.set_cons_zero, List.set_cons_succ]
          refine wpAnyH_take (i := 10) (v := ?_) rfl (by kernel_rfl) (by kernel_rfl) (by kernel_rfl) (fun _ _ _ h => h) (Or.inl ⟨by rfl, ?_⟩) hH ?_
          rotate_left
          · (intro w hSw; simp only [List.getElem_toArray, List.getElem_cons_succ, List.getElem_cons_zero]; first | (go_simp; done) | (go_simp; with_reducible rfl))
          simp only [List.getElem_toArray, List.getElem_cons_succ, List.getElem_cons_zero, Act.put, List.setIfInBounds_toArray, List.set_cons_zero, List.set_cons_succ]
          refine wpAnyH_take (i := 11) rfl (by kernel_rfl) (by kernel_rfl) (by kernel_rfl) (fun _ _ _ h => h) (yieldsIf_load_mid (by rfl) _ _ rfl w.heap.size 0 rfl (leaf.map u8) _ (fun w h => Sx.get h (k := 0) rfl) under28 rfl (info16 leaf hl16)) hH ?_
          simp only [List.getElem_toArray, List.getElem_cons_succ, List.getElem_cons_zero, Act.put, List.setIfInBounds_toArray, List.set_cons_zero, List.set_cons_succ]
          refine wpAnyH_take (i := 12) (v := ?_) rfl (by kernel_rfl) (by kernel_rfl) (by kernel_rfl) (fun _ _ _ h => h) (Or.inl ⟨by rfl, ?_⟩) hH ?_
          rotate_left
          · (intro w hSw; simp only [List.getElem_toArray, List.getElem_cons_succ, List.getElem_cons_zero]; first | (go_simp; done) | (go_simp; with_reducible rfl))
          simp only [List.getElem_toArray, List.getElem_cons_succ, List.getElem_cons_zero, Act.put, List.setIfInBounds_toArray, List.set_cons_zero, List.set_cons_succ]
          refine wpAnyH_ready (rs := [13]) (by kernel_rfl) (by simp) ?_
          refine AllReadyH.cons rfl (fun K hK => ?_) AllReadyH.nil
          simp only [List.getElem_toArray, List.getElem_cons_succ, List.getElem_cons_zero]
          go_simp
          (with_reducible refine (HCL.out _ (HB6.out.trans (hH.below.mono HB6.out.size))).mono ?_)
          rintro e z5 ⟨rfl, hb5⟩
          have HBS := hid hb5
          clear hb5
          go_wp2_with fail
          refine hK.out _ _ ?_ (fun hH => ?_)
          · exact hH.call HBS.out HB0S.out
          clear hK K
          try simp only [Act.put, List.setIfInBounds_toArray, List.set_cons_zero, List.set_cons_succ]
          refine wpAnyH_take (i := 14) (v := ?_) rfl (by kernel_rfl) (by kernel_rfl) (by kernel_rfl) (fun _ _ _ h => h) (Or.inl ⟨by rfl, ?_⟩) hH ?_
          rotate_left
          · (intro w hSw; simp only [List.getElem_toArray, List.getElem_cons_succ, List.getElem_cons_zero]; first | (go_simp; done) | (go_simp; with_reducible rfl))
          simp only [List.getElem_toArray, List.getElem_cons_succ, List.getElem_cons_zero, Act.put, List.setIfInBounds_toArray, List.set_cons_zero, List.set_cons_succ]
          refine wpAnyH_take (i := 15) (v := ?_) rfl (by kernel_rfl) (by kernel_rfl) (by kernel_rfl) (fun _ _ _ h => h) (Or.inl ⟨by rfl, ?_⟩) hH ?_
          rotate_left
          · (intro w hSw; simp only [List.getElem_toArray, List.getElem_cons_succ, List.getElem_cons_zero]; first | (go_simp; done) | (go_simp; with_reducible rfl))
          simp only [List.getElem_toArray, List.getElem_cons_succ, List.getElem_cons_zero, Act.put, List.setIfInBounds_toArray, List.set_cons_zero, List.set_cons_succ]
          refine wpAnyH_take (i := 16) (v := ?_) rfl (by kernel_rfl) (by kernel_rfl) (by kernel_rfl) (fun _ _ _ h => h) (Or.inl ⟨by rfl, ?_⟩) hH ?_
          rotate_left
          · (intro w hSw; simp only [List.getElem_toArray, List.getElem_cons_succ, List.getElem_cons_zero]; first | (go_simp; done) | (go_simp; with_reducible rfl))
          simp only [List.getElem_toArray, List.getElem_cons_succ, List.getElem_cons_zero, Act.put, List.setIfInBounds_toArray, List.set_cons_zero, List.set_cons_succ]
          refine wpAnyH_done (by kernel_rfl) ?_ _
          refine NoPanic.normal ?_
          go_wp2_with fail
          go_ret
          exact ⟨rfl, HB0.out.trans ((HB6.out.trans (hH.below.mono HB6.out.size)).mono HB0.out.size)⟩
end Go.Proofs.YtbjfkliijhnloaaDoor
