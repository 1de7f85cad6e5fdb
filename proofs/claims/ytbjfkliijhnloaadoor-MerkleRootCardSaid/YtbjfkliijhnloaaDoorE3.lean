/- The sanity function of the statements about trees walked: it answers true, wherever the hash tables lie as the package lays them. -/
import Derived.Test.YtbjfkliijhnloaaDoorE2
namespace Go.Proofs.YtbjfkliijhnloaaDoor
open Go.RowKit
set_option linter.unusedVariables false

def k8 (n : UInt8) : List UInt8 := [n, 0, 0, 0, 0, 0, 0, 0, 0, 0, 0, 0, 0, 0, 0, 0]
theorem all16_3 : All16 [k8 1, k8 2, k8 3] := fun d hd => by
  simp only [List.mem_cons, List.not_mem_nil, or_false] at hd
  rcases hd with rfl | rfl | rfl <;> rfl
theorem dig_flat (W : World) (ds : List (List UInt8)) (t : TypeId) (h16 : All16 ds) : DigB (W.alloc (.cells (flat ds).toArray t)).heap.size (W.alloc (.cells (flat ds).toArray t)) (some ⟨W.heap.size, 0, none⟩) ds := fun i hi => by
  refine ⟨W.heap.size, 0, rfl, by simp, by simp, fun j u hu => ?_⟩
  have hj : j < 16 := by
    have := (List.getElem?_eq_some_iff.1 hu).1
    rw [List.length_map, h16 _ (List.getElem_mem hi)] at this; exact this
  rw [Nat.zero_add]
  refine lit1 rfl ?_
  rw [List.getElem?_toArray, flat_get ds h16 i j hi hj]; exact hu
theorem split3 : splitF 3 = 2 := by decide
set_option maxRecDepth 100000 in
theorem prove3 : proveF [k8 1, k8 2, k8 3] 2 = [nodeD (leafD (k8 1)) (leafD (k8 2))] := by
  have h := proveF_right (ds := [k8 1, k8 2, k8 3]) (by decide) (i := 2) (by decide)
  rw [h]
  have e : splitF [k8 1, k8 2, k8 3].length = 2 := split3
  rw [e]
  have h1 : proveF (List.drop 2 [k8 1, k8 2, k8 3]) (2 - 2) = [] := proveF_one (by decide) _
  have h2 : rootF (List.take 2 [k8 1, k8 2, k8 3]) = nodeD (leafD (k8 1)) (leafD (k8 2)) := by
    rw [rootF_more (by decide)]
    show nodeD (rootF [k8 1]) (rootF [k8 2]) = _
    rw [rootF_one, rootF_one]
  rw [h1, h2]; rfl
theorem root3 : rootF [k8 1, k8 2, k8 3] = nodeD (nodeD (leafD (k8 1)) (leafD (k8 2))) (leafD (k8 3)) := by
  rw [rootF_more (by decide)]
  show nodeD (rootF [k8 1, k8 2]) (rootF [k8 3]) = _
  rw [rootF_more (by decide), rootF_one]
  show nodeD (nodeD (rootF [k8 1]) (rootF [k8 2])) _ = _
  rw [rootF_one, rootF_one]
theorem sides32 : sidesF 3 2 = [false] := by decide
theorem sides31 : sidesF 3 1 = [true, false] := by decide
theorem apart3 : ¬ (nodeD (nodeD (leafD (k8 1)) (leafD (k8 2))) (leafD (k8 1)) = nodeD (nodeD (leafD (k8 1)) (leafD (k8 2))) (leafD (k8 3))) := by decide +kernel
theorem dig_one (W : World) (d : List UInt8) (t : TypeId) (hd : d.length = 16) : DigB (W.alloc (.cells (d.map u8).toArray t)).heap.size (W.alloc (.cells (d.map u8).toArray t)) (some ⟨W.heap.size, 0, none⟩) [d] := by
  have := dig_flat W [d] t (fun x hx => by rw [List.mem_singleton.1 hx]; exact hd)
  simpa [flat] using this
theorem keepR {w w' : World} {g : Nat} {X : List Value} (h : w.rangeAt g 0 X ∧ g < w.heap.size) (hb : Below w.heap.size w w') : w'.rangeAt g 0 X ∧ g < w'.heap.size := ⟨range_keep h.1 hb h.2, Nat.lt_of_lt_of_le h.2 hb.size⟩
theorem keepT {w w' : World} {g : Nat} (h : w.there g 0 16 ∧ g < w.heap.size) (hb : Below w.heap.size w w') : w'.there g 0 16 ∧ g < w'.heap.size := ⟨there_keep h.1 hb h.2, Nat.lt_of_lt_of_le h.2 hb.size⟩
theorem keepP {w w' : World} {a : Option Addr} {ps : List (List UInt8)} (h : PartsB w.heap.size w a ps) (hb : Below w.heap.size w w') : PartsB w'.heap.size w' a ps := (h.keep hb).mono hb.size

theorem two_parts (W : World) (g1 g2 : Nat) (x y : List UInt8) (t : TypeId) (hx : x.length = 16) (hy : y.length = 16) (h1 : W.rangeAt g1 0 (x.map u8) ∧ g1 < W.heap.size) (h2 : W.rangeAt g2 0 (y.map u8) ∧ g2 < W.heap.size) :
    PartsB (W.alloc (.cells #[.slice (some ⟨g1, 0, none⟩) 16 16, .slice (some ⟨g2, 0, none⟩) 16 16] t)).heap.size (W.alloc (.cells #[.slice (some ⟨g1, 0, none⟩) 16 16, .slice (some ⟨g2, 0, none⟩) 16 16] t)) (some ⟨W.heap.size, 0, none⟩) [x, y] := by
  refine parts_new (W := W) _ t [x, y] (by simp) (Below.refl _ _) rfl (fun i hi => ?_)
  have hi : i < 2 := hi
  rcases (show i = 0 ∨ i = 1 by omega) with rfl | rfl
  · exact ⟨some ⟨g1, 0, none⟩, 16, by simp [hx], bytesB_of_range (range_keep h1.1 (below_alloc _ _) h1.2) (by simp; omega) (by simp; omega)⟩
  · exact ⟨some ⟨g2, 0, none⟩, 16, by simp [hy], bytesB_of_range (range_keep h2.1 (below_alloc _ _) h2.2) (by simp; omega) (by simp; omega)⟩

set_option maxRecDepth 100000 in
set_option maxHeartbeats 4000000 in
theorem sanity_any (w : World) (hT : Tab w) : Calls Tryd.prog 15 #[] w fun e w' => e = .returned (.bool true) ∧ Below w.heap.size w w' := by
  have HT := hid hT
  clear hT
  go_enter Tryd.func15, Tryd.ntmps15
  go_upto_region 4 with (fail)
  obtain ⟨W3, hW3⟩ : ∃ W3, ((w.alloc (.cells ((k8 1).map u8).toArray 28)).alloc (.cells ((k8 2).map u8).toArray 28)).alloc (.cells ((k8 3).map u8).toArray 28) = W3 := ⟨_, rfl⟩
  have hz : W3.heap.size = w.heap.size + 3 := by rw [← hW3]; simp
  have HA := hid (show W3.rangeAt w.heap.size 0 ((k8 1).map u8) by rw [← hW3]; exact range_keep (range_keep (dig_range w (k8 1) _) (below_alloc _ _) (by simp)) (below_alloc _ _) (by simp; omega))
  have HB := hid (show W3.rangeAt (w.heap.size + 1) 0 ((k8 2).map u8) by
    have := dig_range (w.alloc (.cells ((k8 1).map u8).toArray 28)) (k8 2) 28
    rw [World.size_alloc] at this; rw [← hW3]; exact range_keep this (below_alloc _ _) (by simp))
  have HC := hid (show W3.rangeAt (w.heap.size + 1 + 1) 0 ((k8 3).map u8) by
    have := dig_range ((w.alloc (.cells ((k8 1).map u8).toArray 28)).alloc (.cells ((k8 2).map u8).toArray 28)) (k8 3) 28
    rw [World.size_alloc, World.size_alloc] at this; rw [← hW3]; exact this)
  have HW3 := hid (show Below w.heap.size w W3 by rw [← hW3]; exact below_alloc3 _ _ _ _)
  have HT3 := hid (HT.out.keep HW3.out)
  have hW4 : ((w.alloc (.cells #[.int .u8 1, .int .u8 0, .int .u8 0, .int .u8 0, .int .u8 0, .int .u8 0, .int .u8 0, .int .u8 0, .int .u8 0, .int .u8 0, .int .u8 0, .int .u8 0, .int .u8 0, .int .u8 0, .int .u8 0, .int .u8 0] 28)).alloc (.cells #[.int .u8 2, .int .u8 0, .int .u8 0, .int .u8 0, .int .u8 0, .int .u8 0, .int .u8 0, .int .u8 0, .int .u8 0, .int .u8 0, .int .u8 0, .int .u8 0, .int .u8 0, .int .u8 0, .int .u8 0, .int .u8 0] 28)).alloc (.cells #[.int .u8 3, .int .u8 0, .int .u8 0, .int .u8 0, .int .u8 0, .int .u8 0, .int .u8 0, .int .u8 0, .int .u8 0, .int .u8 0, .int .u8 0, .int .u8 0, .int .u8 0, .int .u8 0, .int .u8 0, .int .u8 0] 28) = W3 := hW3
  rw [hW4]
  clear hW3 hW4
  obtain ⟨l1, hl1⟩ : ∃ l1, leafD (k8 1) = l1 := ⟨_, rfl⟩
  obtain ⟨l2, hl2⟩ : ∃ l2, leafD (k8 2) = l2 := ⟨_, rfl⟩
  obtain ⟨l3, hl3⟩ : ∃ l3, leafD (k8 3) = l3 := ⟨_, rfl⟩
  obtain ⟨dl, hdl⟩ : ∃ dl, nodeD l1 l2 = dl := ⟨_, rfl⟩
  have HL1 := hid (show l1.length = 16 by rw [← hl1]; exact leafD_length _)
  have HL2 := hid (show l2.length = 16 by rw [← hl2]; exact leafD_length _)
  have HL3 := hid (show l3.length = 16 by rw [← hl3]; exact leafD_length _)
  have HDL16 := hid (show dl.length = 16 by rw [← hdl]; exact nodeD_length _ _)
  have HDL := hid (show digest 2 [l1, l2] = dl from hdl)
  have HO1 := hid (fun W hT => one_any (k8 1) rfl W hT)
  have HO2 := hid (fun W hT => one_any (k8 2) rfl W hT)
  have HO3 := hid (fun W hT => one_any (k8 3) rfl W hT)
  rw [hl1] at HO1
  rw [hl2] at HO2
  rw [hl3] at HO3
  have HDN := hid hdl
  have HE1 := hid hl1; have HE2 := hid hl2; have HE3 := hid hl3
  clear hl1 hl2 hl3 hdl
  go_cut [4] (fun u wx => ∃ B, u = .pointer (some ⟨B, 0, none⟩) ∧ W3.heap.size ≤ B ∧ B < wx.heap.size ∧ wx.rangeAt B 0 (dl.map u8) ∧ Below W3.heap.size W3 wx)
  case first =>
    go_wp2_with fail
    refine wp_region_noPanic ?_
    refine wp_region_held_drew (S := fun W => Below W3.heap.size W3 W) (by kernel_rfl) ((Below.refl _ _).drew) (fun hH => ?_)
    refine wpAnyH_take (i := 0) rfl (by kernel_rfl) (by kernel_rfl) (by kernel_rfl) (fun _ _ _ h => h) (yieldsIf_load_mid (by rfl) _ _ rfl w.heap.size 0 rfl ((k8 1).map u8) _ (fun w h => range_keep HA.out h (by omega)) under28 rfl (info16 _ rfl)) hH ?_
    simp only [List.getElem_toArray, List.getElem_cons_zero, Act.put, List.setIfInBounds_toArray, List.set_cons_zero, List.set_cons_succ]
    refine wpAnyH_take (i := 2) rfl (by kernel_rfl) (by kernel_rfl) (by kernel_rfl) (fun _ _ _ h => h) (yieldsIf_load_mid (by rfl) _ _ rfl (w.heap.size + 1) 0 rfl ((k8 2).map u8) _ (fun w h => range_keep HB.out h (by omega)) under28 rfl (info16 _ rfl)) hH ?_
    simp only [List.getElem_toArray, List.getElem_cons_succ, List.getElem_cons_zero, Act.put, List.setIfInBounds_toArray, List.set_cons_zero, List.set_cons_succ]
    refine wpAnyH_ready (rs := [1, 6]) (by kernel_rfl) (by simp) ?_
    refine AllReadyH.cons rfl (fun K hK => ?_) (AllReadyH.cons rfl (fun K hK => ?_) AllReadyH.nil)
    · simp only [List.getElem_toArray, List.getElem_cons_succ, List.getElem_cons_zero]
      go_simp
      refine (HO1.out _ (HT3.out.keep hH)).mono ?_
      rintro e x2_1 ⟨⟨g1, rfl, hg1, hg2, hgr⟩, hb5⟩
      have HG1 := hid (And.intro hgr hg2)
      have HBS := hid hb5
      clear hgr hg1 hg2 hb5
      go_wp2_with fail
      refine hK.out _ _ ?_ (fun hH => ?_)
      · exact hH.trans (HBS.out.mono hH.size)
      clear hK K
      try simp only [Act.put, List.setIfInBounds_toArray, List.set_cons_zero, List.set_cons_succ]
      refine wpAnyH_ready (rs := [3, 6]) (by kernel_rfl) (by simp) ?_
      refine AllReadyH.cons rfl (fun K hK => ?_) (AllReadyH.cons rfl (fun K hK => ?_) AllReadyH.nil)
      · simp only [List.getElem_toArray, List.getElem_cons_succ, List.getElem_cons_zero]
        go_simp
        refine (HO2.out _ (HT3.out.keep hH)).mono ?_
        rintro e x3_3 ⟨⟨g2, rfl, hg1, hg2, hgr⟩, hb5⟩
        have HG1 := hid (keepR HG1.out hb5)
        have HG2 := hid (And.intro hgr hg2)
        have HBS := hid hb5
        clear hgr hg1 hg2 hb5
        go_wp2_with fail
        refine hK.out _ _ ?_ (fun hH => ?_)
        · exact hH.trans (HBS.out.mono hH.size)
        clear hK K
        try simp only [Act.put, List.setIfInBounds_toArray, List.set_cons_zero, List.set_cons_succ]
        refine wpAnyH_ready (rs := [4, 6]) (by kernel_rfl) (by simp) ?_
        refine AllReadyH.cons rfl (fun K hK => ?_) (AllReadyH.cons rfl (fun K hK => ?_) AllReadyH.nil)
        · simp only [List.getElem_toArray, List.getElem_cons_succ, List.getElem_cons_zero]
          obtain ⟨p4, hp4⟩ : ∃ p4, x3_3.heap.size = p4 := ⟨_, rfl⟩
          have HPT := hid (two_parts x3_3 g1 g2 l1 l2 58 HL1.out HL2.out HG1.out HG2.out)
          rw [hp4] at HPT
          have hb5 := below_alloc x3_3 (.cells #[.slice (some ⟨g1, 0, none⟩) 16 16, .slice (some ⟨g2, 0, none⟩) 16 16] 58)
          have HG1 := hid (keepR HG1.out hb5)
          have HG2 := hid (keepR HG2.out hb5)
          clear hb5
          go_simp
          try rw [hp4]
          refine hK.out _ _ ?_ (fun hH => ?_)
          · exact hH.alloc hH.size _
          clear hK K
          try simp only [Act.put, List.setIfInBounds_toArray, List.set_cons_zero, List.set_cons_succ]
          refine wpAnyH_ready (rs := [5, 6]) (by kernel_rfl) (by simp) ?_
          refine AllReadyH.cons rfl (fun K hK => ?_) (AllReadyH.cons rfl (fun K hK => ?_) AllReadyH.nil)
          · simp only [List.getElem_toArray, List.getElem_cons_succ, List.getElem_cons_zero]
            go_simp
            refine (digest_2 (some ⟨p4, 0, none⟩) 2 2 [l1, l2] _ (HT3.out.keep hH) rfl HPT.out (by simp [HL1.out, HL2.out]) (by simp)).mono ?_
            rw [HDL.out]
            rintro e y5 ⟨rfl, hb5⟩
            have HG1 := hid (keepR HG1.out hb5)
            have HG2 := hid (keepR HG2.out hb5)
            have HBS := hid hb5
            clear hb5
            go_wp2_with fail
            refine hK.out _ _ ?_ (fun hH => ?_)
            · exact hH.trans (HBS.out.mono hH.size)
            clear hK K
            try simp only [Act.put, List.setIfInBounds_toArray, List.set_cons_zero, List.set_cons_succ]
            refine wpAnyH_ready (rs := [6]) (by kernel_rfl) (by simp) ?_
            refine AllReadyH.cons rfl (fun K hK => ?_) AllReadyH.nil
            simp only [List.getElem_toArray, List.getElem_cons_succ, List.getElem_cons_zero]
            obtain ⟨q, hq⟩ : ∃ q, y5.heap.size = q := ⟨_, rfl⟩
            have HTH := hid (show (y5.alloc (.cells #[.int .u8 0, .int .u8 0, .int .u8 0, .int .u8 0, .int .u8 0, .int .u8 0, .int .u8 0, .int .u8 0, .int .u8 0, .int .u8 0, .int .u8 0, .int .u8 0, .int .u8 0, .int .u8 0, .int .u8 0, .int .u8 0] 28)).there q 0 16 ∧ q < (y5.alloc (.cells #[.int .u8 0, .int .u8 0, .int .u8 0, .int .u8 0, .int .u8 0, .int .u8 0, .int .u8 0, .int .u8 0, .int .u8 0, .int .u8 0, .int .u8 0, .int .u8 0, .int .u8 0, .int .u8 0, .int .u8 0, .int .u8 0] 28)).heap.size by rw [← hq]; exact ⟨alloc_there y5 #[.int .u8 0, .int .u8 0, .int .u8 0, .int .u8 0, .int .u8 0, .int .u8 0, .int .u8 0, .int .u8 0, .int .u8 0, .int .u8 0, .int .u8 0, .int .u8 0, .int .u8 0, .int .u8 0, .int .u8 0, .int .u8 0] 28 16 rfl, by simp⟩)
            have HNL := hid (show W3.heap.size ≤ q by rw [← hq]; exact hH.size)
            have hb5 := below_alloc y5 (.cells #[.int .u8 0, .int .u8 0, .int .u8 0, .int .u8 0, .int .u8 0, .int .u8 0, .int .u8 0, .int .u8 0, .int .u8 0, .int .u8 0, .int .u8 0, .int .u8 0, .int .u8 0, .int .u8 0, .int .u8 0, .int .u8 0] 28)
            have HG1 := hid (keepR HG1.out hb5)
            have HG2 := hid (keepR HG2.out hb5)
            clear hb5
            go_simp
            refine hK.out _ _ ?_ (fun hH => ?_)
            · exact hH.alloc hH.size _
            clear hK K
            try simp only [Act.put, List.setIfInBounds_toArray, List.set_cons_zero, List.set_cons_succ]
            refine wpAnyH_ready (rs := [7]) (by kernel_rfl) (by simp) ?_
            refine AllReadyH.cons rfl (fun K hK => ?_) AllReadyH.nil
            simp only [List.getElem_toArray, List.getElem_cons_succ, List.getElem_cons_zero]
            rw [if_pos (by rfl)]
            refine wp_store_mid _ _ _ rfl q 0 _ rfl rfl (there16 HTH.out.1 dl HDL16.out) (info16a dl HDL16.out) (all_u8 dl) ?_
            refine hK.out _ _ ?_ (fun hH => ?_)
            · exact below_setCells HNL.out _ _ _ hH
            clear hK K
            try simp only [Act.put]
            refine wpAnyH_done (by kernel_rfl) ?_ _
            refine NoPanic.normal ?_
            go_wp2_with fail
            go_meet
            case rel => exact ⟨q, by first | rfl | (rw [hq]), HNL.out, by rw [size_setCells]; exact HTH.out.2, World.rangeAt_setCells_same _ _ _ _ (there16 HTH.out.1 dl HDL16.out), hH⟩
          · simp only [List.getElem_toArray, List.getElem_cons_succ, List.getElem_cons_zero]
            obtain ⟨q, hq⟩ : ∃ q, (x3_3.alloc (.cells #[.slice (some ⟨g1, 0, none⟩) 16 16, .slice (some ⟨g2, 0, none⟩) 16 16] 58)).heap.size = q := ⟨_, rfl⟩
            have HTH := hid (show ((x3_3.alloc (.cells #[.slice (some ⟨g1, 0, none⟩) 16 16, .slice (some ⟨g2, 0, none⟩) 16 16] 58)).alloc (.cells #[.int .u8 0, .int .u8 0, .int .u8 0, .int .u8 0, .int .u8 0, .int .u8 0, .int .u8 0, .int .u8 0, .int .u8 0, .int .u8 0, .int .u8 0, .int .u8 0, .int .u8 0, .int .u8 0, .int .u8 0, .int .u8 0] 28)).there q 0 16 ∧ q < ((x3_3.alloc (.cells #[.slice (some ⟨g1, 0, none⟩) 16 16, .slice (some ⟨g2, 0, none⟩) 16 16] 58)).alloc (.cells #[.int .u8 0, .int .u8 0, .int .u8 0, .int .u8 0, .int .u8 0, .int .u8 0, .int .u8 0, .int .u8 0, .int .u8 0, .int .u8 0, .int .u8 0, .int .u8 0, .int .u8 0, .int .u8 0, .int .u8 0, .int .u8 0] 28)).heap.size by rw [← hq]; exact ⟨alloc_there (x3_3.alloc (.cells #[.slice (some ⟨g1, 0, none⟩) 16 16, .slice (some ⟨g2, 0, none⟩) 16 16] 58)) #[.int .u8 0, .int .u8 0, .int .u8 0, .int .u8 0, .int .u8 0, .int .u8 0, .int .u8 0, .int .u8 0, .int .u8 0, .int .u8 0, .int .u8 0, .int .u8 0, .int .u8 0, .int .u8 0, .int .u8 0, .int .u8 0] 28 16 rfl, by simp⟩)
            have HNL := hid (show W3.heap.size ≤ q by rw [← hq]; exact hH.size)
            have hb5 := below_alloc (x3_3.alloc (.cells #[.slice (some ⟨g1, 0, none⟩) 16 16, .slice (some ⟨g2, 0, none⟩) 16 16] 58)) (.cells #[.int .u8 0, .int .u8 0, .int .u8 0, .int .u8 0, .int .u8 0, .int .u8 0, .int .u8 0, .int .u8 0, .int .u8 0, .int .u8 0, .int .u8 0, .int .u8 0, .int .u8 0, .int .u8 0, .int .u8 0, .int .u8 0] 28)
            have HG1 := hid (keepR HG1.out hb5)
            have HG2 := hid (keepR HG2.out hb5)
            have HPT := hid (keepP HPT.out hb5)
            clear hb5
            go_simp
            refine hK.out _ _ ?_ (fun hH => ?_)
            · exact hH.alloc hH.size _
            clear hK K
            try simp only [Act.put, List.setIfInBounds_toArray, List.set_cons_zero, List.set_cons_succ]
            refine wpAnyH_ready (rs := [5]) (by kernel_rfl) (by simp) ?_
            refine AllReadyH.cons rfl (fun K hK => ?_) AllReadyH.nil
            simp only [List.getElem_toArray, List.getElem_cons_succ, List.getElem_cons_zero]
            go_simp
            refine (digest_2 (some ⟨p4, 0, none⟩) 2 2 [l1, l2] _ (HT3.out.keep hH) rfl HPT.out (by simp [HL1.out, HL2.out]) (by simp)).mono ?_
            rw [HDL.out]
            rintro e y6 ⟨rfl, hb5⟩
            have HG1 := hid (keepR HG1.out hb5)
            have HG2 := hid (keepR HG2.out hb5)
            have HTH := hid (keepT HTH.out hb5)
            have HBS := hid hb5
            clear hb5
            go_wp2_with fail
            refine hK.out _ _ ?_ (fun hH => ?_)
            · exact hH.trans (HBS.out.mono hH.size)
            clear hK K
            try simp only [Act.put, List.setIfInBounds_toArray, List.set_cons_zero, List.set_cons_succ]
            refine wpAnyH_ready (rs := [7]) (by kernel_rfl) (by simp) ?_
            refine AllReadyH.cons rfl (fun K hK => ?_) AllReadyH.nil
            simp only [List.getElem_toArray, List.getElem_cons_succ, List.getElem_cons_zero]
            rw [if_pos (by rfl)]
            refine wp_store_mid _ _ _ rfl q 0 _ rfl rfl (there16 HTH.out.1 dl HDL16.out) (info16a dl HDL16.out) (all_u8 dl) ?_
            refine hK.out _ _ ?_ (fun hH => ?_)
            · exact below_setCells HNL.out _ _ _ hH
            clear hK K
            try simp only [Act.put]
            refine wpAnyH_done (by kernel_rfl) ?_ _
            refine NoPanic.normal ?_
            go_wp2_with fail
            go_meet
            case rel => exact ⟨q, by first | rfl | (rw [hq]), HNL.out, by rw [size_setCells]; exact HTH.out.2, World.rangeAt_setCells_same _ _ _ _ (there16 HTH.out.1 dl HDL16.out), hH⟩
        · simp only [List.getElem_toArray, List.getElem_cons_succ, List.getElem_cons_zero]
          obtain ⟨q, hq⟩ : ∃ q, x3_3.heap.size = q := ⟨_, rfl⟩
          have HTH := hid (show (x3_3.alloc (.cells #[.int .u8 0, .int .u8 0, .int .u8 0, .int .u8 0, .int .u8 0, .int .u8 0, .int .u8 0, .int .u8 0, .int .u8 0, .int .u8 0, .int .u8 0, .int .u8 0, .int .u8 0, .int .u8 0, .int .u8 0, .int .u8 0] 28)).there q 0 16 ∧ q < (x3_3.alloc (.cells #[.int .u8 0, .int .u8 0, .int .u8 0, .int .u8 0, .int .u8 0, .int .u8 0, .int .u8 0, .int .u8 0, .int .u8 0, .int .u8 0, .int .u8 0, .int .u8 0, .int .u8 0, .int .u8 0, .int .u8 0, .int .u8 0] 28)).heap.size by rw [← hq]; exact ⟨alloc_there x3_3 #[.int .u8 0, .int .u8 0, .int .u8 0, .int .u8 0, .int .u8 0, .int .u8 0, .int .u8 0, .int .u8 0, .int .u8 0, .int .u8 0, .int .u8 0, .int .u8 0, .int .u8 0, .int .u8 0, .int .u8 0, .int .u8 0] 28 16 rfl, by simp⟩)
          have HNL := hid (show W3.heap.size ≤ q by rw [← hq]; exact hH.size)
          have hb5 := below_alloc x3_3 (.cells #[.int .u8 0, .int .u8 0, .int .u8 0, .int .u8 0, .int .u8 0, .int .u8 0, .int .u8 0, .int .u8 0, .int .u8 0, .int .u8 0, .int .u8 0, .int .u8 0, .int .u8 0, .int .u8 0, .int .u8 0, .int .u8 0] 28)
          have HG1 := hid (keepR HG1.out hb5)
          have HG2 := hid (keepR HG2.out hb5)
          clear hb5
          go_simp
          refine hK.out _ _ ?_ (fun hH => ?_)
          · exact hH.alloc hH.size _
          clear hK K
          try simp only [Act.put, List.setIfInBounds_toArray, List.set_cons_zero, List.set_cons_succ]
          refine wpAnyH_ready (rs := [4]) (by kernel_rfl) (by simp) ?_
          refine AllReadyH.cons rfl (fun K hK => ?_) AllReadyH.nil
          simp only [List.getElem_toArray, List.getElem_cons_succ, List.getElem_cons_zero]
          obtain ⟨p5, hp5⟩ : ∃ p5, (x3_3.alloc (.cells #[.int .u8 0, .int .u8 0, .int .u8 0, .int .u8 0, .int .u8 0, .int .u8 0, .int .u8 0, .int .u8 0, .int .u8 0, .int .u8 0, .int .u8 0, .int .u8 0, .int .u8 0, .int .u8 0, .int .u8 0, .int .u8 0] 28)).heap.size = p5 := ⟨_, rfl⟩
          have HPT := hid (two_parts (x3_3.alloc (.cells #[.int .u8 0, .int .u8 0, .int .u8 0, .int .u8 0, .int .u8 0, .int .u8 0, .int .u8 0, .int .u8 0, .int .u8 0, .int .u8 0, .int .u8 0, .int .u8 0, .int .u8 0, .int .u8 0, .int .u8 0, .int .u8 0] 28)) g1 g2 l1 l2 58 HL1.out HL2.out HG1.out HG2.out)
          rw [hp5] at HPT
          have hb5 := below_alloc (x3_3.alloc (.cells #[.int .u8 0, .int .u8 0, .int .u8 0, .int .u8 0, .int .u8 0, .int .u8 0, .int .u8 0, .int .u8 0, .int .u8 0, .int .u8 0, .int .u8 0, .int .u8 0, .int .u8 0, .int .u8 0, .int .u8 0, .int .u8 0] 28)) (.cells #[.slice (some ⟨g1, 0, none⟩) 16 16, .slice (some ⟨g2, 0, none⟩) 16 16] 58)
          have HG1 := hid (keepR HG1.out hb5)
          have HG2 := hid (keepR HG2.out hb5)
          have HTH := hid (keepT HTH.out hb5)
          clear hb5
          go_simp
          try rw [hp5]
          refine hK.out _ _ ?_ (fun hH => ?_)
          · exact hH.alloc hH.size _
          clear hK K
          try simp only [Act.put, List.setIfInBounds_toArray, List.set_cons_zero, List.set_cons_succ]
          refine wpAnyH_ready (rs := [5]) (by kernel_rfl) (by simp) ?_
          refine AllReadyH.cons rfl (fun K hK => ?_) AllReadyH.nil
          simp only [List.getElem_toArray, List.getElem_cons_succ, List.getElem_cons_zero]
          go_simp
          refine (digest_2 (some ⟨p5, 0, none⟩) 2 2 [l1, l2] _ (HT3.out.keep hH) rfl HPT.out (by simp [HL1.out, HL2.out]) (by simp)).mono ?_
          rw [HDL.out]
          rintro e y6 ⟨rfl, hb5⟩
          have HG1 := hid (keepR HG1.out hb5)
          have HG2 := hid (keepR HG2.out hb5)
          have HTH := hid (keepT HTH.out hb5)
          have HBS := hid hb5
          clear hb5
          go_wp2_with fail
          refine hK.out _ _ ?_ (fun hH => ?_)
          · exact hH.trans (HBS.out.mono hH.size)
          clear hK K
          try simp only [Act.put, List.setIfInBounds_toArray, List.set_cons_zero, List.set_cons_succ]
          refine wpAnyH_ready (rs := [7]) (by kernel_rfl) (by simp) ?_
          refine AllReadyH.cons rfl (fun K hK => ?_) AllReadyH.nil
          simp only [List.getElem_toArray, List.getElem_cons_succ, List.getElem_cons_zero]
          rw [if_pos (by rfl)]
          refine wp_store_mid _ _ _ rfl q 0 _ rfl rfl (there16 HTH.out.1 dl HDL16.out) (info16a dl HDL16.out) (all_u8 dl) ?_
          refine hK.out _ _ ?_ (fun hH => ?_)
          · exact below_setCells HNL.out _ _ _ hH
          clear hK K
          try simp only [Act.put]
          refine wpAnyH_done (by kernel_rfl) ?_ _
          refine NoPanic.normal ?_
          go_wp2_with fail
          go_meet
          case rel => exact ⟨q, by first | rfl | (rw [hq]), HNL.out, by rw [size_setCells]; exact HTH.out.2, World.rangeAt_setCells_same _ _ _ _ (there16 HTH.out.1 dl HDL16.out), hH⟩
      · simp only [List.getElem_toArray, List.getElem_cons_succ, List.getElem_cons_zero]
        obtain ⟨q, hq⟩ : ∃ q, x2_1.heap.size = q := ⟨_, rfl⟩
        have HTH := hid (show (x2_1.alloc (.cells #[.int .u8 0, .int .u8 0, .int .u8 0, .int .u8 0, .int .u8 0, .int .u8 0, .int .u8 0, .int .u8 0, .int .u8 0, .int .u8 0, .int .u8 0, .int .u8 0, .int .u8 0, .int .u8 0, .int .u8 0, .int .u8 0] 28)).there q 0 16 ∧ q < (x2_1.alloc (.cells #[.int .u8 0, .int .u8 0, .int .u8 0, .int .u8 0, .int .u8 0, .int .u8 0, .int .u8 0, .int .u8 0, .int .u8 0, .int .u8 0, .int .u8 0, .int .u8 0, .int .u8 0, .int .u8 0, .int .u8 0, .int .u8 0] 28)).heap.size by rw [← hq]; exact ⟨alloc_there x2_1 #[.int .u8 0, .int .u8 0, .int .u8 0, .int .u8 0, .int .u8 0, .int .u8 0, .int .u8 0, .int .u8 0, .int .u8 0, .int .u8 0, .int .u8 0, .int .u8 0, .int .u8 0, .int .u8 0, .int .u8 0, .int .u8 0] 28 16 rfl, by simp⟩)
        have HNL := hid (show W3.heap.size ≤ q by rw [← hq]; exact hH.size)
        have hb5 := below_alloc x2_1 (.cells #[.int .u8 0, .int .u8 0, .int .u8 0, .int .u8 0, .int .u8 0, .int .u8 0, .int .u8 0, .int .u8 0, .int .u8 0, .int .u8 0, .int .u8 0, .int .u8 0, .int .u8 0, .int .u8 0, .int .u8 0, .int .u8 0] 28)
        have HG1 := hid (keepR HG1.out hb5)
        clear hb5
        go_simp
        refine hK.out _ _ ?_ (fun hH => ?_)
        · exact hH.alloc hH.size _
        clear hK K
        try simp only [Act.put, List.setIfInBounds_toArray, List.set_cons_zero, List.set_cons_succ]
        refine wpAnyH_ready (rs := [3]) (by kernel_rfl) (by simp) ?_
        refine AllReadyH.cons rfl (fun K hK => ?_) AllReadyH.nil
        simp only [List.getElem_toArray, List.getElem_cons_succ, List.getElem_cons_zero]
        go_simp
        refine (HO2.out _ (HT3.out.keep hH)).mono ?_
        rintro e x4_3 ⟨⟨g2, rfl, hg1, hg2, hgr⟩, hb5⟩
        have HG1 := hid (keepR HG1.out hb5)
        have HTH := hid (keepT HTH.out hb5)
        have HG2 := hid (And.intro hgr hg2)
        have HBS := hid hb5
        clear hgr hg1 hg2 hb5
        go_wp2_with fail
        refine hK.out _ _ ?_ (fun hH => ?_)
        · exact hH.trans (HBS.out.mono hH.size)
        clear hK K
        try simp only [Act.put, List.setIfInBounds_toArray, List.set_cons_zero, List.set_cons_succ]
        refine wpAnyH_ready (rs := [4]) (by kernel_rfl) (by simp) ?_
        refine AllReadyH.cons rfl (fun K hK => ?_) AllReadyH.nil
        simp only [List.getElem_toArray, List.getElem_cons_succ, List.getElem_cons_zero]
        obtain ⟨p5, hp5⟩ : ∃ p5, x4_3.heap.size = p5 := ⟨_, rfl⟩
        have HPT := hid (two_parts x4_3 g1 g2 l1 l2 58 HL1.out HL2.out HG1.out HG2.out)
        rw [hp5] at HPT
        have hb5 := below_alloc x4_3 (.cells #[.slice (some ⟨g1, 0, none⟩) 16 16, .slice (some ⟨g2, 0, none⟩) 16 16] 58)
        have HG1 := hid (keepR HG1.out hb5)
        have HG2 := hid (keepR HG2.out hb5)
        have HTH := hid (keepT HTH.out hb5)
        clear hb5
        go_simp
        try rw [hp5]
        refine hK.out _ _ ?_ (fun hH => ?_)
        · exact hH.alloc hH.size _
        clear hK K
        try simp only [Act.put, List.setIfInBounds_toArray, List.set_cons_zero, List.set_cons_succ]
        refine wpAnyH_ready (rs := [5]) (by kernel_rfl) (by simp) ?_
        refine AllReadyH.cons rfl (fun K hK => ?_) AllReadyH.nil
        simp only [List.getElem_toArray, List.getElem_cons_succ, List.getElem_cons_zero]
        go_simp
        refine (digest_2 (some ⟨p5, 0, none⟩) 2 2 [l1, l2] _ (HT3.out.keep hH) rfl HPT.out (by simp [HL1.out, HL2.out]) (by simp)).mono ?_
        rw [HDL.out]
        rintro e y6 ⟨rfl, hb5⟩
        have HG1 := hid (keepR HG1.out hb5)
        have HG2 := hid (keepR HG2.out hb5)
        have HTH := hid (keepT HTH.out hb5)
        have HBS := hid hb5
        clear hb5
        go_wp2_with fail
        refine hK.out _ _ ?_ (fun hH => ?_)
        · exact hH.trans (HBS.out.mono hH.size)
        clear hK K
        try simp only [Act.put, List.setIfInBounds_toArray, List.set_cons_zero, List.set_cons_succ]
        refine wpAnyH_ready (rs := [7]) (by kernel_rfl) (by simp) ?_
        refine AllReadyH.cons rfl (fun K hK => ?_) AllReadyH.nil
        simp only [List.getElem_toArray, List.getElem_cons_succ, List.getElem_cons_zero]
        rw [if_pos (by rfl)]
        refine wp_store_mid _ _ _ rfl q 0 _ rfl rfl (there16 HTH.out.1 dl HDL16.out) (info16a dl HDL16.out) (all_u8 dl) ?_
        refine hK.out _ _ ?_ (fun hH => ?_)
        · exact below_setCells HNL.out _ _ _ hH
        clear hK K
        try simp only [Act.put]
        refine wpAnyH_done (by kernel_rfl) ?_ _
        refine NoPanic.normal ?_
        go_wp2_with fail
        go_meet
        case rel => exact ⟨q, by first | rfl | (rw [hq]), HNL.out, by rw [size_setCells]; exact HTH.out.2, World.rangeAt_setCells_same _ _ _ _ (there16 HTH.out.1 dl HDL16.out), hH⟩
    · simp only [List.getElem_toArray, List.getElem_cons_succ, List.getElem_cons_zero]
      obtain ⟨q, hq⟩ : ∃ q, W3.drew.heap.size = q := ⟨_, rfl⟩
      have HTH := hid (show (W3.drew.alloc (.cells #[.int .u8 0, .int .u8 0, .int .u8 0, .int .u8 0, .int .u8 0, .int .u8 0, .int .u8 0, .int .u8 0, .int .u8 0, .int .u8 0, .int .u8 0, .int .u8 0, .int .u8 0, .int .u8 0, .int .u8 0, .int .u8 0] 28)).there q 0 16 ∧ q < (W3.drew.alloc (.cells #[.int .u8 0, .int .u8 0, .int .u8 0, .int .u8 0, .int .u8 0, .int .u8 0, .int .u8 0, .int .u8 0, .int .u8 0, .int .u8 0, .int .u8 0, .int .u8 0, .int .u8 0, .int .u8 0, .int .u8 0, .int .u8 0] 28)).heap.size by rw [← hq]; exact ⟨alloc_there W3.drew #[.int .u8 0, .int .u8 0, .int .u8 0, .int .u8 0, .int .u8 0, .int .u8 0, .int .u8 0, .int .u8 0, .int .u8 0, .int .u8 0, .int .u8 0, .int .u8 0, .int .u8 0, .int .u8 0, .int .u8 0, .int .u8 0] 28 16 rfl, by simp⟩)
      have HNL := hid (show W3.heap.size ≤ q by rw [← hq]; exact hH.size)
      have hb5 := below_alloc W3.drew (.cells #[.int .u8 0, .int .u8 0, .int .u8 0, .int .u8 0, .int .u8 0, .int .u8 0, .int .u8 0, .int .u8 0, .int .u8 0, .int .u8 0, .int .u8 0, .int .u8 0, .int .u8 0, .int .u8 0, .int .u8 0, .int .u8 0] 28)
      clear hb5
      go_simp
      refine hK.out _ _ ?_ (fun hH => ?_)
      · exact hH.alloc hH.size _
      clear hK K
      try simp only [Act.put, List.setIfInBounds_toArray, List.set_cons_zero, List.set_cons_succ]
      refine wpAnyH_ready (rs := [1]) (by kernel_rfl) (by simp) ?_
      refine AllReadyH.cons rfl (fun K hK => ?_) AllReadyH.nil
      simp only [List.getElem_toArray, List.getElem_cons_succ, List.getElem_cons_zero]
      go_simp
      refine (HO1.out _ (HT3.out.keep hH)).mono ?_
      rintro e x3_1 ⟨⟨g1, rfl, hg1, hg2, hgr⟩, hb5⟩
      have HTH := hid (keepT HTH.out hb5)
      have HG1 := hid (And.intro hgr hg2)
      have HBS := hid hb5
      clear hgr hg1 hg2 hb5
      go_wp2_with fail
      refine hK.out _ _ ?_ (fun hH => ?_)
      · exact hH.trans (HBS.out.mono hH.size)
      clear hK K
      try simp only [Act.put, List.setIfInBounds_toArray, List.set_cons_zero, List.set_cons_succ]
      refine wpAnyH_ready (rs := [3]) (by kernel_rfl) (by simp) ?_
      refine AllReadyH.cons rfl (fun K hK => ?_) AllReadyH.nil
      simp only [List.getElem_toArray, List.getElem_cons_succ, List.getElem_cons_zero]
      go_simp
      refine (HO2.out _ (HT3.out.keep hH)).mono ?_
      rintro e x4_3 ⟨⟨g2, rfl, hg1, hg2, hgr⟩, hb5⟩
      have HG1 := hid (keepR HG1.out hb5)
      have HTH := hid (keepT HTH.out hb5)
      have HG2 := hid (And.intro hgr hg2)
      have HBS := hid hb5
      clear hgr hg1 hg2 hb5
      go_wp2_with fail
      refine hK.out _ _ ?_ (fun hH => ?_)
      · exact hH.trans (HBS.out.mono hH.size)
      clear hK K
      try simp only [Act.put, List.setIfInBounds_toArray, List.set_cons_zero, List.set_cons_succ]
      refine wpAnyH_ready (rs := [4]) (by kernel_rfl) (by simp) ?_
      refine AllReadyH.cons rfl (fun K hK => ?_) AllReadyH.nil
      simp only [List.getElem_toArray, List.getElem_cons_succ, List.getElem_cons_zero]
      obtain ⟨p5, hp5⟩ : ∃ p5, x4_3.heap.size = p5 := ⟨_, rfl⟩
      have HPT := hid (two_parts x4_3 g1 g2 l1 l2 58 HL1.out HL2.out HG1.out HG2.out)
      rw [hp5] at HPT
      have hb5 := below_alloc x4_3 (.cells #[.slice (some ⟨g1, 0, none⟩) 16 16, .slice (some ⟨g2, 0, none⟩) 16 16] 58)
      have HG1 := hid (keepR HG1.out hb5)
      have HG2 := hid (keepR HG2.out hb5)
      have HTH := hid (keepT HTH.out hb5)
      clear hb5
      go_simp
      try rw [hp5]
      refine hK.out _ _ ?_ (fun hH => ?_)
      · exact hH.alloc hH.size _
      clear hK K
      try simp only [Act.put, List.setIfInBounds_toArray, List.set_cons_zero, List.set_cons_succ]
      refine wpAnyH_ready (rs := [5]) (by kernel_rfl) (by simp) ?_
      refine AllReadyH.cons rfl (fun K hK => ?_) AllReadyH.nil
      simp only [List.getElem_toArray, List.getElem_cons_succ, List.getElem_cons_zero]
      go_simp
      refine (digest_2 (some ⟨p5, 0, none⟩) 2 2 [l1, l2] _ (HT3.out.keep hH) rfl HPT.out (by simp [HL1.out, HL2.out]) (by simp)).mono ?_
      rw [HDL.out]
      rintro e y6 ⟨rfl, hb5⟩
      have HG1 := hid (keepR HG1.out hb5)
      have HG2 := hid (keepR HG2.out hb5)
      have HTH := hid (keepT HTH.out hb5)
      have HBS := hid hb5
      clear hb5
      go_wp2_with fail
      refine hK.out _ _ ?_ (fun hH => ?_)
      · exact hH.trans (HBS.out.mono hH.size)
      clear hK K
      try simp only [Act.put, List.setIfInBounds_toArray, List.set_cons_zero, List.set_cons_succ]
      refine wpAnyH_ready (rs := [7]) (by kernel_rfl) (by simp) ?_
      refine AllReadyH.cons rfl (fun K hK => ?_) AllReadyH.nil
      simp only [List.getElem_toArray, List.getElem_cons_succ, List.getElem_cons_zero]
      rw [if_pos (by rfl)]
      refine wp_store_mid _ _ _ rfl q 0 _ rfl rfl (there16 HTH.out.1 dl HDL16.out) (info16a dl HDL16.out) (all_u8 dl) ?_
      refine hK.out _ _ ?_ (fun hH => ?_)
      · exact below_setCells HNL.out _ _ _ hH
      clear hK K
      try simp only [Act.put]
      refine wpAnyH_done (by kernel_rfl) ?_ _
      refine NoPanic.normal ?_
      go_wp2_with fail
      go_meet
      case rel => exact ⟨q, by first | rfl | (rw [hq]), HNL.out, by rw [size_setCells]; exact HTH.out.2, World.rangeAt_setCells_same _ _ _ _ (there16 HTH.out.1 dl HDL16.out), hH⟩
  case rest =>
    rename World => W4
    obtain ⟨B, rfl, hB1, hB2, hB3, hBW⟩ := hcut
    have HGB := hid (And.intro hB3 hB2)
    have HW4 := hid hBW
    have HNB := hid hB1
    have HC4 := hid (range_keep HC.out hBW (by omega))
    have HT4 := hid (HT3.out.keep hBW)
    have hz4 : w.heap.size + 3 ≤ W4.heap.size := by have := hBW.size; omega
    obtain ⟨rl, hrl⟩ : ∃ rl, nodeD dl l3 = rl := ⟨_, rfl⟩
    have HRL16 := hid (show rl.length = 16 by rw [← hrl]; exact nodeD_length _ _)
    have HRD := hid (show digest 2 [dl, l3] = rl from hrl)
    have HRN := hid hrl
    clear hB1 hB2 hB3 hBW hrl
    go_upto_region 5 with (fail)
    go_cut [5] (fun u wx => ∃ R, u = .pointer (some ⟨R, 0, none⟩) ∧ W4.heap.size ≤ R ∧ R < wx.heap.size ∧ wx.rangeAt R 0 (rl.map u8) ∧ Below W4.heap.size W4 wx)
    case first =>
      go_wp2_with fail
      refine wp_region_noPanic ?_
      refine wp_region_held_drew (S := fun W => Below W4.heap.size W4 W) (by kernel_rfl) ((Below.refl _ _).drew) (fun hH => ?_)
      have HGB := hid (show W4.drew.rangeAt B 0 (dl.map u8) ∧ B < W4.drew.heap.size from HGB.out)
      refine wpAnyH_take (i := 0) (v := ?_) rfl (by kernel_rfl) (by kernel_rfl) (by kernel_rfl) (fun _ _ _ h => h) (Or.inl ⟨by rfl, ?_⟩) hH ?_
      rotate_left
      · (intro w hSw; simp only [List.getElem_toArray, List.getElem_cons_zero]; first | (go_simp; done) | (go_simp; with_reducible rfl))
      simp only [List.getElem_toArray, List.getElem_cons_zero, Act.put, List.setIfInBounds_toArray, List.set_cons_zero, List.set_cons_succ]
      refine wpAnyH_take (i := 1) rfl (by kernel_rfl) (by kernel_rfl) (by kernel_rfl) (fun _ _ _ h => h) (yieldsIf_load_mid (by rfl) _ _ rfl (w.heap.size + 1 + 1) 0 rfl ((k8 3).map u8) _ (fun w h => range_keep HC4.out h (by omega)) under28 rfl (info16 _ rfl)) hH ?_
      simp only [List.getElem_toArray, List.getElem_cons_succ, List.getElem_cons_zero, Act.put, List.setIfInBounds_toArray, List.set_cons_zero, List.set_cons_succ]
      refine wpAnyH_ready (rs := [2, 5]) (by kernel_rfl) (by simp) ?_
      refine AllReadyH.cons rfl (fun K hK => ?_) (AllReadyH.cons rfl (fun K hK => ?_) AllReadyH.nil)
      · simp only [List.getElem_toArray, List.getElem_cons_succ, List.getElem_cons_zero]
        go_simp
        refine (HO3.out _ (HT4.out.keep hH)).mono ?_
        rintro e x2_2 ⟨⟨g3, rfl, hg1, hg2, hgr⟩, hb5⟩
        have HGB := hid (keepR HGB.out hb5)
        have HG3 := hid (And.intro hgr hg2)
        have HBS := hid hb5
        clear hgr hg1 hg2 hb5
        go_wp2_with fail
        refine hK.out _ _ ?_ (fun hH => ?_)
        · exact hH.trans (HBS.out.mono hH.size)
        clear hK K
        try simp only [Act.put, List.setIfInBounds_toArray, List.set_cons_zero, List.set_cons_succ]
        refine wpAnyH_ready (rs := [3, 5]) (by kernel_rfl) (by simp) ?_
        refine AllReadyH.cons rfl (fun K hK => ?_) (AllReadyH.cons rfl (fun K hK => ?_) AllReadyH.nil)
        · simp only [List.getElem_toArray, List.getElem_cons_succ, List.getElem_cons_zero]
          obtain ⟨p3, hp3⟩ : ∃ p3, x2_2.heap.size = p3 := ⟨_, rfl⟩
          have HPT := hid (two_parts x2_2 B g3 dl l3 58 HDL16.out HL3.out HGB.out HG3.out)
          rw [hp3] at HPT
          have hb5 := below_alloc x2_2 (.cells #[.slice (some ⟨B, 0, none⟩) 16 16, .slice (some ⟨g3, 0, none⟩) 16 16] 58)
          have HGB := hid (keepR HGB.out hb5)
          have HG3 := hid (keepR HG3.out hb5)
          clear hb5
          go_simp
          try rw [hp3]
          refine hK.out _ _ ?_ (fun hH => ?_)
          · exact hH.alloc hH.size _
          clear hK K
          try simp only [Act.put, List.setIfInBounds_toArray, List.set_cons_zero, List.set_cons_succ]
          refine wpAnyH_ready (rs := [4, 5]) (by kernel_rfl) (by simp) ?_
          refine AllReadyH.cons rfl (fun K hK => ?_) (AllReadyH.cons rfl (fun K hK => ?_) AllReadyH.nil)
          · simp only [List.getElem_toArray, List.getElem_cons_succ, List.getElem_cons_zero]
            go_simp
            refine (digest_2 (some ⟨p3, 0, none⟩) 2 2 [dl, l3] _ (HT4.out.keep hH) rfl HPT.out (by simp [HDL16.out, HL3.out]) (by simp)).mono ?_
            rw [HRD.out]
            rintro e y4 ⟨rfl, hb5⟩
            have HGB := hid (keepR HGB.out hb5)
            have HG3 := hid (keepR HG3.out hb5)
            have HBS := hid hb5
            clear hb5
            go_wp2_with fail
            refine hK.out _ _ ?_ (fun hH => ?_)
            · exact hH.trans (HBS.out.mono hH.size)
            clear hK K
            try simp only [Act.put, List.setIfInBounds_toArray, List.set_cons_zero, List.set_cons_succ]
            refine wpAnyH_ready (rs := [5]) (by kernel_rfl) (by simp) ?_
            refine AllReadyH.cons rfl (fun K hK => ?_) AllReadyH.nil
            simp only [List.getElem_toArray, List.getElem_cons_succ, List.getElem_cons_zero]
            obtain ⟨q, hq⟩ : ∃ q, y4.heap.size = q := ⟨_, rfl⟩
            have HTH := hid (show (y4.alloc (.cells #[.int .u8 0, .int .u8 0, .int .u8 0, .int .u8 0, .int .u8 0, .int .u8 0, .int .u8 0, .int .u8 0, .int .u8 0, .int .u8 0, .int .u8 0, .int .u8 0, .int .u8 0, .int .u8 0, .int .u8 0, .int .u8 0] 28)).there q 0 16 ∧ q < (y4.alloc (.cells #[.int .u8 0, .int .u8 0, .int .u8 0, .int .u8 0, .int .u8 0, .int .u8 0, .int .u8 0, .int .u8 0, .int .u8 0, .int .u8 0, .int .u8 0, .int .u8 0, .int .u8 0, .int .u8 0, .int .u8 0, .int .u8 0] 28)).heap.size by rw [← hq]; exact ⟨alloc_there y4 #[.int .u8 0, .int .u8 0, .int .u8 0, .int .u8 0, .int .u8 0, .int .u8 0, .int .u8 0, .int .u8 0, .int .u8 0, .int .u8 0, .int .u8 0, .int .u8 0, .int .u8 0, .int .u8 0, .int .u8 0, .int .u8 0] 28 16 rfl, by simp⟩)
            have HNL := hid (show W4.heap.size ≤ q by rw [← hq]; exact hH.size)
            have hb5 := below_alloc y4 (.cells #[.int .u8 0, .int .u8 0, .int .u8 0, .int .u8 0, .int .u8 0, .int .u8 0, .int .u8 0, .int .u8 0, .int .u8 0, .int .u8 0, .int .u8 0, .int .u8 0, .int .u8 0, .int .u8 0, .int .u8 0, .int .u8 0] 28)
            have HGB := hid (keepR HGB.out hb5)
            have HG3 := hid (keepR HG3.out hb5)
            clear hb5
            go_simp
            refine hK.out _ _ ?_ (fun hH => ?_)
            · exact hH.alloc hH.size _
            clear hK K
            try simp only [Act.put, List.setIfInBounds_toArray, List.set_cons_zero, List.set_cons_succ]
            refine wpAnyH_ready (rs := [6]) (by kernel_rfl) (by simp) ?_
            refine AllReadyH.cons rfl (fun K hK => ?_) AllReadyH.nil
            simp only [List.getElem_toArray, List.getElem_cons_succ, List.getElem_cons_zero]
            rw [if_pos (by rfl)]
            refine wp_store_mid _ _ _ rfl q 0 _ rfl rfl (there16 HTH.out.1 rl HRL16.out) (info16a rl HRL16.out) (all_u8 rl) ?_
            refine hK.out _ _ ?_ (fun hH => ?_)
            · exact below_setCells HNL.out _ _ _ hH
            clear hK K
            try simp only [Act.put]
            refine wpAnyH_done (by kernel_rfl) ?_ _
            refine NoPanic.normal ?_
            go_wp2_with fail
            go_meet
            case rel => exact ⟨q, by first | rfl | (rw [hq]), HNL.out, by rw [size_setCells]; exact HTH.out.2, World.rangeAt_setCells_same _ _ _ _ (there16 HTH.out.1 rl HRL16.out), hH⟩
          · simp only [List.getElem_toArray, List.getElem_cons_succ, List.getElem_cons_zero]
            obtain ⟨q, hq⟩ : ∃ q, (x2_2.alloc (.cells #[.slice (some ⟨B, 0, none⟩) 16 16, .slice (some ⟨g3, 0, none⟩) 16 16] 58)).heap.size = q := ⟨_, rfl⟩
            have HTH := hid (show ((x2_2.alloc (.cells #[.slice (some ⟨B, 0, none⟩) 16 16, .slice (some ⟨g3, 0, none⟩) 16 16] 58)).alloc (.cells #[.int .u8 0, .int .u8 0, .int .u8 0, .int .u8 0, .int .u8 0, .int .u8 0, .int .u8 0, .int .u8 0, .int .u8 0, .int .u8 0, .int .u8 0, .int .u8 0, .int .u8 0, .int .u8 0, .int .u8 0, .int .u8 0] 28)).there q 0 16 ∧ q < ((x2_2.alloc (.cells #[.slice (some ⟨B, 0, none⟩) 16 16, .slice (some ⟨g3, 0, none⟩) 16 16] 58)).alloc (.cells #[.int .u8 0, .int .u8 0, .int .u8 0, .int .u8 0, .int .u8 0, .int .u8 0, .int .u8 0, .int .u8 0, .int .u8 0, .int .u8 0, .int .u8 0, .int .u8 0, .int .u8 0, .int .u8 0, .int .u8 0, .int .u8 0] 28)).heap.size by rw [← hq]; exact ⟨alloc_there (x2_2.alloc (.cells #[.slice (some ⟨B, 0, none⟩) 16 16, .slice (some ⟨g3, 0, none⟩) 16 16] 58)) #[.int .u8 0, .int .u8 0, .int .u8 0, .int .u8 0, .int .u8 0, .int .u8 0, .int .u8 0, .int .u8 0, .int .u8 0, .int .u8 0, .int .u8 0, .int .u8 0, .int .u8 0, .int .u8 0, .int .u8 0, .int .u8 0] 28 16 rfl, by simp⟩)
            have HNL := hid (show W4.heap.size ≤ q by rw [← hq]; exact hH.size)
            have hb5 := below_alloc (x2_2.alloc (.cells #[.slice (some ⟨B, 0, none⟩) 16 16, .slice (some ⟨g3, 0, none⟩) 16 16] 58)) (.cells #[.int .u8 0, .int .u8 0, .int .u8 0, .int .u8 0, .int .u8 0, .int .u8 0, .int .u8 0, .int .u8 0, .int .u8 0, .int .u8 0, .int .u8 0, .int .u8 0, .int .u8 0, .int .u8 0, .int .u8 0, .int .u8 0] 28)
            have HGB := hid (keepR HGB.out hb5)
            have HG3 := hid (keepR HG3.out hb5)
            have HPT := hid (keepP HPT.out hb5)
            clear hb5
            go_simp
            refine hK.out _ _ ?_ (fun hH => ?_)
            · exact hH.alloc hH.size _
            clear hK K
            try simp only [Act.put, List.setIfInBounds_toArray, List.set_cons_zero, List.set_cons_succ]
            refine wpAnyH_ready (rs := [4]) (by kernel_rfl) (by simp) ?_
            refine AllReadyH.cons rfl (fun K hK => ?_) AllReadyH.nil
            simp only [List.getElem_toArray, List.getElem_cons_succ, List.getElem_cons_zero]
            go_simp
            refine (digest_2 (some ⟨p3, 0, none⟩) 2 2 [dl, l3] _ (HT4.out.keep hH) rfl HPT.out (by simp [HDL16.out, HL3.out]) (by simp)).mono ?_
            rw [HRD.out]
            rintro e y5 ⟨rfl, hb5⟩
            have HGB := hid (keepR HGB.out hb5)
            have HG3 := hid (keepR HG3.out hb5)
            have HTH := hid (keepT HTH.out hb5)
            have HBS := hid hb5
            clear hb5
            go_wp2_with fail
            refine hK.out _ _ ?_ (fun hH => ?_)
            · exact hH.trans (HBS.out.mono hH.size)
            clear hK K
            try simp only [Act.put, List.setIfInBounds_toArray, List.set_cons_zero, List.set_cons_succ]
            refine wpAnyH_ready (rs := [6]) (by kernel_rfl) (by simp) ?_
            refine AllReadyH.cons rfl (fun K hK => ?_) AllReadyH.nil
            simp only [List.getElem_toArray, List.getElem_cons_succ, List.getElem_cons_zero]
            rw [if_pos (by rfl)]
            refine wp_store_mid _ _ _ rfl q 0 _ rfl rfl (there16 HTH.out.1 rl HRL16.out) (info16a rl HRL16.out) (all_u8 rl) ?_
            refine hK.out _ _ ?_ (fun hH => ?_)
            · exact below_setCells HNL.out _ _ _ hH
            clear hK K
            try simp only [Act.put]
            refine wpAnyH_done (by kernel_rfl) ?_ _
            refine NoPanic.normal ?_
            go_wp2_with fail
            go_meet
            case rel => exact ⟨q, by first | rfl | (rw [hq]), HNL.out, by rw [size_setCells]; exact HTH.out.2, World.rangeAt_setCells_same _ _ _ _ (there16 HTH.out.1 rl HRL16.out), hH⟩
        · simp only [List.getElem_toArray, List.getElem_cons_succ, List.getElem_cons_zero]
          obtain ⟨q, hq⟩ : ∃ q, x2_2.heap.size = q := ⟨_, rfl⟩
          have HTH := hid (show (x2_2.alloc (.cells #[.int .u8 0, .int .u8 0, .int .u8 0, .int .u8 0, .int .u8 0, .int .u8 0, .int .u8 0, .int .u8 0, .int .u8 0, .int .u8 0, .int .u8 0, .int .u8 0, .int .u8 0, .int .u8 0, .int .u8 0, .int .u8 0] 28)).there q 0 16 ∧ q < (x2_2.alloc (.cells #[.int .u8 0, .int .u8 0, .int .u8 0, .int .u8 0, .int .u8 0, .int .u8 0, .int .u8 0, .int .u8 0, .int .u8 0, .int .u8 0, .int .u8 0, .int .u8 0, .int .u8 0, .int .u8 0, .int .u8 0, .int .u8 0] 28)).heap.size by rw [← hq]; exact ⟨alloc_there x2_2 #[.int .u8 0, .int .u8 0, .int .u8 0, .int .u8 0, .int .u8 0, .int .u8 0, .int .u8 0, .int .u8 0, .int .u8 0, .int .u8 0, .int .u8 0, .int .u8 0, .int .u8 0, .int .u8 0, .int .u8 0, .int .u8 0] 28 16 rfl, by simp⟩)
          have HNL := hid (show W4.heap.size ≤ q by rw [← hq]; exact hH.size)
          have hb5 := below_alloc x2_2 (.cells #[.int .u8 0, .int .u8 0, .int .u8 0, .int .u8 0, .int .u8 0, .int .u8 0, .int .u8 0, .int .u8 0, .int .u8 0, .int .u8 0, .int .u8 0, .int .u8 0, .int .u8 0, .int .u8 0, .int .u8 0, .int .u8 0] 28)
          have HGB := hid (keepR HGB.out hb5)
          have HG3 := hid (keepR HG3.out hb5)
          clear hb5
          go_simp
          refine hK.out _ _ ?_ (fun hH => ?_)
          · exact hH.alloc hH.size _
          clear hK K
          try simp only [Act.put, List.setIfInBounds_toArray, List.set_cons_zero, List.set_cons_succ]
          refine wpAnyH_ready (rs := [3]) (by kernel_rfl) (by simp) ?_
          refine AllReadyH.cons rfl (fun K hK => ?_) AllReadyH.nil
          simp only [List.getElem_toArray, List.getElem_cons_succ, List.getElem_cons_zero]
          obtain ⟨p4, hp4⟩ : ∃ p4, (x2_2.alloc (.cells #[.int .u8 0, .int .u8 0, .int .u8 0, .int .u8 0, .int .u8 0, .int .u8 0, .int .u8 0, .int .u8 0, .int .u8 0, .int .u8 0, .int .u8 0, .int .u8 0, .int .u8 0, .int .u8 0, .int .u8 0, .int .u8 0] 28)).heap.size = p4 := ⟨_, rfl⟩
          have HPT := hid (two_parts (x2_2.alloc (.cells #[.int .u8 0, .int .u8 0, .int .u8 0, .int .u8 0, .int .u8 0, .int .u8 0, .int .u8 0, .int .u8 0, .int .u8 0, .int .u8 0, .int .u8 0, .int .u8 0, .int .u8 0, .int .u8 0, .int .u8 0, .int .u8 0] 28)) B g3 dl l3 58 HDL16.out HL3.out HGB.out HG3.out)
          rw [hp4] at HPT
          have hb5 := below_alloc (x2_2.alloc (.cells #[.int .u8 0, .int .u8 0, .int .u8 0, .int .u8 0, .int .u8 0, .int .u8 0, .int .u8 0, .int .u8 0, .int .u8 0, .int .u8 0, .int .u8 0, .int .u8 0, .int .u8 0, .int .u8 0, .int .u8 0, .int .u8 0] 28)) (.cells #[.slice (some ⟨B, 0, none⟩) 16 16, .slice (some ⟨g3, 0, none⟩) 16 16] 58)
          have HGB := hid (keepR HGB.out hb5)
          have HG3 := hid (keepR HG3.out hb5)
          have HTH := hid (keepT HTH.out hb5)
          clear hb5
          go_simp
          try rw [hp4]
          refine hK.out _ _ ?_ (fun hH => ?_)
          · exact hH.alloc hH.size _
          clear hK K
          try simp only [Act.put, List.setIfInBounds_toArray, List.set_cons_zero, List.set_cons_succ]
          refine wpAnyH_ready (rs := [4]) (by kernel_rfl) (by simp) ?_
          refine AllReadyH.cons rfl (fun K hK => ?_) AllReadyH.nil
          simp only [List.getElem_toArray, List.getElem_cons_succ, List.getElem_cons_zero]
          go_simp
          refine (digest_2 (some ⟨p4, 0, none⟩) 2 2 [dl, l3] _ (HT4.out.keep hH) rfl HPT.out (by simp [HDL16.out, HL3.out]) (by simp)).mono ?_
          rw [HRD.out]
          rintro e y5 ⟨rfl, hb5⟩
          have HGB := hid (keepR HGB.out hb5)
          have HG3 := hid (keepR HG3.out hb5)
          have HTH := hid (keepT HTH.out hb5)
          have HBS := hid hb5
          clear hb5
          go_wp2_with fail
          refine hK.out _ _ ?_ (fun hH => ?_)
          · exact hH.trans (HBS.out.mono hH.size)
          clear hK K
          try simp only [Act.put, List.setIfInBounds_toArray, List.set_cons_zero, List.set_cons_succ]
          refine wpAnyH_ready (rs := [6]) (by kernel_rfl) (by simp) ?_
          refine AllReadyH.cons rfl (fun K hK => ?_) AllReadyH.nil
          simp only [List.getElem_toArray, List.getElem_cons_succ, List.getElem_cons_zero]
          rw [if_pos (by rfl)]
          refine wp_store_mid _ _ _ rfl q 0 _ rfl rfl (there16 HTH.out.1 rl HRL16.out) (info16a rl HRL16.out) (all_u8 rl) ?_
          refine hK.out _ _ ?_ (fun hH => ?_)
          · exact below_setCells HNL.out _ _ _ hH
          clear hK K
          try simp only [Act.put]
          refine wpAnyH_done (by kernel_rfl) ?_ _
          refine NoPanic.normal ?_
          go_wp2_with fail
          go_meet
          case rel => exact ⟨q, by first | rfl | (rw [hq]), HNL.out, by rw [size_setCells]; exact HTH.out.2, World.rangeAt_setCells_same _ _ _ _ (there16 HTH.out.1 rl HRL16.out), hH⟩
      · simp only [List.getElem_toArray, List.getElem_cons_succ, List.getElem_cons_zero]
        obtain ⟨q, hq⟩ : ∃ q, W4.drew.heap.size = q := ⟨_, rfl⟩
        have HTH := hid (show (W4.drew.alloc (.cells #[.int .u8 0, .int .u8 0, .int .u8 0, .int .u8 0, .int .u8 0, .int .u8 0, .int .u8 0, .int .u8 0, .int .u8 0, .int .u8 0, .int .u8 0, .int .u8 0, .int .u8 0, .int .u8 0, .int .u8 0, .int .u8 0] 28)).there q 0 16 ∧ q < (W4.drew.alloc (.cells #[.int .u8 0, .int .u8 0, .int .u8 0, .int .u8 0, .int .u8 0, .int .u8 0, .int .u8 0, .int .u8 0, .int .u8 0, .int .u8 0, .int .u8 0, .int .u8 0, .int .u8 0, .int .u8 0, .int .u8 0, .int .u8 0] 28)).heap.size by rw [← hq]; exact ⟨alloc_there W4.drew #[.int .u8 0, .int .u8 0, .int .u8 0, .int .u8 0, .int .u8 0, .int .u8 0, .int .u8 0, .int .u8 0, .int .u8 0, .int .u8 0, .int .u8 0, .int .u8 0, .int .u8 0, .int .u8 0, .int .u8 0, .int .u8 0] 28 16 rfl, by simp⟩)
        have HNL := hid (show W4.heap.size ≤ q by rw [← hq]; exact hH.size)
        have hb5 := below_alloc W4.drew (.cells #[.int .u8 0, .int .u8 0, .int .u8 0, .int .u8 0, .int .u8 0, .int .u8 0, .int .u8 0, .int .u8 0, .int .u8 0, .int .u8 0, .int .u8 0, .int .u8 0, .int .u8 0, .int .u8 0, .int .u8 0, .int .u8 0] 28)
        have HGB := hid (keepR HGB.out hb5)
        clear hb5
        go_simp
        refine hK.out _ _ ?_ (fun hH => ?_)
        · exact hH.alloc hH.size _
        clear hK K
        try simp only [Act.put, List.setIfInBounds_toArray, List.set_cons_zero, List.set_cons_succ]
        refine wpAnyH_ready (rs := [2]) (by kernel_rfl) (by simp) ?_
        refine AllReadyH.cons rfl (fun K hK => ?_) AllReadyH.nil
        simp only [List.getElem_toArray, List.getElem_cons_succ, List.getElem_cons_zero]
        go_simp
        refine (HO3.out _ (HT4.out.keep hH)).mono ?_
        rintro e x3_2 ⟨⟨g3, rfl, hg1, hg2, hgr⟩, hb5⟩
        have HGB := hid (keepR HGB.out hb5)
        have HTH := hid (keepT HTH.out hb5)
        have HG3 := hid (And.intro hgr hg2)
        have HBS := hid hb5
        clear hgr hg1 hg2 hb5
        go_wp2_with fail
        refine hK.out _ _ ?_ (fun hH => ?_)
        · exact hH.trans (HBS.out.mono hH.size)
        clear hK K
        try simp only [Act.put, List.setIfInBounds_toArray, List.set_cons_zero, List.set_cons_succ]
        refine wpAnyH_ready (rs := [3]) (by kernel_rfl) (by simp) ?_
        refine AllReadyH.cons rfl (fun K hK => ?_) AllReadyH.nil
        simp only [List.getElem_toArray, List.getElem_cons_succ, List.getElem_cons_zero]
        obtain ⟨p4, hp4⟩ : ∃ p4, x3_2.heap.size = p4 := ⟨_, rfl⟩
        have HPT := hid (two_parts x3_2 B g3 dl l3 58 HDL16.out HL3.out HGB.out HG3.out)
        rw [hp4] at HPT
        have hb5 := below_alloc x3_2 (.cells #[.slice (some ⟨B, 0, none⟩) 16 16, .slice (some ⟨g3, 0, none⟩) 16 16] 58)
        have HGB := hid (keepR HGB.out hb5)
        have HG3 := hid (keepR HG3.out hb5)
        have HTH := hid (keepT HTH.out hb5)
        clear hb5
        go_simp
        try rw [hp4]
        refine hK.out _ _ ?_ (fun hH => ?_)
        · exact hH.alloc hH.size _
        clear hK K
        try simp only [Act.put, List.setIfInBounds_toArray, List.set_cons_zero, List.set_cons_succ]
        refine wpAnyH_ready (rs := [4]) (by kernel_rfl) (by simp) ?_
        refine AllReadyH.cons rfl (fun K hK => ?_) AllReadyH.nil
        simp only [List.getElem_toArray, List.getElem_cons_succ, List.getElem_cons_zero]
        go_simp
        refine (digest_2 (some ⟨p4, 0, none⟩) 2 2 [dl, l3] _ (HT4.out.keep hH) rfl HPT.out (by simp [HDL16.out, HL3.out]) (by simp)).mono ?_
        rw [HRD.out]
        rintro e y5 ⟨rfl, hb5⟩
        have HGB := hid (keepR HGB.out hb5)
        have HG3 := hid (keepR HG3.out hb5)
        have HTH := hid (keepT HTH.out hb5)
        have HBS := hid hb5
        clear hb5
        go_wp2_with fail
        refine hK.out _ _ ?_ (fun hH => ?_)
        · exact hH.trans (HBS.out.mono hH.size)
        clear hK K
        try simp only [Act.put, List.setIfInBounds_toArray, List.set_cons_zero, List.set_cons_succ]
        refine wpAnyH_ready (rs := [6]) (by kernel_rfl) (by simp) ?_
        refine AllReadyH.cons rfl (fun K hK => ?_) AllReadyH.nil
        simp only [List.getElem_toArray, List.getElem_cons_succ, List.getElem_cons_zero]
        rw [if_pos (by rfl)]
        refine wp_store_mid _ _ _ rfl q 0 _ rfl rfl (there16 HTH.out.1 rl HRL16.out) (info16a rl HRL16.out) (all_u8 rl) ?_
        refine hK.out _ _ ?_ (fun hH => ?_)
        · exact below_setCells HNL.out _ _ _ hH
        clear hK K
        try simp only [Act.put]
        refine wpAnyH_done (by kernel_rfl) ?_ _
        refine NoPanic.normal ?_
        go_wp2_with fail
        go_meet
        case rel => exact ⟨q, by first | rfl | (rw [hq]), HNL.out, by rw [size_setCells]; exact HTH.out.2, World.rangeAt_setCells_same _ _ _ _ (there16 HTH.out.1 rl HRL16.out), hH⟩
    case rest =>
      rename World => W5
      obtain ⟨R, rfl, hR1, hR2, hR3, hRW⟩ := hcut
      have HGR := hid (And.intro hR3 hR2)
      have HNR := hid hR1
      have HW5 := hid hRW
      have HT5 := hid (HT4.out.keep hRW)
      have HGB5 := hid (keepR HGB.out hRW)
      have HA5 := hid (range_keep (range_keep HA.out HW4.out (by omega)) hRW (by omega))
      have HB5 := hid (range_keep (range_keep HB.out HW4.out (by omega)) hRW (by omega))
      have HC5 := hid (range_keep HC4.out hRW (by omega))
      have hz5 : w.heap.size + 3 ≤ W5.heap.size := by have := hRW.size; omega
      clear hR1 hR2 hR3 hRW
      have HPA := hid (fun t => show Calls Tryd.prog 16 #[.slice (some ⟨W5.heap.size, 0, none⟩) 3 3, .int .i64 2] (W5.alloc (.cells #[.int .u8 1, .int .u8 0, .int .u8 0, .int .u8 0, .int .u8 0, .int .u8 0, .int .u8 0, .int .u8 0, .int .u8 0, .int .u8 0, .int .u8 0, .int .u8 0, .int .u8 0, .int .u8 0, .int .u8 0, .int .u8 0, .int .u8 2, .int .u8 0, .int .u8 0, .int .u8 0, .int .u8 0, .int .u8 0, .int .u8 0, .int .u8 0, .int .u8 0, .int .u8 0, .int .u8 0, .int .u8 0, .int .u8 0, .int .u8 0, .int .u8 0, .int .u8 0, .int .u8 3, .int .u8 0, .int .u8 0, .int .u8 0, .int .u8 0, .int .u8 0, .int .u8 0, .int .u8 0, .int .u8 0, .int .u8 0, .int .u8 0, .int .u8 0, .int .u8 0, .int .u8 0, .int .u8 0, .int .u8 0] t)) (fun e w' => (∃ p c', e = .returned (.tuple #[.slice p (proveF [k8 1, k8 2, k8 3] 2).length c', .int .i64 0]) ∧ OwnD (W5.alloc (.cells #[.int .u8 1, .int .u8 0, .int .u8 0, .int .u8 0, .int .u8 0, .int .u8 0, .int .u8 0, .int .u8 0, .int .u8 0, .int .u8 0, .int .u8 0, .int .u8 0, .int .u8 0, .int .u8 0, .int .u8 0, .int .u8 0, .int .u8 2, .int .u8 0, .int .u8 0, .int .u8 0, .int .u8 0, .int .u8 0, .int .u8 0, .int .u8 0, .int .u8 0, .int .u8 0, .int .u8 0, .int .u8 0, .int .u8 0, .int .u8 0, .int .u8 0, .int .u8 0, .int .u8 3, .int .u8 0, .int .u8 0, .int .u8 0, .int .u8 0, .int .u8 0, .int .u8 0, .int .u8 0, .int .u8 0, .int .u8 0, .int .u8 0, .int .u8 0, .int .u8 0, .int .u8 0, .int .u8 0, .int .u8 0] t)).heap.size w' (.slice p (proveF [k8 1, k8 2, k8 3] 2).length c') (proveF [k8 1, k8 2, k8 3] 2)) ∧ Below (W5.alloc (.cells #[.int .u8 1, .int .u8 0, .int .u8 0, .int .u8 0, .int .u8 0, .int .u8 0, .int .u8 0, .int .u8 0, .int .u8 0, .int .u8 0, .int .u8 0, .int .u8 0, .int .u8 0, .int .u8 0, .int .u8 0, .int .u8 0, .int .u8 2, .int .u8 0, .int .u8 0, .int .u8 0, .int .u8 0, .int .u8 0, .int .u8 0, .int .u8 0, .int .u8 0, .int .u8 0, .int .u8 0, .int .u8 0, .int .u8 0, .int .u8 0, .int .u8 0, .int .u8 0, .int .u8 3, .int .u8 0, .int .u8 0, .int .u8 0, .int .u8 0, .int .u8 0, .int .u8 0, .int .u8 0, .int .u8 0, .int .u8 0, .int .u8 0, .int .u8 0, .int .u8 0, .int .u8 0, .int .u8 0, .int .u8 0] t)).heap.size (W5.alloc (.cells #[.int .u8 1, .int .u8 0, .int .u8 0, .int .u8 0, .int .u8 0, .int .u8 0, .int .u8 0, .int .u8 0, .int .u8 0, .int .u8 0, .int .u8 0, .int .u8 0, .int .u8 0, .int .u8 0, .int .u8 0, .int .u8 0, .int .u8 2, .int .u8 0, .int .u8 0, .int .u8 0, .int .u8 0, .int .u8 0, .int .u8 0, .int .u8 0, .int .u8 0, .int .u8 0, .int .u8 0, .int .u8 0, .int .u8 0, .int .u8 0, .int .u8 0, .int .u8 0, .int .u8 3, .int .u8 0, .int .u8 0, .int .u8 0, .int .u8 0, .int .u8 0, .int .u8 0, .int .u8 0, .int .u8 0, .int .u8 0, .int .u8 0, .int .u8 0, .int .u8 0, .int .u8 0, .int .u8 0, .int .u8 0] t)) w') from
        prove_ok [k8 1, k8 2, k8 3] (some ⟨W5.heap.size, 0, none⟩) 3 3 2 _ all16_3 (HT5.out.keep (below_alloc _ _)) rfl (by omega) (by omega) (by omega) (dig_flat W5 [k8 1, k8 2, k8 3] t all16_3))
      have HPF := hid (show proveF [k8 1, k8 2, k8 3] 2 = [dl] by rw [prove3, HE1.out, HE2.out]; exact congrArg (fun x => [x]) HDN.out)
      rw [HPF.out] at HPA
      have HPB := hid (fun (W : World) (g c : Nat) => show Calls Tryd.prog 16 #[.slice (some ⟨g, 0, none⟩) 1 c, .int .i64 1] W _ from prove_bad (some ⟨g, 0, none⟩) 1 c 1 W (Or.inr (by omega)))
      go_upto_region 8 with (first
        | (refine wpList_load_mid rfl _ _ rfl w.heap.size 0 rfl [.int .u8 1, .int .u8 0, .int .u8 0, .int .u8 0, .int .u8 0, .int .u8 0, .int .u8 0, .int .u8 0, .int .u8 0, .int .u8 0, .int .u8 0, .int .u8 0, .int .u8 0, .int .u8 0, .int .u8 0, .int .u8 0] _ HA5.out rfl rfl (info16 (k8 1) rfl) ?_)
        | (refine wpList_load_mid rfl _ _ rfl (w.heap.size + 1) 0 rfl [.int .u8 2, .int .u8 0, .int .u8 0, .int .u8 0, .int .u8 0, .int .u8 0, .int .u8 0, .int .u8 0, .int .u8 0, .int .u8 0, .int .u8 0, .int .u8 0, .int .u8 0, .int .u8 0, .int .u8 0, .int .u8 0] _ HB5.out rfl rfl (info16 (k8 2) rfl) ?_)
        | (refine wpList_load_mid rfl _ _ rfl (w.heap.size + 1 + 1) 0 rfl [.int .u8 3, .int .u8 0, .int .u8 0, .int .u8 0, .int .u8 0, .int .u8 0, .int .u8 0, .int .u8 0, .int .u8 0, .int .u8 0, .int .u8 0, .int .u8 0, .int .u8 0, .int .u8 0, .int .u8 0, .int .u8 0] _ HC5.out rfl rfl (info16 (k8 3) rfl) ?_)
        | (go_at_call 16; (with_reducible refine (HPA.out _).mono ?_); rintro e W6 ⟨⟨pa, pc, rfl, hop⟩, hb6⟩; have HOP := hid hop; have HW6 := hid (show Below W5.heap.size W5 W6 from (below_alloc _ _).trans (hb6.mono (below_alloc _ _).size)); have HA6 := hid (range_keep HA5.out HW6.out (by omega)); clear hop hb6)
        | (refine wpList_load_mid rfl _ _ rfl w.heap.size 0 rfl [.int .u8 1, .int .u8 0, .int .u8 0, .int .u8 0, .int .u8 0, .int .u8 0, .int .u8 0, .int .u8 0, .int .u8 0, .int .u8 0, .int .u8 0, .int .u8 0, .int .u8 0, .int .u8 0, .int .u8 0, .int .u8 0] _ HA6.out rfl rfl (info16 (k8 1) rfl) ?_)
        | (go_at_call 16; (with_reducible refine (HPB.out _ _ _).mono ?_); rintro e W7 ⟨rfl, rfl⟩))
      obtain ⟨W8, hW8⟩ : ∃ W8, W6.alloc (.cells #[.int .u8 1, .int .u8 0, .int .u8 0, .int .u8 0, .int .u8 0, .int .u8 0, .int .u8 0, .int .u8 0, .int .u8 0, .int .u8 0, .int .u8 0, .int .u8 0, .int .u8 0, .int .u8 0, .int .u8 0, .int .u8 0] 28) = W8 := ⟨_, rfl⟩
      rw [hW8]
      have HW8 := hid (show Below W6.heap.size W6 W8 by rw [← hW8]; exact below_alloc _ _)
      clear hW8
      have HW58 := hid (HW6.out.trans (HW8.out.mono HW6.out.size))
      have hz8 : w.heap.size + 3 ≤ W8.heap.size := Nat.le_trans hz5 HW58.out.size
      have HA8 := hid (range_keep HA5.out HW58.out (by omega))
      have HB8 := hid (range_keep HB5.out HW58.out (by omega))
      have HC8 := hid (range_keep HC5.out HW58.out (by omega))
      have HGR8 := hid (keepR HGR.out HW58.out)
      have HGB8 := hid (keepR HGB5.out HW58.out)
      have HT8 := hid (HT5.out.keep HW58.out)
      have hall : All16 [dl] := fun d hd => by rw [List.mem_singleton.1 hd]; exact HDL16.out
      have HDP8 := hid (show DigB W8.heap.size W8 pa [dl] by
        obtain ⟨a', c', e', -, -, hd⟩ := HOP.out.digB hall
        simp only [Value.slice.injEq] at e'
        obtain ⟨rfl, -, -⟩ := e'
        exact (hd.keep HW8.out).mono HW8.out.size)
      have hpc := HOP.out.form
      have hroot : rootF [k8 1, k8 2, k8 3] = rl := by rw [root3, HE1.out, HE2.out, HE3.out, HDN.out]; exact HRN.out
      have HRC := hid (fun (W : World) t (hT : Tab (W.alloc (.cells #[.int .u8 1, .int .u8 0, .int .u8 0, .int .u8 0, .int .u8 0, .int .u8 0, .int .u8 0, .int .u8 0, .int .u8 0, .int .u8 0, .int .u8 0, .int .u8 0, .int .u8 0, .int .u8 0, .int .u8 0, .int .u8 0, .int .u8 2, .int .u8 0, .int .u8 0, .int .u8 0, .int .u8 0, .int .u8 0, .int .u8 0, .int .u8 0, .int .u8 0, .int .u8 0, .int .u8 0, .int .u8 0, .int .u8 0, .int .u8 0, .int .u8 0, .int .u8 0, .int .u8 3, .int .u8 0, .int .u8 0, .int .u8 0, .int .u8 0, .int .u8 0, .int .u8 0, .int .u8 0, .int .u8 0, .int .u8 0, .int .u8 0, .int .u8 0, .int .u8 0, .int .u8 0, .int .u8 0, .int .u8 0] t)).drew) => show Calls Tryd.prog 18 #[.slice (some ⟨W.heap.size, 0, none⟩) 3 3] (W.alloc (.cells #[.int .u8 1, .int .u8 0, .int .u8 0, .int .u8 0, .int .u8 0, .int .u8 0, .int .u8 0, .int .u8 0, .int .u8 0, .int .u8 0, .int .u8 0, .int .u8 0, .int .u8 0, .int .u8 0, .int .u8 0, .int .u8 0, .int .u8 2, .int .u8 0, .int .u8 0, .int .u8 0, .int .u8 0, .int .u8 0, .int .u8 0, .int .u8 0, .int .u8 0, .int .u8 0, .int .u8 0, .int .u8 0, .int .u8 0, .int .u8 0, .int .u8 0, .int .u8 0, .int .u8 3, .int .u8 0, .int .u8 0, .int .u8 0, .int .u8 0, .int .u8 0, .int .u8 0, .int .u8 0, .int .u8 0, .int .u8 0, .int .u8 0, .int .u8 0, .int .u8 0, .int .u8 0, .int .u8 0, .int .u8 0] t)).drew (fun e w' => e = .returned (dv rl) ∧ Below (W.alloc (.cells #[.int .u8 1, .int .u8 0, .int .u8 0, .int .u8 0, .int .u8 0, .int .u8 0, .int .u8 0, .int .u8 0, .int .u8 0, .int .u8 0, .int .u8 0, .int .u8 0, .int .u8 0, .int .u8 0, .int .u8 0, .int .u8 0, .int .u8 2, .int .u8 0, .int .u8 0, .int .u8 0, .int .u8 0, .int .u8 0, .int .u8 0, .int .u8 0, .int .u8 0, .int .u8 0, .int .u8 0, .int .u8 0, .int .u8 0, .int .u8 0, .int .u8 0, .int .u8 0, .int .u8 3, .int .u8 0, .int .u8 0, .int .u8 0, .int .u8 0, .int .u8 0, .int .u8 0, .int .u8 0, .int .u8 0, .int .u8 0, .int .u8 0, .int .u8 0, .int .u8 0, .int .u8 0, .int .u8 0, .int .u8 0] t)).drew.heap.size (W.alloc (.cells #[.int .u8 1, .int .u8 0, .int .u8 0, .int .u8 0, .int .u8 0, .int .u8 0, .int .u8 0, .int .u8 0, .int .u8 0, .int .u8 0, .int .u8 0, .int .u8 0, .int .u8 0, .int .u8 0, .int .u8 0, .int .u8 0, .int .u8 2, .int .u8 0, .int .u8 0, .int .u8 0, .int .u8 0, .int .u8 0, .int .u8 0, .int .u8 0, .int .u8 0, .int .u8 0, .int .u8 0, .int .u8 0, .int .u8 0, .int .u8 0, .int .u8 0, .int .u8 0, .int .u8 3, .int .u8 0, .int .u8 0, .int .u8 0, .int .u8 0, .int .u8 0, .int .u8 0, .int .u8 0, .int .u8 0, .int .u8 0, .int .u8 0, .int .u8 0, .int .u8 0, .int .u8 0, .int .u8 0, .int .u8 0] t)).drew w') by
        have := root_any 4 [k8 1, k8 2, k8 3] (some ⟨W.heap.size, 0, none⟩) 3 3 _ (by decide) all16_3 hT rfl (by omega) (by omega) ((dig_flat W [k8 1, k8 2, k8 3] t all16_3).keep (Below.refl _ _).drew)
        rw [hroot] at this; exact this)
      have HSC := hid (fun (W : World) t (hT : Tab (W.alloc (.cells (dl.map u8).toArray t))) (hD : DigB (W.alloc (.cells (dl.map u8).toArray t)).heap.size (W.alloc (.cells (dl.map u8).toArray t)) pa [dl]) => show Calls Tryd.prog 20 #[.slice pa 1 pc, .slice (some ⟨W.heap.size, 0, none⟩) 1 1] (W.alloc (.cells (dl.map u8).toArray t)) (fun e w' => e = .returned (.bool true) ∧ Below (W.alloc (.cells (dl.map u8).toArray t)).heap.size (W.alloc (.cells (dl.map u8).toArray t)) w') by
        have := same_any [dl] [dl] hall hall pa (some ⟨W.heap.size, 0, none⟩) 1 pc 1 1 rfl rfl (by omega) _ hD (dig_one W dl t HDL16.out)
        rw [decide_eq_true rfl] at this; exact this)
      have HVG := fun (leaf : List UInt8) (hl : leaf.length = 16) (i : Nat) (hi : i < 3) (W : World) (hT : Tab W) (hD : DigB W.heap.size W pa [dl]) => verify_ok rl leaf HRL16.out hl 3 i hi (by omega) [dl] hall pa 1 pc rfl (by omega) W hT hD
      have hv1 : verifyF rl 3 2 (k8 3) [dl] = true := by
        rw [show verifyF rl 3 2 (k8 3) [dl] = decide (nodeD dl (leafD (k8 3)) = rl) by unfold verifyF; rw [sides32]; rfl, HE3.out, HRN.out]; simp
      have hv2 : verifyF rl 3 2 (k8 1) [dl] = false := by
        rw [show verifyF rl 3 2 (k8 1) [dl] = decide (nodeD dl (leafD (k8 1)) = rl) by unfold verifyF; rw [sides32]; rfl, ← HRN.out, ← HE3.out, ← HDN.out, ← HE1.out, ← HE2.out]
        exact decide_eq_false apart3
      have hv3 : verifyF rl 3 1 (k8 3) [dl] = false := by unfold verifyF; rw [sides31]; rfl
      have HV1 := hid (fun W hT hD => show Calls Tryd.prog 21 #[.agg (rl.map u8).toArray, .int .i64 3, .int .i64 2, .agg ((k8 3).map u8).toArray, .slice pa 1 pc] W (fun e w' => e = .returned (.bool true) ∧ Below W.heap.size W w') by have := HVG (k8 3) rfl 2 (by omega) W hT hD; rw [hv1] at this; exact this)
      have HV2 := hid (fun W hT hD => show Calls Tryd.prog 21 #[.agg (rl.map u8).toArray, .int .i64 3, .int .i64 2, .agg ((k8 1).map u8).toArray, .slice pa 1 pc] W (fun e w' => e = .returned (.bool false) ∧ Below W.heap.size W w') by have := HVG (k8 1) rfl 2 (by omega) W hT hD; rw [hv2] at this; exact this)
      have HV3 := hid (fun W hT hD => show Calls Tryd.prog 21 #[.agg (rl.map u8).toArray, .int .i64 3, .int .i64 1, .agg ((k8 3).map u8).toArray, .slice pa 1 pc] W (fun e w' => e = .returned (.bool false) ∧ Below W.heap.size W w') by have := HVG (k8 3) rfl 1 (by omega) W hT hD; rw [hv3] at this; exact this)
      obtain ⟨e0, he0⟩ : ∃ e0, digest 1 [] = e0 := ⟨_, rfl⟩
      have he16 : e0.length = 16 := by rw [← he0]; exact digest_length _ _
      have HR0 := hid (fun W hT => show Calls Tryd.prog 18 #[.slice none 0 0] W (fun e w' => e = .returned (dv e0) ∧ Below W.heap.size W w') by
        have := root_any 1 [] none 0 0 W (by decide) (fun d hd => by cases hd) hT rfl (by omega) (by omega) (fun i hi => by cases hi)
        rw [rootF_nil, he0] at this; exact this)
      have HD0 := hid (fun W hT => show Calls Tryd.prog 38 #[.int .i64 1, .slice none 0 0] W (fun e w' => e = .returned (dv e0) ∧ Below W.heap.size W w') by
        have := digest_1 none 0 0 [] W hT rfl (fun i hi => by cases hi) (by simp) (by simp)
        rw [he0] at this; exact this)
      have q1 : ∀ W, (Op.equalIn 10000 28 (.agg (rl.map u8).toArray) (.agg (rl.map u8).toArray)).run Tryd.prog W = .ok true W := fun W => by rw [eqIn_dig rl rl HRL16.out HRL16.out, decide_eq_true rfl]
      have q2 : ∀ W, (Op.equalIn 10000 28 (.agg (e0.map u8).toArray) (.agg (e0.map u8).toArray)).run Tryd.prog W = .ok true W := fun W => by rw [eqIn_dig e0 e0 he16 he16, decide_eq_true rfl]
      have q3 : ∀ W, (Op.equalIn 10000 28 (.agg ((k8 1).map u8).toArray) (.agg ((k8 2).map u8).toArray)).run Tryd.prog W = .ok false W := fun W => by rw [eqIn_dig (k8 1) (k8 2) rfl rfl]; rfl
      have hsr : (List.map u8 dl).toArray.size = 16 := by simp [HDL16.out]
      have hsr2 : List.length dl = 16 := HDL16.out
      have hfd := fold_dig dl HDL16.out
      clear HVG hv1 hv2 hv3 he0 hroot
      refine wp_region_noPanic ?_
      refine wp_region_held_drew (S := fun W => Below W8.heap.size W8 W) (by kernel_rfl) ((Below.refl _ _).drew) (fun hH => ?_)
      refine wpAnyH_take (i := 0) (v := ?_) rfl (by kernel_rfl) (by kernel_rfl) (by kernel_rfl) (fun _ _ _ h => h) (Or.inl ⟨by rfl, ?_⟩) hH ?_
      rotate_left
      · (intro w hSw; simp only [List.getElem_toArray, List.getElem_cons_zero]; first | (go_simp; done) | (go_simp; with_reducible rfl))
      simp only [List.getElem_toArray, List.getElem_cons_zero, Act.put, List.setIfInBounds_toArray, List.set_cons_zero, List.set_cons_succ]
      refine wpAnyH_take (i := 1) (v := ?_) rfl (by kernel_rfl) (by kernel_rfl) (by kernel_rfl) (fun _ _ _ h => h) (Or.inl ⟨by rfl, ?_⟩) hH ?_
      rotate_left
      · (intro w hSw; simp only [List.getElem_toArray, List.getElem_cons_succ, List.getElem_cons_zero]; first | (go_simp; done) | (go_simp; with_reducible rfl))
      simp only [List.getElem_toArray, List.getElem_cons_succ, List.getElem_cons_zero, Act.put, List.setIfInBounds_toArray, List.set_cons_zero, List.set_cons_succ]
      refine wpAnyH_take (i := 2) (v := ?_) rfl (by kernel_rfl) (by kernel_rfl) (by kernel_rfl) (fun _ _ _ h => h) (Or.inl ⟨by rfl, ?_⟩) hH ?_
      rotate_left
      · (intro w hSw; simp only [List.getElem_toArray, List.getElem_cons_succ, List.getElem_cons_zero]; first | (go_simp; done) | (go_simp; with_reducible rfl))
      simp only [List.getElem_toArray, List.getElem_cons_succ, List.getElem_cons_zero, Act.put, List.setIfInBounds_toArray, List.set_cons_zero, List.set_cons_succ]
      refine wpAnyH_take (i := 3) (v := ?_) rfl (by kernel_rfl) (by kernel_rfl) (by kernel_rfl) (fun _ _ _ h => h) (Or.inl ⟨by rfl, ?_⟩) hH ?_
      rotate_left
      · (intro w hSw; simp only [List.getElem_toArray, List.getElem_cons_succ, List.getElem_cons_zero]; first | (go_simp; done) | (go_simp; with_reducible rfl))
      simp only [List.getElem_toArray, List.getElem_cons_succ, List.getElem_cons_zero, Act.put, List.setIfInBounds_toArray, List.set_cons_zero, List.set_cons_succ]
      refine wpAnyH_take (i := 4) (v := ?_) rfl (by kernel_rfl) (by kernel_rfl) (by kernel_rfl) (fun _ _ _ h => h) (Or.inl ⟨by rfl, ?_⟩) hH ?_
      rotate_left
      · (intro w hSw; simp only [List.getElem_toArray, List.getElem_cons_succ, List.getElem_cons_zero]; first | (go_simp; done) | (go_simp; with_reducible rfl))
      simp only [List.getElem_toArray, List.getElem_cons_succ, List.getElem_cons_zero, Act.put, List.setIfInBounds_toArray, List.set_cons_zero, List.set_cons_succ]
      refine wpAnyH_take (i := 5) (v := ?_) rfl (by kernel_rfl) (by kernel_rfl) (by kernel_rfl) (fun _ _ _ h => h) (Or.inl ⟨by rfl, ?_⟩) hH ?_
      rotate_left
      · (intro w hSw; simp only [List.getElem_toArray, List.getElem_cons_succ, List.getElem_cons_zero]; first | (go_simp; done) | (go_simp; with_reducible rfl))
      simp only [List.getElem_toArray, List.getElem_cons_succ, List.getElem_cons_zero, Act.put, List.setIfInBounds_toArray, List.set_cons_zero, List.set_cons_succ]
      refine wpAnyH_take (i := 6) (v := ?_) rfl (by kernel_rfl) (by kernel_rfl) (by kernel_rfl) (fun _ _ _ h => h) (Or.inl ⟨by rfl, ?_⟩) hH ?_
      rotate_left
      · (intro w hSw; simp only [List.getElem_toArray, List.getElem_cons_succ, List.getElem_cons_zero]; first | (go_simp; done) | (go_simp; with_reducible rfl))
      simp only [List.getElem_toArray, List.getElem_cons_succ, List.getElem_cons_zero, Act.put, List.setIfInBounds_toArray, List.set_cons_zero, List.set_cons_succ]
      refine wpAnyH_take (i := 7) rfl (by kernel_rfl) (by kernel_rfl) (by kernel_rfl) (fun _ _ _ h => h) (yieldsIf_load_mid (by rfl) _ _ rfl w.heap.size 0 rfl [.int .u8 1, .int .u8 0, .int .u8 0, .int .u8 0, .int .u8 0, .int .u8 0, .int .u8 0, .int .u8 0, .int .u8 0, .int .u8 0, .int .u8 0, .int .u8 0, .int .u8 0, .int .u8 0, .int .u8 0, .int .u8 0] _ (fun w h => range_keep HA8.out h (by omega)) under28 rfl (info16 (k8 1) rfl)) hH ?_
      simp only [List.getElem_toArray, List.getElem_cons_succ, List.getElem_cons_zero, Act.put, List.setIfInBounds_toArray, List.set_cons_zero, List.set_cons_succ]
      refine wpAnyH_take (i := 8) rfl (by kernel_rfl) (by kernel_rfl) (by kernel_rfl) (fun _ _ _ h => h) (yieldsIf_load_mid (by rfl) _ _ rfl (w.heap.size + 1) 0 rfl [.int .u8 2, .int .u8 0, .int .u8 0, .int .u8 0, .int .u8 0, .int .u8 0, .int .u8 0, .int .u8 0, .int .u8 0, .int .u8 0, .int .u8 0, .int .u8 0, .int .u8 0, .int .u8 0, .int .u8 0, .int .u8 0] _ (fun w h => range_keep HB8.out h (by omega)) under28 rfl (info16 (k8 2) rfl)) hH ?_
      simp only [List.getElem_toArray, List.getElem_cons_succ, List.getElem_cons_zero, Act.put, List.setIfInBounds_toArray, List.set_cons_zero, List.set_cons_succ]
      refine wpAnyH_take (i := 9) rfl (by kernel_rfl) (by kernel_rfl) (by kernel_rfl) (fun _ _ _ h => h) (yieldsIf_load_mid (by rfl) _ _ rfl (w.heap.size + 1 + 1) 0 rfl [.int .u8 3, .int .u8 0, .int .u8 0, .int .u8 0, .int .u8 0, .int .u8 0, .int .u8 0, .int .u8 0, .int .u8 0, .int .u8 0, .int .u8 0, .int .u8 0, .int .u8 0, .int .u8 0, .int .u8 0, .int .u8 0] _ (fun w h => range_keep HC8.out h (by omega)) under28 rfl (info16 (k8 3) rfl)) hH ?_
      simp only [List.getElem_toArray, List.getElem_cons_succ, List.getElem_cons_zero, Act.put, List.setIfInBounds_toArray, List.set_cons_zero, List.set_cons_succ]
      refine wpAnyH_take (i := 12) rfl (by kernel_rfl) (by kernel_rfl) (by kernel_rfl) (fun _ _ _ h => h) (yieldsIf_load_mid (by rfl) _ _ rfl R 0 rfl (rl.map u8) _ (fun w h => range_keep HGR8.out.1 h HGR8.out.2) under28 rfl (info16 rl HRL16.out)) hH ?_
      simp only [List.getElem_toArray, List.getElem_cons_succ, List.getElem_cons_zero, Act.put, List.setIfInBounds_toArray, List.set_cons_zero, List.set_cons_succ]
      refine wpAnyH_ready (rs := [10]) (by kernel_rfl) (by simp) ?_
      refine AllReadyH.cons rfl (fun K hK => ?_) AllReadyH.nil
      simp only [List.getElem_toArray, List.getElem_cons_succ, List.getElem_cons_zero]
      go_simp
      refine hK.out _ _ ?_ (fun hH => ?_)
      · exact hH.alloc hH.size _
      clear hK K
      try simp only [Act.put, List.setIfInBounds_toArray, List.set_cons_zero, List.set_cons_succ]
      refine wpAnyH_ready (rs := [11]) (by kernel_rfl) (by simp) ?_
      refine AllReadyH.cons rfl (fun K hK => ?_) AllReadyH.nil
      simp only [List.getElem_toArray, List.getElem_cons_succ, List.getElem_cons_zero]
      go_simp
      refine (HRC.out _ _ (HT8.out.keep hH)).mono ?_
      rintro e z1 ⟨rfl, hb5⟩
      have HBS := hid hb5
      clear hb5
      go_wp2_with fail
      refine hK.out _ _ ?_ (fun hH => ?_)
      · exact hH.trans (HBS.out.mono hH.size)
      clear hK K
      try simp only [Act.put, List.setIfInBounds_toArray, List.set_cons_zero, List.set_cons_succ]
      refine wpAnyH_take (i := 13) (v := ?_) rfl (by kernel_rfl) (by kernel_rfl) (by kernel_rfl) (fun _ _ _ h => h) (Or.inl ⟨by rfl, ?_⟩) hH ?_
      rotate_left
      · (intro w hSw; simp only [List.getElem_toArray, List.getElem_cons_succ, List.getElem_cons_zero]; first | (go_simp; done) | (go_simp; with_reducible rfl))
      simp only [List.getElem_toArray, List.getElem_cons_succ, List.getElem_cons_zero, Act.put, List.setIfInBounds_toArray, List.set_cons_zero, List.set_cons_succ]
      refine wpAnyH_take (i := 14) (v := ?_) rfl (by kernel_rfl) (by kernel_rfl) (by kernel_rfl) (fun _ _ _ h => h) (Or.inl ⟨by rfl, ?_⟩) hH ?_
      rotate_left
      · (intro w hSw; simp only [List.getElem_toArray, List.getElem_cons_succ, List.getElem_cons_zero]; first | (go_simp; done) | (go_simp; with_reducible rfl))
      simp only [List.getElem_toArray, List.getElem_cons_succ, List.getElem_cons_zero, Act.put, List.setIfInBounds_toArray, List.set_cons_zero, List.set_cons_succ]
      refine wpAnyH_take (i := 15) (v := ?_) rfl (by kernel_rfl) (by kernel_rfl) (by kernel_rfl) (fun _ _ _ h => h) (Or.inl ⟨by rfl, ?_⟩) hH ?_
      rotate_left
      · (intro w hSw; simp only [List.getElem_toArray, List.getElem_cons_succ, List.getElem_cons_zero]; first | (go_simp; done) | (go_simp; with_reducible rfl))
      simp only [List.getElem_toArray, List.getElem_cons_succ, List.getElem_cons_zero, Act.put, List.setIfInBounds_toArray, List.set_cons_zero, List.set_cons_succ]
      refine wpAnyH_take (i := 16) (v := ?_) rfl (by kernel_rfl) (by kernel_rfl) (by kernel_rfl) (fun _ _ _ h => h) (Or.inl ⟨by rfl, ?_⟩) hH ?_
      rotate_left
      · (intro w hSw; simp only [List.getElem_toArray, List.getElem_cons_succ, List.getElem_cons_zero]; first | (go_simp; done) | (go_simp; with_reducible rfl))
      simp only [List.getElem_toArray, List.getElem_cons_succ, List.getElem_cons_zero, Act.put, List.setIfInBounds_toArray, List.set_cons_zero, List.set_cons_succ]
      refine wpAnyH_take (i := 17) rfl (by kernel_rfl) (by kernel_rfl) (by kernel_rfl) (fun _ _ _ h => h) (yieldsIf_load_mid (by rfl) _ _ rfl B 0 rfl (dl.map u8) _ (fun w h => range_keep HGB8.out.1 h HGB8.out.2) under28 rfl (info16 dl HDL16.out)) hH ?_
      simp only [List.getElem_toArray, List.getElem_cons_succ, List.getElem_cons_zero, Act.put, List.setIfInBounds_toArray, List.set_cons_zero, List.set_cons_succ]
      refine wpAnyH_ready (rs := [18]) (by kernel_rfl) (by simp) ?_
      refine AllReadyH.cons rfl (fun K hK => ?_) AllReadyH.nil
      simp only [List.getElem_toArray, List.getElem_cons_succ, List.getElem_cons_zero]
      go_simp
      refine hK.out _ _ ?_ (fun hH => ?_)
      · exact hH.alloc hH.size _
      clear hK K
      try simp only [Act.put, List.setIfInBounds_toArray, List.set_cons_zero, List.set_cons_succ]
      refine wpAnyH_ready (rs := [19]) (by kernel_rfl) (by simp) ?_
      refine AllReadyH.cons rfl (fun K hK => ?_) AllReadyH.nil
      simp only [List.getElem_toArray, List.getElem_cons_succ, List.getElem_cons_zero]
      go_simp
      refine (HSC.out _ _ (HT8.out.keep hH) ((HDP8.out.keep hH).mono hH.size)).mono ?_
      rintro e z2 ⟨rfl, hb5⟩
      have HBS := hid hb5
      clear hb5
      go_wp2_with fail
      refine hK.out _ _ ?_ (fun hH => ?_)
      · exact hH.trans (HBS.out.mono hH.size)
      clear hK K
      try simp only [Act.put, List.setIfInBounds_toArray, List.set_cons_zero, List.set_cons_succ]
      refine wpAnyH_take (i := 20) (v := ?_) rfl (by kernel_rfl) (by kernel_rfl) (by kernel_rfl) (fun _ _ _ h => h) (Or.inl ⟨by rfl, ?_⟩) hH ?_
      rotate_left
      · (intro w hSw; simp only [List.getElem_toArray, List.getElem_cons_succ, List.getElem_cons_zero]; first | (go_simp; done) | (go_simp; with_reducible rfl))
      simp only [List.getElem_toArray, List.getElem_cons_succ, List.getElem_cons_zero, Act.put, List.setIfInBounds_toArray, List.set_cons_zero, List.set_cons_succ]
      refine wpAnyH_take (i := 21) (v := ?_) rfl (by kernel_rfl) (by kernel_rfl) (by kernel_rfl) (fun _ _ _ h => h) (Or.inl ⟨by rfl, ?_⟩) hH ?_
      rotate_left
      · (intro w hSw; simp only [List.getElem_toArray, List.getElem_cons_succ, List.getElem_cons_zero]; first | (go_simp; done) | (go_simp; with_reducible rfl))
      simp only [List.getElem_toArray, List.getElem_cons_succ, List.getElem_cons_zero, Act.put, List.setIfInBounds_toArray, List.set_cons_zero, List.set_cons_succ]
      refine wpAnyH_take (i := 22) rfl (by kernel_rfl) (by kernel_rfl) (by kernel_rfl) (fun _ _ _ h => h) (yieldsIf_load_mid (by rfl) _ _ rfl R 0 rfl (rl.map u8) _ (fun w h => range_keep HGR8.out.1 h HGR8.out.2) under28 rfl (info16 rl HRL16.out)) hH ?_
      simp only [List.getElem_toArray, List.getElem_cons_succ, List.getElem_cons_zero, Act.put, List.setIfInBounds_toArray, List.set_cons_zero, List.set_cons_succ]
      refine wpAnyH_take (i := 23) rfl (by kernel_rfl) (by kernel_rfl) (by kernel_rfl) (fun _ _ _ h => h) (yieldsIf_load_mid (by rfl) _ _ rfl (w.heap.size + 1 + 1) 0 rfl ((k8 3).map u8) _ (fun w h => range_keep HC8.out h (by omega)) under28 rfl (info16 (k8 3) rfl)) hH ?_
      simp only [List.getElem_toArray, List.getElem_cons_succ, List.getElem_cons_zero, Act.put, List.setIfInBounds_toArray, List.set_cons_zero, List.set_cons_succ]
      refine wpAnyH_take (i := 24) (v := ?_) rfl (by kernel_rfl) (by kernel_rfl) (by kernel_rfl) (fun _ _ _ h => h) (Or.inl ⟨by rfl, ?_⟩) hH ?_
      rotate_left
      · (intro w hSw; simp only [List.getElem_toArray, List.getElem_cons_succ, List.getElem_cons_zero]; first | (go_simp; done) | (go_simp; with_reducible rfl))
      simp only [List.getElem_toArray, List.getElem_cons_succ, List.getElem_cons_zero, Act.put, List.setIfInBounds_toArray, List.set_cons_zero, List.set_cons_succ]
      refine wpAnyH_ready (rs := [25]) (by kernel_rfl) (by simp) ?_
      refine AllReadyH.cons rfl (fun K hK => ?_) AllReadyH.nil
      simp only [List.getElem_toArray, List.getElem_cons_succ, List.getElem_cons_zero]
      go_simp
      refine (HV1.out _ (HT8.out.keep hH) ((HDP8.out.keep hH).mono hH.size)).mono ?_
      rintro e z3 ⟨rfl, hb5⟩
      have HBS := hid hb5
      clear hb5
      go_wp2_with fail
      refine hK.out _ _ ?_ (fun hH => ?_)
      · exact hH.trans (HBS.out.mono hH.size)
      clear hK K
      try simp only [Act.put, List.setIfInBounds_toArray, List.set_cons_zero, List.set_cons_succ]
      refine wpAnyH_take (i := 26) (v := ?_) rfl (by kernel_rfl) (by kernel_rfl) (by kernel_rfl) (fun _ _ _ h => h) (Or.inl ⟨by rfl, ?_⟩) hH ?_
      rotate_left
      · (intro w hSw; simp only [List.getElem_toArray, List.getElem_cons_succ, List.getElem_cons_zero]; first | (go_simp; done) | (go_simp; with_reducible rfl))
      simp only [List.getElem_toArray, List.getElem_cons_succ, List.getElem_cons_zero, Act.put, List.setIfInBounds_toArray, List.set_cons_zero, List.set_cons_succ]
      refine wpAnyH_take (i := 27) (v := ?_) rfl (by kernel_rfl) (by kernel_rfl) (by kernel_rfl) (fun _ _ _ h => h) (Or.inl ⟨by rfl, ?_⟩) hH ?_
      rotate_left
      · (intro w hSw; simp only [List.getElem_toArray, List.getElem_cons_succ, List.getElem_cons_zero]; first | (go_simp; done) | (go_simp; with_reducible rfl))
      simp only [List.getElem_toArray, List.getElem_cons_succ, List.getElem_cons_zero, Act.put, List.setIfInBounds_toArray, List.set_cons_zero, List.set_cons_succ]
      refine wpAnyH_take (i := 28) rfl (by kernel_rfl) (by kernel_rfl) (by kernel_rfl) (fun _ _ _ h => h) (yieldsIf_load_mid (by rfl) _ _ rfl R 0 rfl (rl.map u8) _ (fun w h => range_keep HGR8.out.1 h HGR8.out.2) under28 rfl (info16 rl HRL16.out)) hH ?_
      simp only [List.getElem_toArray, List.getElem_cons_succ, List.getElem_cons_zero, Act.put, List.setIfInBounds_toArray, List.set_cons_zero, List.set_cons_succ]
      refine wpAnyH_take (i := 29) rfl (by kernel_rfl) (by kernel_rfl) (by kernel_rfl) (fun _ _ _ h => h) (yieldsIf_load_mid (by rfl) _ _ rfl w.heap.size 0 rfl ((k8 1).map u8) _ (fun w h => range_keep HA8.out h (by omega)) under28 rfl (info16 (k8 1) rfl)) hH ?_
      simp only [List.getElem_toArray, List.getElem_cons_succ, List.getElem_cons_zero, Act.put, List.setIfInBounds_toArray, List.set_cons_zero, List.set_cons_succ]
      refine wpAnyH_take (i := 30) (v := ?_) rfl (by kernel_rfl) (by kernel_rfl) (by kernel_rfl) (fun _ _ _ h => h) (Or.inl ⟨by rfl, ?_⟩) hH ?_
      rotate_left
      · (intro w hSw; simp only [List.getElem_toArray, List.getElem_cons_succ, List.getElem_cons_zero]; first | (go_simp; done) | (go_simp; with_reducible rfl))
      simp only [List.getElem_toArray, List.getElem_cons_succ, List.getElem_cons_zero, Act.put, List.setIfInBounds_toArray, List.set_cons_zero, List.set_cons_succ]
      refine wpAnyH_ready (rs := [31]) (by kernel_rfl) (by simp) ?_
      refine AllReadyH.cons rfl (fun K hK => ?_) AllReadyH.nil
      simp only [List.getElem_toArray, List.getElem_cons_succ, List.getElem_cons_zero]
      go_simp
      refine (HV2.out _ (HT8.out.keep hH) ((HDP8.out.keep hH).mono hH.size)).mono ?_
      rintro e z4 ⟨rfl, hb5⟩
      have HBS := hid hb5
      clear hb5
      go_wp2_with fail
      refine hK.out _ _ ?_ (fun hH => ?_)
      · exact hH.trans (HBS.out.mono hH.size)
      clear hK K
      try simp only [Act.put, List.setIfInBounds_toArray, List.set_cons_zero, List.set_cons_succ]
      refine wpAnyH_take (i := 32) (v := ?_) rfl (by kernel_rfl) (by kernel_rfl) (by kernel_rfl) (fun _ _ _ h => h) (Or.inl ⟨by rfl, ?_⟩) hH ?_
      rotate_left
      · (intro w hSw; simp only [List.getElem_toArray, List.getElem_cons_succ, List.getElem_cons_zero]; first | (go_simp; done) | (go_simp; with_reducible rfl))
      simp only [List.getElem_toArray, List.getElem_cons_succ, List.getElem_cons_zero, Act.put, List.setIfInBounds_toArray, List.set_cons_zero, List.set_cons_succ]
      refine wpAnyH_take (i := 33) (v := ?_) rfl (by kernel_rfl) (by kernel_rfl) (by kernel_rfl) (fun _ _ _ h => h) (Or.inl ⟨by rfl, ?_⟩) hH ?_
      rotate_left
      · (intro w hSw; simp only [List.getElem_toArray, List.getElem_cons_succ, List.getElem_cons_zero]; first | (go_simp; done) | (go_simp; with_reducible rfl))
      simp only [List.getElem_toArray, List.getElem_cons_succ, List.getElem_cons_zero, Act.put, List.setIfInBounds_toArray, List.set_cons_zero, List.set_cons_succ]
      refine wpAnyH_take (i := 34) (v := ?_) rfl (by kernel_rfl) (by kernel_rfl) (by kernel_rfl) (fun _ _ _ h => h) (Or.inl ⟨by rfl, ?_⟩) hH ?_
      rotate_left
      · (intro w hSw; simp only [List.getElem_toArray, List.getElem_cons_succ, List.getElem_cons_zero]; first | (go_simp; done) | (go_simp; with_reducible rfl))
      simp only [List.getElem_toArray, List.getElem_cons_succ, List.getElem_cons_zero, Act.put, List.setIfInBounds_toArray, List.set_cons_zero, List.set_cons_succ]
      refine wpAnyH_take (i := 35) rfl (by kernel_rfl) (by kernel_rfl) (by kernel_rfl) (fun _ _ _ h => h) (yieldsIf_load_mid (by rfl) _ _ rfl R 0 rfl (rl.map u8) _ (fun w h => range_keep HGR8.out.1 h HGR8.out.2) under28 rfl (info16 rl HRL16.out)) hH ?_
      simp only [List.getElem_toArray, List.getElem_cons_succ, List.getElem_cons_zero, Act.put, List.setIfInBounds_toArray, List.set_cons_zero, List.set_cons_succ]
      refine wpAnyH_take (i := 36) rfl (by kernel_rfl) (by kernel_rfl) (by kernel_rfl) (fun _ _ _ h => h) (yieldsIf_load_mid (by rfl) _ _ rfl (w.heap.size + 1 + 1) 0 rfl ((k8 3).map u8) _ (fun w h => range_keep HC8.out h (by omega)) under28 rfl (info16 (k8 3) rfl)) hH ?_
      simp only [List.getElem_toArray, List.getElem_cons_succ, List.getElem_cons_zero, Act.put, List.setIfInBounds_toArray, List.set_cons_zero, List.set_cons_succ]
      refine wpAnyH_take (i := 37) (v := ?_) rfl (by kernel_rfl) (by kernel_rfl) (by kernel_rfl) (fun _ _ _ h => h) (Or.inl ⟨by rfl, ?_⟩) hH ?_
      rotate_left
      · (intro w hSw; simp only [List.getElem_toArray, List.getElem_cons_succ, List.getElem_cons_zero]; first | (go_simp; done) | (go_simp; with_reducible rfl))
      simp only [List.getElem_toArray, List.getElem_cons_succ, List.getElem_cons_zero, Act.put, List.setIfInBounds_toArray, List.set_cons_zero, List.set_cons_succ]
      refine wpAnyH_ready (rs := [38]) (by kernel_rfl) (by simp) ?_
      refine AllReadyH.cons rfl (fun K hK => ?_) AllReadyH.nil
      simp only [List.getElem_toArray, List.getElem_cons_succ, List.getElem_cons_zero]
      go_simp
      refine (HV3.out _ (HT8.out.keep hH) ((HDP8.out.keep hH).mono hH.size)).mono ?_
      rintro e z5 ⟨rfl, hb5⟩
      have HBS := hid hb5
      clear hb5
      go_wp2_with fail
      refine hK.out _ _ ?_ (fun hH => ?_)
      · exact hH.trans (HBS.out.mono hH.size)
      clear hK K
      try simp only [Act.put, List.setIfInBounds_toArray, List.set_cons_zero, List.set_cons_succ]
      refine wpAnyH_take (i := 39) (v := ?_) rfl (by kernel_rfl) (by kernel_rfl) (by kernel_rfl) (fun _ _ _ h => h) (Or.inl ⟨by rfl, ?_⟩) hH ?_
      rotate_left
      · (intro w hSw; simp only [List.getElem_toArray, List.getElem_cons_succ, List.getElem_cons_zero]; first | (go_simp; done) | (go_simp; with_reducible rfl))
      simp only [List.getElem_toArray, List.getElem_cons_succ, List.getElem_cons_zero, Act.put, List.setIfInBounds_toArray, List.set_cons_zero, List.set_cons_succ]
      refine wpAnyH_take (i := 40) (v := ?_) rfl (by kernel_rfl) (by kernel_rfl) (by kernel_rfl) (fun _ _ _ h => h) (Or.inl ⟨by rfl, ?_⟩) hH ?_
      rotate_left
      · (intro w hSw; simp only [List.getElem_toArray, List.getElem_cons_succ, List.getElem_cons_zero]; first | (go_simp; done) | (go_simp; with_reducible rfl))
      simp only [List.getElem_toArray, List.getElem_cons_succ, List.getElem_cons_zero, Act.put, List.setIfInBounds_toArray, List.set_cons_zero, List.set_cons_succ]
      refine wpAnyH_take (i := 41) (v := ?_) rfl (by kernel_rfl) (by kernel_rfl) (by kernel_rfl) (fun _ _ _ h => h) (Or.inl ⟨by rfl, ?_⟩) hH ?_
      rotate_left
      · (intro w hSw; simp only [List.getElem_toArray, List.getElem_cons_succ, List.getElem_cons_zero]; first | (go_simp; done) | (go_simp; with_reducible rfl))
      simp only [List.getElem_toArray, List.getElem_cons_succ, List.getElem_cons_zero, Act.put, List.setIfInBounds_toArray, List.set_cons_zero, List.set_cons_succ]
      refine wpAnyH_ready (rs := [42]) (by kernel_rfl) (by simp) ?_
      refine AllReadyH.cons rfl (fun K hK => ?_) AllReadyH.nil
      simp only [List.getElem_toArray, List.getElem_cons_succ, List.getElem_cons_zero]
      go_simp
      refine (HR0.out _ (HT8.out.keep hH)).mono ?_
      rintro e z6 ⟨rfl, hb5⟩
      have HBS := hid hb5
      clear hb5
      go_wp2_with fail
      refine hK.out _ _ ?_ (fun hH => ?_)
      · exact hH.trans (HBS.out.mono hH.size)
      clear hK K
      try simp only [Act.put, List.setIfInBounds_toArray, List.set_cons_zero, List.set_cons_succ]
      refine wpAnyH_ready (rs := [43]) (by kernel_rfl) (by simp) ?_
      refine AllReadyH.cons rfl (fun K hK => ?_) AllReadyH.nil
      simp only [List.getElem_toArray, List.getElem_cons_succ, List.getElem_cons_zero]
      go_simp
      refine (HD0.out _ (HT8.out.keep hH)).mono ?_
      rintro e z7 ⟨rfl, hb5⟩
      have HBS := hid hb5
      clear hb5
      go_wp2_with fail
      refine hK.out _ _ ?_ (fun hH => ?_)
      · exact hH.trans (HBS.out.mono hH.size)
      clear hK K
      try simp only [Act.put, List.setIfInBounds_toArray, List.set_cons_zero, List.set_cons_succ]
      refine wpAnyH_take (i := 44) (v := ?_) rfl (by kernel_rfl) (by kernel_rfl) (by kernel_rfl) (fun _ _ _ h => h) (Or.inl ⟨by rfl, ?_⟩) hH ?_
      rotate_left
      · (intro w hSw; simp only [List.getElem_toArray, List.getElem_cons_succ, List.getElem_cons_zero]; first | (go_simp; done) | (go_simp; with_reducible rfl))
      simp only [List.getElem_toArray, List.getElem_cons_succ, List.getElem_cons_zero, Act.put, List.setIfInBounds_toArray, List.set_cons_zero, List.set_cons_succ]
      refine wpAnyH_take (i := 45) (v := ?_) rfl (by kernel_rfl) (by kernel_rfl) (by kernel_rfl) (fun _ _ _ h => h) (Or.inl ⟨by rfl, ?_⟩) hH ?_
      rotate_left
      · (intro w hSw; simp only [List.getElem_toArray, List.getElem_cons_succ, List.getElem_cons_zero]; first | (go_simp; done) | (go_simp; with_reducible rfl))
      simp only [List.getElem_toArray, List.getElem_cons_succ, List.getElem_cons_zero, Act.put, List.setIfInBounds_toArray, List.set_cons_zero, List.set_cons_succ]
      refine wpAnyH_take (i := 46) (v := ?_) rfl (by kernel_rfl) (by kernel_rfl) (by kernel_rfl) (fun _ _ _ h => h) (Or.inl ⟨by rfl, ?_⟩) hH ?_
      rotate_left
      · (intro w hSw; simp only [List.getElem_toArray, List.getElem_cons_succ, List.getElem_cons_zero]; first | (go_simp; done) | (go_simp; with_reducible rfl))
      simp only [List.getElem_toArray, List.getElem_cons_succ, List.getElem_cons_zero, Act.put, List.setIfInBounds_toArray, List.set_cons_zero, List.set_cons_succ]
      refine wpAnyH_take (i := 47) rfl (by kernel_rfl) (by kernel_rfl) (by kernel_rfl) (fun _ _ _ h => h) (yieldsIf_load_mid (by rfl) _ _ rfl w.heap.size 0 rfl ((k8 1).map u8) _ (fun w h => range_keep HA8.out h (by omega)) under28 rfl (info16 (k8 1) rfl)) hH ?_
      simp only [List.getElem_toArray, List.getElem_cons_succ, List.getElem_cons_zero, Act.put, List.setIfInBounds_toArray, List.set_cons_zero, List.set_cons_succ]
      refine wpAnyH_take (i := 48) rfl (by kernel_rfl) (by kernel_rfl) (by kernel_rfl) (fun _ _ _ h => h) (yieldsIf_load_mid (by rfl) _ _ rfl (w.heap.size + 1) 0 rfl ((k8 2).map u8) _ (fun w h => range_keep HB8.out h (by omega)) under28 rfl (info16 (k8 2) rfl)) hH ?_
      simp only [List.getElem_toArray, List.getElem_cons_succ, List.getElem_cons_zero, Act.put, List.setIfInBounds_toArray, List.set_cons_zero, List.set_cons_succ]
      refine wpAnyH_take (i := 49) (v := ?_) rfl (by kernel_rfl) (by kernel_rfl) (by kernel_rfl) (fun _ _ _ h => h) (Or.inl ⟨by rfl, ?_⟩) hH ?_
      rotate_left
      · (intro w hSw; simp only [List.getElem_toArray, List.getElem_cons_succ, List.getElem_cons_zero]; first | (go_simp; done) | (go_simp; with_reducible rfl))
      simp only [List.getElem_toArray, List.getElem_cons_succ, List.getElem_cons_zero, Act.put, List.setIfInBounds_toArray, List.set_cons_zero, List.set_cons_succ]
      refine wpAnyH_take (i := 50) (v := ?_) rfl (by kernel_rfl) (by kernel_rfl) (by kernel_rfl) (fun _ _ _ h => h) (Or.inl ⟨by rfl, ?_⟩) hH ?_
      rotate_left
      · (intro w hSw; simp only [List.getElem_toArray, List.getElem_cons_succ, List.getElem_cons_zero]; first | (go_simp; done) | (go_simp; with_reducible rfl))
      simp only [List.getElem_toArray, List.getElem_cons_succ, List.getElem_cons_zero, Act.put, List.setIfInBounds_toArray, List.set_cons_zero, List.set_cons_succ]
      refine wpAnyH_take (i := 51) (v := ?_) rfl (by kernel_rfl) (by kernel_rfl) (by kernel_rfl) (fun _ _ _ h => h) (Or.inl ⟨by rfl, ?_⟩) hH ?_
      rotate_left
      · (intro w hSw; simp only [List.getElem_toArray, List.getElem_cons_succ, List.getElem_cons_zero]; first | (go_simp; done) | (go_simp; with_reducible rfl))
      simp only [List.getElem_toArray, List.getElem_cons_succ, List.getElem_cons_zero, Act.put, List.setIfInBounds_toArray, List.set_cons_zero]
      refine wpAnyH_done (by kernel_rfl) ?_ _
      refine NoPanic.normal ?_
      go_wp2_with fail
      go_ret
      exact ⟨rfl, HW3.out.trans ((HW4.out.trans ((HW5.out.trans ((HW58.out.trans (hH.mono HW58.out.size)).mono HW5.out.size)).mono HW4.out.size)).mono HW3.out.size)⟩
end Go.Proofs.YtbjfkliijhnloaaDoor
