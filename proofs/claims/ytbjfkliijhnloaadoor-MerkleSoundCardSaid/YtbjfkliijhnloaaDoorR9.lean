/- The reference's collision finder for a proof: bootchainref03's Collides. -/
import Derived.Test.YtbjfkliijhnloaaDoorR8
namespace Go.Proofs.YtbjfkliijhnloaaDoor
open Go.RowKit
set_option linter.unusedVariables false

set_option maxRecDepth 100000 in
set_option maxHeartbeats 8000000 in
theorem coll_any (f : Nat) : ∀ (ds : List (List UInt8)) (i : Nat) (leaf : List UInt8) (proof : List (List UInt8)) (a : Option Addr) (n c : Nat) (a' : Option Addr) (m c' : Nat) (w : World), ds.length < f → i < ds.length → ds.length ≤ 100000 → leaf.length = 16 → All16 ds → All16 proof → Tab w → n = ds.length → n ≤ c → m = proof.length → m ≤ c' → m ≤ 1000000 → DigB w.heap.size w a ds → DigB w.heap.size w a' proof →
    Calls Tryd.prog 23 #[.slice a n c, .int .i64 i, .agg (leaf.map u8).toArray, .slice a' m c'] w fun e w' => e = .returned (.bool (collF ds i leaf proof)) ∧ Below w.heap.size w w' := by
  induction f with
  | zero => intro ds i leaf proof a n c a' m c' w h; omega
  | succ f ih =>
    intro ds i leaf proof a n c a' m c' w hf hin hn2 hl16 hd16 hp16 hT hn hnc hm hmc hm2 hds hpr
    subst hn hm
    have hs1 : (List.map u8 leaf).toArray.size = 16 := by simp [hl16]
    obtain ⟨W0, hW0⟩ : ∃ W0, w.alloc (.cells (leaf.map u8).toArray 28) = W0 := ⟨_, rfl⟩
    have hb0 : Below w.heap.size w W0 := by rw [← hW0]; exact below_alloc w _
    have hz0 : w.heap.size < W0.heap.size := by rw [← hW0]; simp
    have HRL := hid (show W0.rangeAt w.heap.size 0 (leaf.map u8) by rw [← hW0]; exact dig_range w leaf _)
    have HIH := hid ih
    have HB1 := hid hT.lt
    have HT := hid (hT.keep hb0)
    have HDS := hid ((hds.keep hb0).mono hb0.size)
    have HPR := hid ((hpr.keep hb0).mono hb0.size)
    have HB0 := hid hb0; have H16 := hid hd16; have HP16 := hid hp16; have HW0 := hid hW0
    have i0 : ¬ ((i : Int) < 0) := by omega
    have i1 : ¬ ((i : Int) ≥ (ds.length : Int)) := by omega
    obtain ⟨b, off, rfl, hbl, -, -⟩ := HDS.out 0 (by omega)
    clear ih hT hds hpr hb0 hd16 hp16 hW0
    by_cases h1 : ds.length = 1
    ·
      --[A
      have HE := hid (collF_one h1 i leaf proof)
      obtain ⟨b', off', e', -, -, hrg⟩ := HDS.out 0 (by omega)
      cases e'
      have hy16 := H16.out _ (List.getElem_mem (show 0 < ds.length by omega))
      have hye : ds.getD 0 [] = ds[0]'(by omega) := by rw [List.getD, List.getElem?_eq_getElem (by omega)]; rfl
      obtain ⟨y, hy⟩ : ∃ y, ds[0]'(by omega) = y := ⟨_, rfl⟩
      rw [hy] at hrg hy16 hye
      rw [hye] at HE
      rw [Nat.mul_zero, Nat.add_zero] at hrg
      have HL4 := hid (show ∀ p ∈ [(b, off, y), (w.heap.size, 0, leaf)], W0.rangeAt p.1 p.2.1 (p.2.2.map u8) ∧ p.1 < W0.heap.size from fun p hp => by
        simp only [List.mem_cons, List.not_mem_nil, or_false] at hp
        rcases hp with rfl | rfl
        · exact ⟨hrg, hbl⟩
        · exact ⟨HRL.out, hz0⟩)
      have q1 : (ds.length : Int) = 1 := by omega
      clear hy hye hrg
      by_cases hyl : y = leaf
      · have HF := hid (show collF ds i leaf proof = false by rw [HE.out, decide_eq_true hyl]; rfl)
        have heq1 : ∀ W, (Op.equalIn 10000 28 (.agg (y.map u8).toArray) (.agg (leaf.map u8).toArray)).run Tryd.prog W = .ok true W := fun W => by rw [eqIn_dig y leaf hy16 hl16 W, decide_eq_true hyl]
        have HYL := hid hyl
        clear hyl
        go_enter Tryd.func23, Tryd.ntmps23
        go_upto_region 1 with (fail)
        rw [HW0.out]
        go_wp2_with fail
        have HB0S := hid (show W0.heap.size ≤ W0.heap.size from Nat.le_refl _)
        refine wp_region_noPanic ?_
        refine wp_region_held_drew (S := Sx (W0.heap.size) W0 [(b, off, y), (w.heap.size, 0, leaf)]) (by kernel_rfl) (Sx.start (HL4.out)) (fun hH => ?_)
        refine wpAnyH_take (i := 0) (v := ?_) rfl (by kernel_rfl) (by kernel_rfl) (by kernel_rfl) (fun _ _ _ h => h) (Or.inl ⟨by rfl, ?_⟩) hH ?_
        rotate_left
        · (intro w hSw; simp only [List.getElem_toArray, List.getElem_cons_zero]; first | (go_simp; done) | (go_simp; with_reducible rfl))
        simp only [List.getElem_toArray, List.getElem_cons_zero, Act.put, List.setIfInBounds_toArray, List.set_cons_zero, List.set_cons_succ]
        refine wpAnyH_take (i := 1) (v := ?_) rfl (by kernel_rfl) (by kernel_rfl) (by kernel_rfl) (fun _ _ _ h => h) (Or.inl ⟨by rfl, ?_⟩) hH ?_
        rotate_left
        · (intro w hSw; simp only [List.getElem_toArray, List.getElem_cons_succ, List.getElem_cons_zero]; first | (go_simp; done) | (go_simp; with_reducible rfl))
        simp only [List.getElem_toArray, List.getElem_cons_succ, List.getElem_cons_zero, Act.put, List.setIfInBounds_toArray, List.set_cons_zero, List.set_cons_succ]
        refine wpAnyH_take (i := 2) rfl (by kernel_rfl) (by kernel_rfl) (by kernel_rfl) (fun _ _ _ h => h) (yieldsIf_load_mid (by rfl) _ _ rfl b off rfl (y.map u8) _ (fun w h => Sx.get h (k := 0) rfl) under28 rfl (info16 y hy16)) hH ?_
        simp only [List.getElem_toArray, List.getElem_cons_succ, List.getElem_cons_zero, Act.put, List.setIfInBounds_toArray, List.set_cons_zero, List.set_cons_succ]
        refine wpAnyH_take (i := 3) rfl (by kernel_rfl) (by kernel_rfl) (by kernel_rfl) (fun _ _ _ h => h) (yieldsIf_load_mid (by rfl) _ _ rfl w.heap.size 0 rfl (leaf.map u8) _ (fun w h => Sx.get h (k := 1) rfl) under28 rfl (info16 leaf hl16)) hH ?_
        simp only [List.getElem_toArray, List.getElem_cons_succ, List.getElem_cons_zero, Act.put, List.setIfInBounds_toArray, List.set_cons_zero, List.set_cons_succ]
        refine wpAnyH_take (i := 4) (v := ?_) rfl (by kernel_rfl) (by kernel_rfl) (by kernel_rfl) (fun _ _ _ h => h) (Or.inl ⟨by rfl, ?_⟩) hH ?_
        rotate_left
        · (intro w hSw; simp only [List.getElem_toArray, List.getElem_cons_succ, List.getElem_cons_zero]; first | (go_simp; done) | (go_simp; with_reducible rfl))
        simp only [List.getElem_toArray, List.getElem_cons_succ, List.getElem_cons_zero, Act.put, List.setIfInBounds_toArray, List.set_cons_zero, List.set_cons_succ]
        refine wpAnyH_take (i := 5) (v := ?_) rfl (by kernel_rfl) (by kernel_rfl) (by kernel_rfl) (fun _ _ _ h => h) (Or.inl ⟨by rfl, ?_⟩) hH ?_
        rotate_left
        · (intro w hSw; simp only [List.getElem_toArray, List.getElem_cons_succ, List.getElem_cons_zero]; first | (go_simp; done) | (go_simp; with_reducible rfl))
        simp only [List.getElem_toArray, List.getElem_cons_succ, List.getElem_cons_zero, Act.put, List.setIfInBounds_toArray, List.set_cons_zero, List.set_cons_succ]
        refine wpAnyH_take (i := 6) (v := undef) rfl (by kernel_rfl) (by kernel_rfl) (by kernel_rfl) (fun _ _ _ h => h) (Or.inr ⟨by rfl, rfl⟩) hH ?_
        simp only [List.getElem_toArray, List.getElem_cons_succ, List.getElem_cons_zero, Act.put, List.setIfInBounds_toArray, List.set_cons_zero, List.set_cons_succ]
        refine wpAnyH_take (i := 7) (v := undef) rfl (by kernel_rfl) (by kernel_rfl) (by kernel_rfl) (fun _ _ _ h => h) (Or.inr ⟨by rfl, rfl⟩) hH ?_
        simp only [List.getElem_toArray, List.getElem_cons_succ, List.getElem_cons_zero, Act.put, List.setIfInBounds_toArray, List.set_cons_zero, List.set_cons_succ]
        refine wpAnyH_take (i := 8) (v := undef) rfl (by kernel_rfl) (by kernel_rfl) (by kernel_rfl) (fun _ _ _ h => h) (Or.inr ⟨by rfl, rfl⟩) hH ?_
        simp only [List.getElem_toArray, List.getElem_cons_succ, List.getElem_cons_zero, Act.put, List.setIfInBounds_toArray, List.set_cons_zero, List.set_cons_succ]
        refine wpAnyH_take (i := 9) (v := undef) rfl (by kernel_rfl) (by kernel_rfl) (by kernel_rfl) (fun _ _ _ h => h) (Or.inr ⟨by rfl, rfl⟩) hH ?_
        simp only [List.getElem_toArray, List.getElem_cons_succ, List.getElem_cons_zero, Act.put, List.setIfInBounds_toArray, List.set_cons_zero, List.set_cons_succ]
        refine wpAnyH_take (i := 10) (v := undef) rfl (by kernel_rfl) (by kernel_rfl) (by kernel_rfl) (fun _ _ _ h => h) (Or.inr ⟨by rfl, rfl⟩) hH ?_
        simp only [List.getElem_toArray, List.getElem_cons_succ, List.getElem_cons_zero, Act.put, List.setIfInBounds_toArray, List.set_cons_zero, List.set_cons_succ]
        refine wpAnyH_take (i := 11) (v := undef) rfl (by kernel_rfl) (by kernel_rfl) (by kernel_rfl) (fun _ _ _ h => h) (Or.inr ⟨by rfl, rfl⟩) hH ?_
        simp only [List.getElem_toArray, List.getElem_cons_succ, List.getElem_cons_zero, Act.put, List.setIfInBounds_toArray, List.set_cons_zero, List.set_cons_succ]
        refine wpAnyH_take (i := 12) (v := undef) rfl (by kernel_rfl) (by kernel_rfl) (by kernel_rfl) (fun _ _ _ h => h) (Or.inr ⟨by rfl, rfl⟩) hH ?_
        simp only [List.getElem_toArray, List.getElem_cons_succ, List.getElem_cons_zero, Act.put, List.setIfInBounds_toArray, List.set_cons_zero, List.set_cons_succ]
        refine wpAnyH_take (i := 13) (v := ?_) rfl (by kernel_rfl) (by kernel_rfl) (by kernel_rfl) (fun _ _ _ h => h) (Or.inl ⟨by rfl, ?_⟩) hH ?_
        rotate_left
        · (intro w hSw; simp only [List.getElem_toArray, List.getElem_cons_succ, List.getElem_cons_zero]; first | (go_simp; done) | (go_simp; with_reducible rfl))
        simp only [List.getElem_toArray, List.getElem_cons_succ, List.getElem_cons_zero, Act.put, List.setIfInBounds_toArray, List.set_cons_zero, List.set_cons_succ]
        refine wpAnyH_take (i := 14) (v := ?_) rfl (by kernel_rfl) (by kernel_rfl) (by kernel_rfl) (fun _ _ _ h => h) (Or.inl ⟨by rfl, ?_⟩) hH ?_
        rotate_left
        · (intro w hSw; simp only [List.getElem_toArray, List.getElem_cons_succ, List.getElem_cons_zero]; first | (go_simp; done) | (go_simp; with_reducible rfl))
        simp only [List.getElem_toArray, List.getElem_cons_succ, List.getElem_cons_zero, Act.put, List.setIfInBounds_toArray, List.set_cons_zero, List.set_cons_succ]
        refine wpAnyH_done (by kernel_rfl) ?_ _
        refine NoPanic.normal ?_
        go_wp2_with fail
        go_ret
        exact ⟨ret_bool HF.out.symm, HB0.out.trans (hH.below.mono HB0.out.size)⟩
      · obtain ⟨l1, hl1⟩ : ∃ l1, leafD y = l1 := ⟨_, rfl⟩
        obtain ⟨l2, hl2⟩ : ∃ l2, leafD leaf = l2 := ⟨_, rfl⟩
        have HF := hid (show collF ds i leaf proof = decide (l1 = l2) by rw [HE.out, decide_eq_false hyl, hl1, hl2]; rfl)
        have HC1 := hid (fun (W : World) (hT : Tab W) => (show Calls Tryd.prog 46 #[.agg (y.map u8).toArray] W fun e w' => e = .returned (dv l1) ∧ Below W.heap.size W w' by rw [← hl1]; exact leaf1_any y hy16 W hT))
        have HC2 := hid (fun (W : World) (hT : Tab W) => (show Calls Tryd.prog 46 #[.agg (leaf.map u8).toArray] W fun e w' => e = .returned (dv l2) ∧ Below W.heap.size W w' by rw [← hl2]; exact leaf1_any leaf hl16 W hT))
        have h1l : l1.length = 16 := by rw [← hl1]; exact leafD_length _
        have h2l : l2.length = 16 := by rw [← hl2]; exact leafD_length _
        have heq2 := eqIn_dig l1 l2 h1l h2l
        have heq1 : ∀ W, (Op.equalIn 10000 28 (.agg (y.map u8).toArray) (.agg (leaf.map u8).toArray)).run Tryd.prog W = .ok false W := fun W => by rw [eqIn_dig y leaf hy16 hl16 W, decide_eq_false hyl]
        have HYL := hid hyl
        clear hl1 hl2 hyl
        go_enter Tryd.func23, Tryd.ntmps23
        go_upto_region 1 with (fail)
        rw [HW0.out]
        go_wp2_with fail
        have HB0S := hid (show W0.heap.size ≤ W0.heap.size from Nat.le_refl _)
        refine wp_region_noPanic ?_
        refine wp_region_held_drew (S := Sx (W0.heap.size) W0 [(b, off, y), (w.heap.size, 0, leaf)]) (by kernel_rfl) (Sx.start (HL4.out)) (fun hH => ?_)
        refine wpAnyH_take (i := 0) (v := ?_) rfl (by kernel_rfl) (by kernel_rfl) (by kernel_rfl) (fun _ _ _ h => h) (Or.inl ⟨by rfl, ?_⟩) hH ?_
        rotate_left
        · (intro w hSw; simp only [List.getElem_toArray, List.getElem_cons_zero]; first | (go_simp; done) | (go_simp; with_reducible rfl))
        simp only [List.getElem_toArray, List.getElem_cons_zero, Act.put, List.setIfInBounds_toArray, List.set_cons_zero, List.set_cons_succ]
        refine wpAnyH_take (i := 1) (v := ?_) rfl (by kernel_rfl) (by kernel_rfl) (by kernel_rfl) (fun _ _ _ h => h) (Or.inl ⟨by rfl, ?_⟩) hH ?_
        rotate_left
        · (intro w hSw; simp only [List.getElem_toArray, List.getElem_cons_succ, List.getElem_cons_zero]; first | (go_simp; done) | (go_simp; with_reducible rfl))
        simp only [List.getElem_toArray, List.getElem_cons_succ, List.getElem_cons_zero, Act.put, List.setIfInBounds_toArray, List.set_cons_zero, List.set_cons_succ]
        refine wpAnyH_take (i := 2) rfl (by kernel_rfl) (by kernel_rfl) (by kernel_rfl) (fun _ _ _ h => h) (yieldsIf_load_mid (by rfl) _ _ rfl b off rfl (y.map u8) _ (fun w h => Sx.get h (k := 0) rfl) under28 rfl (info16 y hy16)) hH ?_
        simp only [List.getElem_toArray, List.getElem_cons_succ, List.getElem_cons_zero, Act.put, List.setIfInBounds_toArray, List.set_cons_zero, List.set_cons_succ]
        refine wpAnyH_take (i := 3) rfl (by kernel_rfl) (by kernel_rfl) (by kernel_rfl) (fun _ _ _ h => h) (yieldsIf_load_mid (by rfl) _ _ rfl w.heap.size 0 rfl (leaf.map u8) _ (fun w h => Sx.get h (k := 1) rfl) under28 rfl (info16 leaf hl16)) hH ?_
        simp only [List.getElem_toArray, List.getElem_cons_succ, List.getElem_cons_zero, Act.put, List.setIfInBounds_toArray, List.set_cons_zero, List.set_cons_succ]
        refine wpAnyH_take (i := 4) (v := ?_) rfl (by kernel_rfl) (by kernel_rfl) (by kernel_rfl) (fun _ _ _ h => h) (Or.inl ⟨by rfl, ?_⟩) hH ?_
        rotate_left
        · (intro w hSw; simp only [List.getElem_toArray, List.getElem_cons_succ, List.getElem_cons_zero]; first | (go_simp; done) | (go_simp; with_reducible rfl))
        simp only [List.getElem_toArray, List.getElem_cons_succ, List.getElem_cons_zero, Act.put, List.setIfInBounds_toArray, List.set_cons_zero, List.set_cons_succ]
        refine wpAnyH_take (i := 5) (v := ?_) rfl (by kernel_rfl) (by kernel_rfl) (by kernel_rfl) (fun _ _ _ h => h) (Or.inl ⟨by rfl, ?_⟩) hH ?_
        rotate_left
        · (intro w hSw; simp only [List.getElem_toArray, List.getElem_cons_succ, List.getElem_cons_zero]; first | (go_simp; done) | (go_simp; with_reducible rfl))
        simp only [List.getElem_toArray, List.getElem_cons_succ, List.getElem_cons_zero, Act.put, List.setIfInBounds_toArray, List.set_cons_zero, List.set_cons_succ]
        refine wpAnyH_take (i := 6) (v := ?_) rfl (by kernel_rfl) (by kernel_rfl) (by kernel_rfl) (fun _ _ _ h => h) (Or.inl ⟨by rfl, ?_⟩) hH ?_
        rotate_left
        · (intro w hSw; simp only [List.getElem_toArray, List.getElem_cons_succ, List.getElem_cons_zero]; first | (go_simp; done) | (go_simp; with_reducible rfl))
        simp only [List.getElem_toArray, List.getElem_cons_succ, List.getElem_cons_zero, Act.put, List.setIfInBounds_toArray, List.set_cons_zero, List.set_cons_succ]
        refine wpAnyH_take (i := 7) (v := ?_) rfl (by kernel_rfl) (by kernel_rfl) (by kernel_rfl) (fun _ _ _ h => h) (Or.inl ⟨by rfl, ?_⟩) hH ?_
        rotate_left
        · (intro w hSw; simp only [List.getElem_toArray, List.getElem_cons_succ, List.getElem_cons_zero]; first | (go_simp; done) | (go_simp; with_reducible rfl))
        simp only [List.getElem_toArray, List.getElem_cons_succ, List.getElem_cons_zero, Act.put, List.setIfInBounds_toArray, List.set_cons_zero, List.set_cons_succ]
        refine wpAnyH_take (i := 8) rfl (by kernel_rfl) (by kernel_rfl) (by kernel_rfl) (fun _ _ _ h => h) (yieldsIf_load_mid (by rfl) _ _ rfl b off rfl (y.map u8) _ (fun w h => Sx.get h (k := 0) rfl) under28 rfl (info16 y hy16)) hH ?_
        simp only [List.getElem_toArray, List.getElem_cons_succ, List.getElem_cons_zero, Act.put, List.setIfInBounds_toArray, List.set_cons_zero, List.set_cons_succ]
        refine wpAnyH_take (i := 10) rfl (by kernel_rfl) (by kernel_rfl) (by kernel_rfl) (fun _ _ _ h => h) (yieldsIf_load_mid (by rfl) _ _ rfl w.heap.size 0 rfl (leaf.map u8) _ (fun w h => Sx.get h (k := 1) rfl) under28 rfl (info16 leaf hl16)) hH ?_
        simp only [List.getElem_toArray, List.getElem_cons_succ, List.getElem_cons_zero, Act.put, List.setIfInBounds_toArray, List.set_cons_zero, List.set_cons_succ]
        refine wpAnyH_ready (rs := [9]) (by kernel_rfl) (by simp) ?_
        refine AllReadyH.cons rfl (fun K hK => ?_) AllReadyH.nil
        simp only [List.getElem_toArray, List.getElem_cons_succ, List.getElem_cons_zero]
        go_simp
        (with_reducible refine (HC1.out _ (HT.out.keep hH.below)).mono ?_)
        rintro e z1 ⟨rfl, hb5⟩
        have HBS := hid hb5
        clear hb5
        go_wp2_with fail
        refine hK.out _ _ ?_ (fun hH => ?_)
        · exact hH.call HBS.out HB0S.out
        clear hK K
        try simp only [Act.put, List.setIfInBounds_toArray, List.set_cons_zero, List.set_cons_succ]
        refine wpAnyH_ready (rs := [11]) (by kernel_rfl) (by simp) ?_
        refine AllReadyH.cons rfl (fun K hK => ?_) AllReadyH.nil
        simp only [List.getElem_toArray, List.getElem_cons_succ, List.getElem_cons_zero]
        go_simp
        (with_reducible refine (HC2.out _ (HT.out.keep hH.below)).mono ?_)
        rintro e z2 ⟨rfl, hb5⟩
        have HBS := hid hb5
        clear hb5
        go_wp2_with fail
        refine hK.out _ _ ?_ (fun hH => ?_)
        · exact hH.call HBS.out HB0S.out
        clear hK K
        try simp only [Act.put, List.setIfInBounds_toArray, List.set_cons_zero, List.set_cons_succ]
        refine wpAnyH_take (i := 12) (v := ?_) rfl (by kernel_rfl) (by kernel_rfl) (by kernel_rfl) (fun _ _ _ h => h) (Or.inl ⟨by rfl, ?_⟩) hH ?_
        rotate_left
        · (intro w hSw; simp only [List.getElem_toArray, List.getElem_cons_succ, List.getElem_cons_zero]; first | (go_simp; done) | (go_simp; with_reducible rfl))
        simp only [List.getElem_toArray, List.getElem_cons_succ, List.getElem_cons_zero, Act.put, List.setIfInBounds_toArray, List.set_cons_zero, List.set_cons_succ]
        refine wpAnyH_take (i := 13) (v := ?_) rfl (by kernel_rfl) (by kernel_rfl) (by kernel_rfl) (fun _ _ _ h => h) (Or.inl ⟨by rfl, ?_⟩) hH ?_
        rotate_left
        · (intro w hSw; simp only [List.getElem_toArray, List.getElem_cons_succ, List.getElem_cons_zero]; first | (go_simp; done) | (go_simp; with_reducible rfl))
        simp only [List.getElem_toArray, List.getElem_cons_succ, List.getElem_cons_zero, Act.put, List.setIfInBounds_toArray, List.set_cons_zero, List.set_cons_succ]
        refine wpAnyH_take (i := 14) (v := ?_) rfl (by kernel_rfl) (by kernel_rfl) (by kernel_rfl) (fun _ _ _ h => h) (Or.inl ⟨by rfl, ?_⟩) hH ?_
        rotate_left
        · (intro w hSw; simp only [List.getElem_toArray, List.getElem_cons_succ, List.getElem_cons_zero]; first | (go_simp; done) | (go_simp; with_reducible rfl))
        simp only [List.getElem_toArray, List.getElem_cons_succ, List.getElem_cons_zero, Act.put, List.setIfInBounds_toArray, List.set_cons_zero, List.set_cons_succ]
        refine wpAnyH_done (by kernel_rfl) ?_ _
        refine NoPanic.normal ?_
        go_wp2_with fail
        go_ret
        exact ⟨ret_bool HF.out.symm, HB0.out.trans (hH.below.mono HB0.out.size)⟩
      --]A
    · by_cases hp0 : proof.length = 0
      · have HF := hid (collF_nil (show 1 < ds.length by omega) i leaf proof hp0)
        have q1 : ¬ ((ds.length : Int) = 1) := by omega
        have q3 : (proof.length : Int) = 0 := by omega
        go_enter Tryd.func23, Tryd.ntmps23
        go_upto_region 1 with (fail)
        rw [HW0.out]
        go_wp2_with fail
        go_ret
        exact ⟨ret_bool HF.out.symm, HB0.out⟩
      · have hk := splitF_spec (show 1 < ds.length by omega)
        obtain ⟨k, hke⟩ : ∃ k, splitF ds.length = k := ⟨_, rfl⟩
        have hcl := HPR.out (proof.length - 1) (by omega)
        obtain ⟨b', off', rfl, hbl', -, hrg⟩ := hcl
        have hx16 := HP16.out _ (List.getElem_mem (show proof.length - 1 < proof.length by omega))
        have hxe : proof.getD (proof.length - 1) [] = proof[proof.length - 1]'(by omega) := by rw [List.getD, List.getElem?_eq_getElem (by omega)]; rfl
        obtain ⟨x, hx⟩ : ∃ x, proof[proof.length - 1]'(by omega) = x := ⟨_, rfl⟩
        rw [hx] at hrg hx16 hxe
        rw [Nat.mul_comm] at hrg
        have HX := hid hrg
        have HXE := hid hxe
        have HSP := hid (split3_any ds.length · (by omega) (by omega))
        rw [hke] at hk HSP
        have HKE := hid hke
        have HDL := hid (show proof.dropLast.length = proof.length - 1 from List.length_dropLast)
        have lt : (ds.take k).length = k := by rw [List.length_take]; omega
        have ld : (ds.drop k).length = ds.length - k := by rw [List.length_drop]
        have HLT := hid lt; have HLD := hid ld
        have q1 : ¬ ((ds.length : Int) = 1) := by omega
        have q2 : ¬ ((proof.length : Int) = 0) := by omega
        have q3 : IntKind.i64.wrap ((proof.length : Int) - 1) = ((proof.length - 1 : Nat) : Int) := by rw [IntWalk.i64_in _ (by omega)]; omega
        have q4 : ((proof.length - 1 : Nat) : Int) ≤ (c' : Int) := by omega
        have q5 : (0 : Int) ≤ ((proof.length - 1 : Nat) : Int) := by omega
        have q6 : ((proof.length - 1 : Nat) : Int) < (proof.length : Int) := by omega
        have q7 : (proof.length : Int) - 1 = ((proof.length - 1 : Nat) : Int) := by omega
        have k0 : (0 : Int) ≤ (k : Int) := by omega
        have k1 : (k : Int) ≤ (ds.length : Int) := by omega
        have k2 : (k : Int) ≤ (c : Int) := by omega
        have k3 : (ds.length : Int) ≤ (c : Int) := by omega
        have hck : ¬ (c = k) := by omega
        obtain ⟨l, hl⟩ : ∃ l, rootF (ds.take k) = l := ⟨_, rfl⟩
        obtain ⟨r, hr⟩ : ∃ r, rootF (ds.drop k) = r := ⟨_, rfl⟩
        have hl'16 : l.length = 16 := by rw [← hl]; exact rootF_length _
        have hr'16 : r.length = 16 := by rw [← hr]; exact rootF_length _
        have HRT1 := hid (fun (W : World) (hb : Below W0.heap.size W0 W) => (show Calls Tryd.prog 19 #[.slice (some ⟨b, off, none⟩) k c] W fun e w' => e = .returned (dv l) ∧ Below W.heap.size W w' by
          rw [← hl]; exact root1_any (k + 1) (ds.take k) (some ⟨b, off, none⟩) k c W (by rw [lt]; omega) (H16.out.take k) (HT.out.keep hb) lt.symm (by omega) (by omega) (((HDS.out.take k).keep hb).mono hb.size)))
        have HRT2 := hid (fun (W : World) (hb : Below W0.heap.size W0 W) => (show Calls Tryd.prog 19 #[.slice (some ⟨b, off + k * 16, none⟩) (ds.length - k) (c - k)] W fun e w' => e = .returned (dv r) ∧ Below W.heap.size W w' by
          rw [← hr]; exact root1_any (ds.length - k + 1) (ds.drop k) (some ⟨b, off + k * 16, none⟩) (ds.length - k) (c - k) W (by rw [ld]; omega) (H16.out.drop k) (HT.out.keep hb) ld.symm (by omega) (by omega) (((HDS.out.drop k).keep hb).mono hb.size)))
        have HLE := hid hl; have HRE := hid hr
        clear hke hx hrg hxe lt ld hl hr
        by_cases hlt : i < k
        ·
          --[L
          have d1 : (i : Int) < (k : Int) := by omega
          obtain ⟨⟨d, okb⟩, hcd⟩ : ∃ r, combF k i leaf proof.dropLast = r := ⟨_, rfl⟩
          have HD16 := hid (show d.length = 16 by have := comb_length (k + 1) k i leaf proof.dropLast (Nat.lt_succ_self _) hlt; rw [hcd] at this; exact this)
          have HW := hid (fun (W : World) (hb : Below W0.heap.size W0 W) => (show Calls Tryd.prog 48 #[.int .i64 k, .int .i64 i, .agg (leaf.map u8).toArray, .slice (some ⟨b', off', none⟩) (proof.length - 1) c'] W fun e w' => e = .returned (.tuple #[dv d, .bool okb]) ∧ Below W.heap.size W w' by
            have := comb_any (k + 1) k i leaf proof.dropLast (some ⟨b', off', none⟩) (proof.length - 1) c' W (Nat.lt_succ_self _) hlt (by omega) hl16 HP16.out.init (HT.out.keep hb) HDL.out.symm (by omega) (by omega) ((HPR.out.init.keep hb).mono hb.size)
            rw [hcd] at this; exact this))
          have HE0 := hid (collF_left (show 1 < ds.length by omega) (i := i) (by rw [HKE.out]; exact hlt) leaf proof hp0 (d := d) (l := l) (r := r) (x := x) (by rw [HKE.out, hcd]) (by rw [HKE.out]; exact HLE.out) (by rw [HKE.out]; exact HRE.out) HXE.out)
          rw [HKE.out] at HE0
          obtain ⟨T, hTT⟩ : ∃ T, ((!decide (d = l) || !decide (x = r)) && decide (nodeD d x = nodeD l r)) = T := ⟨_, rfl⟩
          obtain ⟨n1, hn1⟩ : ∃ n1, nodeD d x = n1 := ⟨_, rfl⟩
          obtain ⟨n2, hn2e⟩ : ∃ n2, nodeD l r = n2 := ⟨_, rfl⟩
          have hn1l : n1.length = 16 := by rw [← hn1]; exact nodeD_length _ _
          have hn2l : n2.length = 16 := by rw [← hn2e]; exact nodeD_length _ _
          have HN1 := hid (fun (W : World) (hT : Tab W) => (show Calls Tryd.prog 47 #[.agg (d.map u8).toArray, .agg (x.map u8).toArray] W fun e w' => e = .returned (dv n1) ∧ Below W.heap.size W w' by rw [← hn1]; exact node1_any d x HD16.out hx16 W hT))
          have HN2 := hid (fun (W : World) (hT : Tab W) => (show Calls Tryd.prog 47 #[.agg (l.map u8).toArray, .agg (r.map u8).toArray] W fun e w' => e = .returned (dv n2) ∧ Below W.heap.size W w' by rw [← hn2e]; exact node1_any l r hl'16 hr'16 W hT))
          rw [hn1, hn2e] at hTT
          have HTT := hid hTT
          rw [hn1, hn2e, hTT] at HE0
          have HE := hid HE0.out
          clear hcd HE0 hTT hn1 hn2e
          go_enter Tryd.func23, Tryd.ntmps23
          go_upto_region 1 with (fail)
          rw [HW0.out]
          go_upto_region 12 with (first
            | ((with_reducible refine (HSP.out _).mono ?_); rintro e w2 ⟨rfl, rfl⟩)
            | (go_at_call 19; (with_reducible refine (HRT1.out _ (Below.refl _ _)).mono ?_); rintro e w3 ⟨rfl, hb3⟩; have HB3 := hid hb3; clear hb3)
            | (refine wpList_store_mid rfl _ _ _ rfl w3.heap.size 0 _ rfl rfl (there16 (alloc_there w3 _ _ 16 rfl) _ hl'16) (info16a l hl'16) (all_u8 l) ?_)
            | (go_at_call 19; (with_reducible refine (HRT2.out _ (HB3.out.trans ((below_box w3 _ _ _).mono HB3.out.size))).mono ?_); rintro e w4 ⟨rfl, hb4⟩; have HB4 := hid hb4; clear hb4)
            | (refine wpList_store_mid rfl _ _ _ rfl w4.heap.size 0 _ rfl rfl (there16 (alloc_there w4 _ _ 16 rfl) _ hr'16) (info16a r hr'16) (all_u8 r) ?_))
          obtain ⟨W5, hW5⟩ : ∃ W5, (w4.alloc (.cells #[.int .u8 0, .int .u8 0, .int .u8 0, .int .u8 0, .int .u8 0, .int .u8 0, .int .u8 0, .int .u8 0, .int .u8 0, .int .u8 0, .int .u8 0, .int .u8 0, .int .u8 0, .int .u8 0, .int .u8 0, .int .u8 0] 28)).setCells w4.heap.size 0 (r.map u8).toArray.toList = W5 := ⟨_, rfl⟩
          rw [hW5]
          have HLV4 := hid (show LV w4 r W5 by rw [← hW5]; exact LV.start w4 _ _ rfl r hr'16)
          have HLV3 := hid (show LV w3 l W5 from ((LV.start w3 _ _ rfl l hl'16).keep HB4.out).keep HLV4.out.below)
          have HB5 := hid (show Below W0.heap.size W0 W5 from HB3.out.trans (HLV3.out.below.mono HB3.out.size))
          have HLT5 := hid (show w.heap.size < w3.heap.size ∧ w3.heap.size < w4.heap.size ∧ w4.heap.size < W5.heap.size from ⟨by have := HB3.out.size; omega, by have := HB4.out.size; rw [size_setCells] at this; simp at this; omega, HLV4.out.lt⟩)
          have HL8 := hid (show ∀ p ∈ [(w.heap.size, 0, leaf)], W5.rangeAt p.1 p.2.1 (p.2.2.map u8) ∧ p.1 < W5.heap.size from fun p hp => by rw [List.mem_singleton.1 hp]; exact ⟨range_keep HRL.out HB5.out hz0, by have := HLT5.out; simp only; omega⟩)
          clear hW5
          go_cut [13, 14] (fun u v wx => ∃ q, u = .pointer (some ⟨q, 0, none⟩) ∧ v = .bool okb ∧ W5.heap.size ≤ q ∧ q < wx.heap.size ∧ wx.rangeAt q 0 (d.map u8) ∧ Below W5.heap.size W5 wx)
          case first =>
            go_wp2_with fail
            have HB0S := hid (show W5.heap.size ≤ W5.heap.size from Nat.le_refl _)
            refine wp_region_noPanic ?_
            refine wp_region_held_drew (S := Sx (W5.heap.size) W5 [(w.heap.size, 0, leaf)]) (by kernel_rfl) (Sx.start (HL8.out)) (fun hH => ?_)
            refine wpAnyH_take (i := 0) (v := ?_) rfl (by kernel_rfl) (by kernel_rfl) (by kernel_rfl) (fun _ _ _ h => h) (Or.inl ⟨by rfl, ?_⟩) hH ?_
            rotate_left
            · (intro w hSw; simp only [List.getElem_toArray, List.getElem_cons_zero]; first | (go_simp; done) | (go_simp; with_reducible rfl))
            simp only [List.getElem_toArray, List.getElem_cons_zero, Act.put, List.setIfInBounds_toArray, List.set_cons_zero, List.set_cons_succ]
            refine wpAnyH_take (i := 1) (v := ?_) rfl (by kernel_rfl) (by kernel_rfl) (by kernel_rfl) (fun _ _ _ h => h) (Or.inl ⟨by rfl, ?_⟩) hH ?_
            rotate_left
            · (intro w hSw; simp only [List.getElem_toArray, List.getElem_cons_succ, List.getElem_cons_zero]; first | (go_simp; done) | (go_simp; with_reducible rfl))
            simp only [List.getElem_toArray, List.getElem_cons_succ, List.getElem_cons_zero, Act.put, List.setIfInBounds_toArray, List.set_cons_zero, List.set_cons_succ]
            refine wpAnyH_take (i := 2) rfl (by kernel_rfl) (by kernel_rfl) (by kernel_rfl) (fun _ _ _ h => h) (yieldsIf_load_mid (by rfl) _ _ rfl w.heap.size 0 rfl (leaf.map u8) _ (fun w h => Sx.get h (k := 0) rfl) under28 rfl (info16 leaf hl16)) hH ?_
            simp only [List.getElem_toArray, List.getElem_cons_succ, List.getElem_cons_zero, Act.put, List.setIfInBounds_toArray, List.set_cons_zero, List.set_cons_succ]
            refine wpAnyH_take (i := 3) (v := ?_) rfl (by kernel_rfl) (by kernel_rfl) (by kernel_rfl) (fun _ _ _ h => h) (Or.inl ⟨by rfl, ?_⟩) hH ?_
            rotate_left
            · (intro w hSw; simp only [List.getElem_toArray, List.getElem_cons_succ, List.getElem_cons_zero]; first | (go_simp; done) | (go_simp; with_reducible rfl))
            simp only [List.getElem_toArray, List.getElem_cons_succ, List.getElem_cons_zero, Act.put, List.setIfInBounds_toArray, List.set_cons_zero, List.set_cons_succ]
            refine wpAnyH_take (i := 4) (v := ?_) rfl (by kernel_rfl) (by kernel_rfl) (by kernel_rfl) (fun _ _ _ h => h) (Or.inl ⟨by rfl, ?_⟩) hH ?_
            rotate_left
            · (intro w hSw; simp only [List.getElem_toArray, List.getElem_cons_succ, List.getElem_cons_zero]; first | (go_simp; done) | (go_simp; with_reducible rfl))
            simp only [List.getElem_toArray, List.getElem_cons_succ, List.getElem_cons_zero, Act.put, List.setIfInBounds_toArray, List.set_cons_zero, List.set_cons_succ]
            refine wpAnyH_take (i := 5) (v := ?_) rfl (by kernel_rfl) (by kernel_rfl) (by kernel_rfl) (fun _ _ _ h => h) (Or.inl ⟨by rfl, ?_⟩) hH ?_
            rotate_left
            · (intro w hSw; simp only [List.getElem_toArray, List.getElem_cons_succ, List.getElem_cons_zero]; first | (go_simp; done) | (go_simp; with_reducible rfl))
            simp only [List.getElem_toArray, List.getElem_cons_succ, List.getElem_cons_zero, Act.put, List.setIfInBounds_toArray, List.set_cons_zero, List.set_cons_succ]
            refine wpAnyH_ready (rs := [6, 10]) (by kernel_rfl) (by simp) ?_
            refine AllReadyH.cons rfl (fun K hK => ?_) (AllReadyH.cons rfl (fun K hK => ?_) AllReadyH.nil)
            · simp only [List.getElem_toArray, List.getElem_cons_succ, List.getElem_cons_zero]
              go_simp
              (with_reducible refine (HW.out _ (HB5.out.trans (hH.below.mono HB5.out.size))).mono ?_)
              rintro e z3 ⟨rfl, hb5⟩
              have HBS := hid hb5
              clear hb5
              go_wp2_with fail
              refine hK.out _ _ ?_ (fun hH => ?_)
              · exact hH.call HBS.out HB0S.out
              clear hK K
              try simp only [Act.put, List.setIfInBounds_toArray, List.set_cons_zero, List.set_cons_succ]
              refine wpAnyH_take (i := 7) (v := ?_) rfl (by kernel_rfl) (by kernel_rfl) (by kernel_rfl) (fun _ _ _ h => h) (Or.inl ⟨by rfl, ?_⟩) hH ?_
              rotate_left
              · (intro w hSw; simp only [List.getElem_toArray, List.getElem_cons_succ, List.getElem_cons_zero]; first | (go_simp; done) | (go_simp; with_reducible rfl))
              simp only [List.getElem_toArray, List.getElem_cons_succ, List.getElem_cons_zero, Act.put, List.setIfInBounds_toArray, List.set_cons_zero, List.set_cons_succ]
              refine wpAnyH_take (i := 8) (v := ?_) rfl (by kernel_rfl) (by kernel_rfl) (by kernel_rfl) (fun _ _ _ h => h) (Or.inl ⟨by rfl, ?_⟩) hH ?_
              rotate_left
              · (intro w hSw; simp only [List.getElem_toArray, List.getElem_cons_succ, List.getElem_cons_zero]; first | (go_simp; done) | (go_simp; with_reducible rfl))
              simp only [List.getElem_toArray, List.getElem_cons_succ, List.getElem_cons_zero, Act.put, List.setIfInBounds_toArray, List.set_cons_zero, List.set_cons_succ]
              refine wpAnyH_take (i := 9) (v := ?_) rfl (by kernel_rfl) (by kernel_rfl) (by kernel_rfl) (fun _ _ _ h => h) (Or.inl ⟨by rfl, ?_⟩) hH ?_
              rotate_left
              · (intro w hSw; simp only [List.getElem_toArray, List.getElem_cons_succ, List.getElem_cons_zero]; first | (go_simp; done) | (go_simp; with_reducible rfl))
              simp only [List.getElem_toArray, List.getElem_cons_succ, List.getElem_cons_zero, Act.put, List.setIfInBounds_toArray, List.set_cons_zero, List.set_cons_succ]
              refine wpAnyH_ready (rs := [10]) (by kernel_rfl) (by simp) ?_
              refine AllReadyH.cons rfl (fun K hK => ?_) AllReadyH.nil
              simp only [List.getElem_toArray, List.getElem_cons_succ, List.getElem_cons_zero]
              obtain ⟨q, hq⟩ : ∃ q, z3.heap.size = q := ⟨_, rfl⟩
              have HTq := hid (show (z3.alloc (.cells #[.int .u8 0, .int .u8 0, .int .u8 0, .int .u8 0, .int .u8 0, .int .u8 0, .int .u8 0, .int .u8 0, .int .u8 0, .int .u8 0, .int .u8 0, .int .u8 0, .int .u8 0, .int .u8 0, .int .u8 0, .int .u8 0] 28)).there q 0 16 ∧ q < (z3.alloc (.cells #[.int .u8 0, .int .u8 0, .int .u8 0, .int .u8 0, .int .u8 0, .int .u8 0, .int .u8 0, .int .u8 0, .int .u8 0, .int .u8 0, .int .u8 0, .int .u8 0, .int .u8 0, .int .u8 0, .int .u8 0, .int .u8 0] 28)).heap.size by rw [← hq]; exact ⟨alloc_there z3 #[.int .u8 0, .int .u8 0, .int .u8 0, .int .u8 0, .int .u8 0, .int .u8 0, .int .u8 0, .int .u8 0, .int .u8 0, .int .u8 0, .int .u8 0, .int .u8 0, .int .u8 0, .int .u8 0, .int .u8 0, .int .u8 0] 28 16 rfl, by simp⟩)
              have HNq := hid (show _ ≤ q by rw [← hq]; exact hH.below.size)
              have hb5 := below_alloc z3 (.cells #[.int .u8 0, .int .u8 0, .int .u8 0, .int .u8 0, .int .u8 0, .int .u8 0, .int .u8 0, .int .u8 0, .int .u8 0, .int .u8 0, .int .u8 0, .int .u8 0, .int .u8 0, .int .u8 0, .int .u8 0, .int .u8 0] 28)
              clear hb5
              go_simp
              first | rw [hq] | (simp at hq; rw [hq]) | skip
              refine hK.out _ _ ?_ (fun hH => ?_)
              · exact hH.alloc HB0S.out _
              clear hK K
              try simp only [Act.put, List.setIfInBounds_toArray, List.set_cons_zero, List.set_cons_succ]
              refine wpAnyH_ready (rs := [11]) (by kernel_rfl) (by simp) ?_
              refine AllReadyH.cons rfl (fun K hK => ?_) AllReadyH.nil
              simp only [List.getElem_toArray, List.getElem_cons_succ, List.getElem_cons_zero]
              rw [if_pos (by rfl)]
              refine wp_store_mid _ _ _ rfl q 0 _ rfl rfl (there16 HTq.out.1 d HD16.out) (info16a d HD16.out) (all_u8 d) ?_
              refine hK.out _ _ ?_ (fun hH => ?_)
              · exact hH.store (Nat.le_trans HB0S.out HNq.out) (fun p hp => by rw [List.mem_singleton.1 hp]; have := HNq.out; have := HLT5.out; simp only; omega) _ _
              clear hK K
              try simp only [Act.put]
              refine wpAnyH_take (i := 12) (v := ?_) rfl (by kernel_rfl) (by kernel_rfl) (by kernel_rfl) (fun _ _ _ h => h) (Or.inl ⟨by rfl, ?_⟩) hH ?_
              rotate_left
              · (intro w hSw; simp only [List.getElem_toArray, List.getElem_cons_succ, List.getElem_cons_zero]; first | (go_simp; done) | (go_simp; with_reducible rfl))
              simp only [List.getElem_toArray, List.getElem_cons_succ, List.getElem_cons_zero, Act.put, List.setIfInBounds_toArray, List.set_cons_zero, List.set_cons_succ]
              refine wpAnyH_done (by kernel_rfl) ?_ _
              refine NoPanic.normal ?_
              go_wp2_with fail
              go_meet
              case rel => exact ⟨q, by first | rfl | (rw [hq]), rfl, HNq.out, by rw [size_setCells]; exact HTq.out.2, World.rangeAt_setCells_same _ _ _ _ (there16 HTq.out.1 d HD16.out), hH.below⟩
            · simp only [List.getElem_toArray, List.getElem_cons_succ, List.getElem_cons_zero]
              obtain ⟨q, hq⟩ : ∃ q, W5.drew.heap.size = q := ⟨_, rfl⟩
              have HTq := hid (show (W5.drew.alloc (.cells #[.int .u8 0, .int .u8 0, .int .u8 0, .int .u8 0, .int .u8 0, .int .u8 0, .int .u8 0, .int .u8 0, .int .u8 0, .int .u8 0, .int .u8 0, .int .u8 0, .int .u8 0, .int .u8 0, .int .u8 0, .int .u8 0] 28)).there q 0 16 ∧ q < (W5.drew.alloc (.cells #[.int .u8 0, .int .u8 0, .int .u8 0, .int .u8 0, .int .u8 0, .int .u8 0, .int .u8 0, .int .u8 0, .int .u8 0, .int .u8 0, .int .u8 0, .int .u8 0, .int .u8 0, .int .u8 0, .int .u8 0, .int .u8 0] 28)).heap.size by rw [← hq]; exact ⟨alloc_there W5.drew #[.int .u8 0, .int .u8 0, .int .u8 0, .int .u8 0, .int .u8 0, .int .u8 0, .int .u8 0, .int .u8 0, .int .u8 0, .int .u8 0, .int .u8 0, .int .u8 0, .int .u8 0, .int .u8 0, .int .u8 0, .int .u8 0] 28 16 rfl, by simp⟩)
              have HNq := hid (show _ ≤ q by rw [← hq]; exact hH.below.size)
              have hb5 := below_alloc W5.drew (.cells #[.int .u8 0, .int .u8 0, .int .u8 0, .int .u8 0, .int .u8 0, .int .u8 0, .int .u8 0, .int .u8 0, .int .u8 0, .int .u8 0, .int .u8 0, .int .u8 0, .int .u8 0, .int .u8 0, .int .u8 0, .int .u8 0] 28)
              clear hb5
              go_simp
              first | rw [hq] | (simp at hq; rw [hq]) | skip
              refine hK.out _ _ ?_ (fun hH => ?_)
              · exact hH.alloc HB0S.out _
              clear hK K
              try simp only [Act.put, List.setIfInBounds_toArray, List.set_cons_zero, List.set_cons_succ]
              refine wpAnyH_ready (rs := [6]) (by kernel_rfl) (by simp) ?_
              refine AllReadyH.cons rfl (fun K hK => ?_) AllReadyH.nil
              simp only [List.getElem_toArray, List.getElem_cons_succ, List.getElem_cons_zero]
              go_simp
              (with_reducible refine (HW.out _ (HB5.out.trans (hH.below.mono HB5.out.size))).mono ?_)
              rintro e z4 ⟨rfl, hb5⟩
              have HTq := hid (keepT2 HTq.out hb5)
              have HBS := hid hb5
              clear hb5
              go_wp2_with fail
              refine hK.out _ _ ?_ (fun hH => ?_)
              · exact hH.call HBS.out HB0S.out
              clear hK K
              try simp only [Act.put, List.setIfInBounds_toArray, List.set_cons_zero, List.set_cons_succ]
              refine wpAnyH_take (i := 7) (v := ?_) rfl (by kernel_rfl) (by kernel_rfl) (by kernel_rfl) (fun _ _ _ h => h) (Or.inl ⟨by rfl, ?_⟩) hH ?_
              rotate_left
              · (intro w hSw; simp only [List.getElem_toArray, List.getElem_cons_succ, List.getElem_cons_zero]; first | (go_simp; done) | (go_simp; with_reducible rfl))
              simp only [List.getElem_toArray, List.getElem_cons_succ, List.getElem_cons_zero, Act.put, List.setIfInBounds_toArray, List.set_cons_zero, List.set_cons_succ]
              refine wpAnyH_take (i := 8) (v := ?_) rfl (by kernel_rfl) (by kernel_rfl) (by kernel_rfl) (fun _ _ _ h => h) (Or.inl ⟨by rfl, ?_⟩) hH ?_
              rotate_left
              · (intro w hSw; simp only [List.getElem_toArray, List.getElem_cons_succ, List.getElem_cons_zero]; first | (go_simp; done) | (go_simp; with_reducible rfl))
              simp only [List.getElem_toArray, List.getElem_cons_succ, List.getElem_cons_zero, Act.put, List.setIfInBounds_toArray, List.set_cons_zero, List.set_cons_succ]
              refine wpAnyH_take (i := 9) (v := ?_) rfl (by kernel_rfl) (by kernel_rfl) (by kernel_rfl) (fun _ _ _ h => h) (Or.inl ⟨by rfl, ?_⟩) hH ?_
              rotate_left
              · (intro w hSw; simp only [List.getElem_toArray, List.getElem_cons_succ, List.getElem_cons_zero]; first | (go_simp; done) | (go_simp; with_reducible rfl))
              simp only [List.getElem_toArray, List.getElem_cons_succ, List.getElem_cons_zero, Act.put, List.setIfInBounds_toArray, List.set_cons_zero, List.set_cons_succ]
              refine wpAnyH_ready (rs := [11]) (by kernel_rfl) (by simp) ?_
              refine AllReadyH.cons rfl (fun K hK => ?_) AllReadyH.nil
              simp only [List.getElem_toArray, List.getElem_cons_succ, List.getElem_cons_zero]
              rw [if_pos (by rfl)]
              refine wp_store_mid _ _ _ rfl q 0 _ rfl rfl (there16 HTq.out.1 d HD16.out) (info16a d HD16.out) (all_u8 d) ?_
              refine hK.out _ _ ?_ (fun hH => ?_)
              · exact hH.store (Nat.le_trans HB0S.out HNq.out) (fun p hp => by rw [List.mem_singleton.1 hp]; have := HNq.out; have := HLT5.out; simp only; omega) _ _
              clear hK K
              try simp only [Act.put]
              refine wpAnyH_take (i := 12) (v := ?_) rfl (by kernel_rfl) (by kernel_rfl) (by kernel_rfl) (fun _ _ _ h => h) (Or.inl ⟨by rfl, ?_⟩) hH ?_
              rotate_left
              · (intro w hSw; simp only [List.getElem_toArray, List.getElem_cons_succ, List.getElem_cons_zero]; first | (go_simp; done) | (go_simp; with_reducible rfl))
              simp only [List.getElem_toArray, List.getElem_cons_succ, List.getElem_cons_zero, Act.put, List.setIfInBounds_toArray, List.set_cons_zero, List.set_cons_succ]
              refine wpAnyH_done (by kernel_rfl) ?_ _
              refine NoPanic.normal ?_
              go_wp2_with fail
              go_meet
              case rel => exact ⟨q, by first | rfl | (rw [hq]), rfl, HNq.out, by rw [size_setCells]; exact HTq.out.2, World.rangeAt_setCells_same _ _ _ _ (there16 HTq.out.1 d HD16.out), hH.below⟩
          case rest =>
            rename World => W6
            obtain ⟨q, rfl, rfl, hq1, hq2, hq3, hb6⟩ := hcut
            have HB6 := hid hb6
            have HB56 := hid (show Below W0.heap.size W0 W6 from HB5.out.trans (hb6.mono HB5.out.size))
            have HT6 := hid (HT.out.keep HB56.out)
            have HL9 := hid (show ∀ p ∈ [(q, 0, d), (w3.heap.size, 0, l), (w4.heap.size, 0, r), (b', off' + (proof.length - 1) * 16, x)], W6.rangeAt p.1 p.2.1 (p.2.2.map u8) ∧ p.1 < W6.heap.size from fun p hp => by
              have h5 := HLT5.out
              have h6 := HB6.out.size
              have h7 := HB56.out.size
              simp only [List.mem_cons, List.not_mem_nil, or_false] at hp
              rcases hp with rfl | rfl | rfl | rfl
              · exact ⟨hq3, hq2⟩
              · exact ⟨range_keep HLV3.out.rg HB6.out (by omega), by simp only; omega⟩
              · exact ⟨range_keep HLV4.out.rg HB6.out (by omega), by simp only; omega⟩
              · exact ⟨range_keep HX.out HB56.out hbl', by simp only; omega⟩)
            have heqn := eqIn_dig n1 n2 hn1l hn2l
            have HHN := hid heqn
            clear hq3 hb6 heqn
            go_upto_region 13 with (fail)
            go_cut [94] (fun u wx => u = .bool T ∧ Below W6.heap.size W6 wx)
            case first =>
              go_wp2_with fail
              by_cases hc1 : d = l
              · by_cases hc2 : x = r
                · have HTC := hid (show T = false by rw [← HTT.out, decide_eq_true hc1, decide_eq_true hc2]; rfl)
                  have heq1 : ∀ W, (Op.equalIn 10000 28 (.agg (d.map u8).toArray) (.agg (l.map u8).toArray)).run Tryd.prog W = .ok true W := fun W => by rw [eqIn_dig d l HD16.out hl'16 W, decide_eq_true hc1]
                  have heq2 : ∀ W, (Op.equalIn 10000 28 (.agg (x.map u8).toArray) (.agg (r.map u8).toArray)).run Tryd.prog W = .ok true W := fun W => by rw [eqIn_dig x r hx16 hr'16 W, decide_eq_true hc2]
                  have HC := hid (And.intro hc1 hc2)
                  clear hc1 hc2
                  have HB0S := hid (show W6.heap.size ≤ W6.heap.size from Nat.le_refl _)
                  refine wp_region_noPanic ?_
                  refine wp_region_held_drew (S := Sx (W6.heap.size) W6 [(q, 0, d), (w3.heap.size, 0, l), (w4.heap.size, 0, r), (b', off' + (proof.length - 1) * 16, x)]) (by kernel_rfl) (Sx.start (HL9.out)) (fun hH => ?_)
                  refine wpAnyH_take (i := 0) rfl (by kernel_rfl) (by kernel_rfl) (by kernel_rfl) (fun _ _ _ h => h) (yieldsIf_load_mid (by rfl) _ _ rfl q 0 rfl (d.map u8) _ (fun w h => Sx.get h (k := 0) rfl) under28 rfl (info16 d HD16.out)) hH ?_
                  simp only [List.getElem_toArray, List.getElem_cons_zero, Act.put, List.setIfInBounds_toArray, List.set_cons_zero, List.set_cons_succ]
                  refine wpAnyH_take (i := 1) rfl (by kernel_rfl) (by kernel_rfl) (by kernel_rfl) (fun _ _ _ h => h) (yieldsIf_load_mid (by rfl) _ _ rfl w3.heap.size 0 rfl (l.map u8) _ (fun w h => Sx.get h (k := 1) rfl) under28 rfl (info16 l hl'16)) hH ?_
                  simp only [List.getElem_toArray, List.getElem_cons_succ, List.getElem_cons_zero, Act.put, List.setIfInBounds_toArray, List.set_cons_zero, List.set_cons_succ]
                  refine wpAnyH_take (i := 2) (v := ?_) rfl (by kernel_rfl) (by kernel_rfl) (by kernel_rfl) (fun _ _ _ h => h) (Or.inl ⟨by rfl, ?_⟩) hH ?_
                  rotate_left
                  · (intro w hSw; simp only [List.getElem_toArray, List.getElem_cons_succ, List.getElem_cons_zero]; first | (go_simp; done) | (go_simp; with_reducible rfl))
                  simp only [List.getElem_toArray, List.getElem_cons_succ, List.getElem_cons_zero, Act.put, List.setIfInBounds_toArray, List.set_cons_zero, List.set_cons_succ]
                  refine wpAnyH_take (i := 3) (v := ?_) rfl (by kernel_rfl) (by kernel_rfl) (by kernel_rfl) (fun _ _ _ h => h) (Or.inl ⟨by rfl, ?_⟩) hH ?_
                  rotate_left
                  · (intro w hSw; simp only [List.getElem_toArray, List.getElem_cons_succ, List.getElem_cons_zero]; first | (go_simp; done) | (go_simp; with_reducible rfl))
                  simp only [List.getElem_toArray, List.getElem_cons_succ, List.getElem_cons_zero, Act.put, List.setIfInBounds_toArray, List.set_cons_zero, List.set_cons_succ]
                  refine wpAnyH_take (i := 4) (v := ?_) rfl (by kernel_rfl) (by kernel_rfl) (by kernel_rfl) (fun _ _ _ h => h) (Or.inl ⟨by rfl, ?_⟩) hH ?_
                  rotate_left
                  · (intro w hSw; simp only [List.getElem_toArray, List.getElem_cons_succ, List.getElem_cons_zero]; first | (go_simp; done) | (go_simp; with_reducible rfl))
                  simp only [List.getElem_toArray, List.getElem_cons_succ, List.getElem_cons_zero, Act.put, List.setIfInBounds_toArray, List.set_cons_zero, List.set_cons_succ]
                  refine wpAnyH_take (i := 5) (v := ?_) rfl (by kernel_rfl) (by kernel_rfl) (by kernel_rfl) (fun _ _ _ h => h) (Or.inl ⟨by rfl, ?_⟩) hH ?_
                  rotate_left
                  · (intro w hSw; simp only [List.getElem_toArray, List.getElem_cons_succ, List.getElem_cons_zero]; first | (go_simp; done) | (go_simp; with_reducible rfl))
                  simp only [List.getElem_toArray, List.getElem_cons_succ, List.getElem_cons_zero, Act.put, List.setIfInBounds_toArray, List.set_cons_zero, List.set_cons_succ]
                  refine wpAnyH_take (i := 6) (v := ?_) rfl (by kernel_rfl) (by kernel_rfl) (by kernel_rfl) (fun _ _ _ h => h) (Or.inl ⟨by rfl, ?_⟩) hH ?_
                  rotate_left
                  · (intro w hSw; simp only [List.getElem_toArray, List.getElem_cons_succ, List.getElem_cons_zero]; first | (go_simp; done) | (go_simp; with_reducible rfl))
                  simp only [List.getElem_toArray, List.getElem_cons_succ, List.getElem_cons_zero, Act.put, List.setIfInBounds_toArray, List.set_cons_zero, List.set_cons_succ]
                  refine wpAnyH_take (i := 7) rfl (by kernel_rfl) (by kernel_rfl) (by kernel_rfl) (fun _ _ _ h => h) (yieldsIf_load_mid (by rfl) _ _ rfl b' (off' + (proof.length - 1) * 16) rfl (x.map u8) _ (fun w h => Sx.get h (k := 3) rfl) under28 rfl (info16 x hx16)) hH ?_
                  simp only [List.getElem_toArray, List.getElem_cons_succ, List.getElem_cons_zero, Act.put, List.setIfInBounds_toArray, List.set_cons_zero, List.set_cons_succ]
                  refine wpAnyH_take (i := 8) rfl (by kernel_rfl) (by kernel_rfl) (by kernel_rfl) (fun _ _ _ h => h) (yieldsIf_load_mid (by rfl) _ _ rfl w4.heap.size 0 rfl (r.map u8) _ (fun w h => Sx.get h (k := 2) rfl) under28 rfl (info16 r hr'16)) hH ?_
                  simp only [List.getElem_toArray, List.getElem_cons_succ, List.getElem_cons_zero, Act.put, List.setIfInBounds_toArray, List.set_cons_zero, List.set_cons_succ]
                  refine wpAnyH_take (i := 9) (v := ?_) rfl (by kernel_rfl) (by kernel_rfl) (by kernel_rfl) (fun _ _ _ h => h) (Or.inl ⟨by rfl, ?_⟩) hH ?_
                  rotate_left
                  · (intro w hSw; simp only [List.getElem_toArray, List.getElem_cons_succ, List.getElem_cons_zero]; first | (go_simp; done) | (go_simp; with_reducible rfl))
                  simp only [List.getElem_toArray, List.getElem_cons_succ, List.getElem_cons_zero, Act.put, List.setIfInBounds_toArray, List.set_cons_zero, List.set_cons_succ]
                  refine wpAnyH_take (i := 10) (v := ?_) rfl (by kernel_rfl) (by kernel_rfl) (by kernel_rfl) (fun _ _ _ h => h) (Or.inl ⟨by rfl, ?_⟩) hH ?_
                  rotate_left
                  · (intro w hSw; simp only [List.getElem_toArray, List.getElem_cons_succ, List.getElem_cons_zero]; first | (go_simp; done) | (go_simp; with_reducible rfl))
                  simp only [List.getElem_toArray, List.getElem_cons_succ, List.getElem_cons_zero, Act.put, List.setIfInBounds_toArray, List.set_cons_zero, List.set_cons_succ]
                  refine wpAnyH_take (i := 11) (v := ?_) rfl (by kernel_rfl) (by kernel_rfl) (by kernel_rfl) (fun _ _ _ h => h) (Or.inl ⟨by rfl, ?_⟩) hH ?_
                  rotate_left
                  · (intro w hSw; simp only [List.getElem_toArray, List.getElem_cons_succ, List.getElem_cons_zero]; first | (go_simp; done) | (go_simp; with_reducible rfl))
                  simp only [List.getElem_toArray, List.getElem_cons_succ, List.getElem_cons_zero, Act.put, List.setIfInBounds_toArray, List.set_cons_zero, List.set_cons_succ]
                  refine wpAnyH_take (i := 12) (v := undef) rfl (by kernel_rfl) (by kernel_rfl) (by kernel_rfl) (fun _ _ _ h => h) (Or.inr ⟨by rfl, rfl⟩) hH ?_
                  simp only [List.getElem_toArray, List.getElem_cons_succ, List.getElem_cons_zero, Act.put, List.setIfInBounds_toArray, List.set_cons_zero, List.set_cons_succ]
                  refine wpAnyH_take (i := 13) (v := undef) rfl (by kernel_rfl) (by kernel_rfl) (by kernel_rfl) (fun _ _ _ h => h) (Or.inr ⟨by rfl, rfl⟩) hH ?_
                  simp only [List.getElem_toArray, List.getElem_cons_succ, List.getElem_cons_zero, Act.put, List.setIfInBounds_toArray, List.set_cons_zero, List.set_cons_succ]
                  refine wpAnyH_take (i := 14) (v := undef) rfl (by kernel_rfl) (by kernel_rfl) (by kernel_rfl) (fun _ _ _ h => h) (Or.inr ⟨by rfl, rfl⟩) hH ?_
                  simp only [List.getElem_toArray, List.getElem_cons_succ, List.getElem_cons_zero, Act.put, List.setIfInBounds_toArray, List.set_cons_zero, List.set_cons_succ]
                  refine wpAnyH_take (i := 15) (v := undef) rfl (by kernel_rfl) (by kernel_rfl) (by kernel_rfl) (fun _ _ _ h => h) (Or.inr ⟨by rfl, rfl⟩) hH ?_
                  simp only [List.getElem_toArray, List.getElem_cons_succ, List.getElem_cons_zero, Act.put, List.setIfInBounds_toArray, List.set_cons_zero, List.set_cons_succ]
                  refine wpAnyH_take (i := 16) (v := undef) rfl (by kernel_rfl) (by kernel_rfl) (by kernel_rfl) (fun _ _ _ h => h) (Or.inr ⟨by rfl, rfl⟩) hH ?_
                  simp only [List.getElem_toArray, List.getElem_cons_succ, List.getElem_cons_zero, Act.put, List.setIfInBounds_toArray, List.set_cons_zero, List.set_cons_succ]
                  refine wpAnyH_take (i := 17) (v := undef) rfl (by kernel_rfl) (by kernel_rfl) (by kernel_rfl) (fun _ _ _ h => h) (Or.inr ⟨by rfl, rfl⟩) hH ?_
                  simp only [List.getElem_toArray, List.getElem_cons_succ, List.getElem_cons_zero, Act.put, List.setIfInBounds_toArray, List.set_cons_zero, List.set_cons_succ]
                  refine wpAnyH_take (i := 18) (v := undef) rfl (by kernel_rfl) (by kernel_rfl) (by kernel_rfl) (fun _ _ _ h => h) (Or.inr ⟨by rfl, rfl⟩) hH ?_
                  simp only [List.getElem_toArray, List.getElem_cons_succ, List.getElem_cons_zero, Act.put, List.setIfInBounds_toArray, List.set_cons_zero, List.set_cons_succ]
                  refine wpAnyH_take (i := 19) (v := undef) rfl (by kernel_rfl) (by kernel_rfl) (by kernel_rfl) (fun _ _ _ h => h) (Or.inr ⟨by rfl, rfl⟩) hH ?_
                  simp only [List.getElem_toArray, List.getElem_cons_succ, List.getElem_cons_zero, Act.put, List.setIfInBounds_toArray, List.set_cons_zero, List.set_cons_succ]
                  refine wpAnyH_take (i := 20) (v := undef) rfl (by kernel_rfl) (by kernel_rfl) (by kernel_rfl) (fun _ _ _ h => h) (Or.inr ⟨by rfl, rfl⟩) hH ?_
                  simp only [List.getElem_toArray, List.getElem_cons_succ, List.getElem_cons_zero, Act.put, List.setIfInBounds_toArray, List.set_cons_zero, List.set_cons_succ]
                  refine wpAnyH_take (i := 21) (v := undef) rfl (by kernel_rfl) (by kernel_rfl) (by kernel_rfl) (fun _ _ _ h => h) (Or.inr ⟨by rfl, rfl⟩) hH ?_
                  simp only [List.getElem_toArray, List.getElem_cons_succ, List.getElem_cons_zero, Act.put, List.setIfInBounds_toArray, List.set_cons_zero, List.set_cons_succ]
                  refine wpAnyH_take (i := 22) (v := ?_) rfl (by kernel_rfl) (by kernel_rfl) (by kernel_rfl) (fun _ _ _ h => h) (Or.inl ⟨by rfl, ?_⟩) hH ?_
                  rotate_left
                  · (intro w hSw; simp only [List.getElem_toArray, List.getElem_cons_succ, List.getElem_cons_zero]; first | (go_simp; done) | (go_simp; with_reducible rfl))
                  simp only [List.getElem_toArray, List.getElem_cons_succ, List.getElem_cons_zero, Act.put, List.setIfInBounds_toArray, List.set_cons_zero, List.set_cons_succ]
                  refine wpAnyH_done (by kernel_rfl) ?_ _
                  refine NoPanic.normal ?_
                  go_wp2_with fail
                  go_meet
                  case rel => exact ⟨by rw [HTC.out], hH.below⟩
                · have HTC := hid (show T = decide (n1 = n2) by rw [← HTT.out, decide_eq_true hc1, decide_eq_false hc2]; rfl)
                  have heq1 : ∀ W, (Op.equalIn 10000 28 (.agg (d.map u8).toArray) (.agg (l.map u8).toArray)).run Tryd.prog W = .ok true W := fun W => by rw [eqIn_dig d l HD16.out hl'16 W, decide_eq_true hc1]
                  have heq2 : ∀ W, (Op.equalIn 10000 28 (.agg (x.map u8).toArray) (.agg (r.map u8).toArray)).run Tryd.prog W = .ok false W := fun W => by rw [eqIn_dig x r hx16 hr'16 W, decide_eq_false hc2]
                  have heqn := HHN.out
                  have HC := hid (And.intro hc1 hc2)
                  clear hc1 hc2
                  have HB0S := hid (show W6.heap.size ≤ W6.heap.size from Nat.le_refl _)
                  refine wp_region_noPanic ?_
                  refine wp_region_held_drew (S := Sx (W6.heap.size) W6 [(q, 0, d), (w3.heap.size, 0, l), (w4.heap.size, 0, r), (b', off' + (proof.length - 1) * 16, x)]) (by kernel_rfl) (Sx.start (HL9.out)) (fun hH => ?_)
                  refine wpAnyH_take (i := 0) rfl (by kernel_rfl) (by kernel_rfl) (by kernel_rfl) (fun _ _ _ h => h) (yieldsIf_load_mid (by rfl) _ _ rfl q 0 rfl (d.map u8) _ (fun w h => Sx.get h (k := 0) rfl) under28 rfl (info16 d HD16.out)) hH ?_
                  simp only [List.getElem_toArray, List.getElem_cons_zero, Act.put, List.setIfInBounds_toArray, List.set_cons_zero, List.set_cons_succ]
                  refine wpAnyH_take (i := 1) rfl (by kernel_rfl) (by kernel_rfl) (by kernel_rfl) (fun _ _ _ h => h) (yieldsIf_load_mid (by rfl) _ _ rfl w3.heap.size 0 rfl (l.map u8) _ (fun w h => Sx.get h (k := 1) rfl) under28 rfl (info16 l hl'16)) hH ?_
                  simp only [List.getElem_toArray, List.getElem_cons_succ, List.getElem_cons_zero, Act.put, List.setIfInBounds_toArray, List.set_cons_zero, List.set_cons_succ]
                  refine wpAnyH_take (i := 2) (v := ?_) rfl (by kernel_rfl) (by kernel_rfl) (by kernel_rfl) (fun _ _ _ h => h) (Or.inl ⟨by rfl, ?_⟩) hH ?_
                  rotate_left
                  · (intro w hSw; simp only [List.getElem_toArray, List.getElem_cons_succ, List.getElem_cons_zero]; first | (go_simp; done) | (go_simp; with_reducible rfl))
                  simp only [List.getElem_toArray, List.getElem_cons_succ, List.getElem_cons_zero, Act.put, List.setIfInBounds_toArray, List.set_cons_zero, List.set_cons_succ]
                  refine wpAnyH_take (i := 3) (v := ?_) rfl (by kernel_rfl) (by kernel_rfl) (by kernel_rfl) (fun _ _ _ h => h) (Or.inl ⟨by rfl, ?_⟩) hH ?_
                  rotate_left
                  · (intro w hSw; simp only [List.getElem_toArray, List.getElem_cons_succ, List.getElem_cons_zero]; first | (go_simp; done) | (go_simp; with_reducible rfl))
                  simp only [List.getElem_toArray, List.getElem_cons_succ, List.getElem_cons_zero, Act.put, List.setIfInBounds_toArray, List.set_cons_zero, List.set_cons_succ]
                  refine wpAnyH_take (i := 4) (v := ?_) rfl (by kernel_rfl) (by kernel_rfl) (by kernel_rfl) (fun _ _ _ h => h) (Or.inl ⟨by rfl, ?_⟩) hH ?_
                  rotate_left
                  · (intro w hSw; simp only [List.getElem_toArray, List.getElem_cons_succ, List.getElem_cons_zero]; first | (go_simp; done) | (go_simp; with_reducible rfl))
                  simp only [List.getElem_toArray, List.getElem_cons_succ, List.getElem_cons_zero, Act.put, List.setIfInBounds_toArray, List.set_cons_zero, List.set_cons_succ]
                  refine wpAnyH_take (i := 5) (v := ?_) rfl (by kernel_rfl) (by kernel_rfl) (by kernel_rfl) (fun _ _ _ h => h) (Or.inl ⟨by rfl, ?_⟩) hH ?_
                  rotate_left
                  · (intro w hSw; simp only [List.getElem_toArray, List.getElem_cons_succ, List.getElem_cons_zero]; first | (go_simp; done) | (go_simp; with_reducible rfl))
                  simp only [List.getElem_toArray, List.getElem_cons_succ, List.getElem_cons_zero, Act.put, List.setIfInBounds_toArray, List.set_cons_zero, List.set_cons_succ]
                  refine wpAnyH_take (i := 6) (v := ?_) rfl (by kernel_rfl) (by kernel_rfl) (by kernel_rfl) (fun _ _ _ h => h) (Or.inl ⟨by rfl, ?_⟩) hH ?_
                  rotate_left
                  · (intro w hSw; simp only [List.getElem_toArray, List.getElem_cons_succ, List.getElem_cons_zero]; first | (go_simp; done) | (go_simp; with_reducible rfl))
                  simp only [List.getElem_toArray, List.getElem_cons_succ, List.getElem_cons_zero, Act.put, List.setIfInBounds_toArray, List.set_cons_zero, List.set_cons_succ]
                  refine wpAnyH_take (i := 7) rfl (by kernel_rfl) (by kernel_rfl) (by kernel_rfl) (fun _ _ _ h => h) (yieldsIf_load_mid (by rfl) _ _ rfl b' (off' + (proof.length - 1) * 16) rfl (x.map u8) _ (fun w h => Sx.get h (k := 3) rfl) under28 rfl (info16 x hx16)) hH ?_
                  simp only [List.getElem_toArray, List.getElem_cons_succ, List.getElem_cons_zero, Act.put, List.setIfInBounds_toArray, List.set_cons_zero, List.set_cons_succ]
                  refine wpAnyH_take (i := 8) rfl (by kernel_rfl) (by kernel_rfl) (by kernel_rfl) (fun _ _ _ h => h) (yieldsIf_load_mid (by rfl) _ _ rfl w4.heap.size 0 rfl (r.map u8) _ (fun w h => Sx.get h (k := 2) rfl) under28 rfl (info16 r hr'16)) hH ?_
                  simp only [List.getElem_toArray, List.getElem_cons_succ, List.getElem_cons_zero, Act.put, List.setIfInBounds_toArray, List.set_cons_zero, List.set_cons_succ]
                  refine wpAnyH_take (i := 9) (v := ?_) rfl (by kernel_rfl) (by kernel_rfl) (by kernel_rfl) (fun _ _ _ h => h) (Or.inl ⟨by rfl, ?_⟩) hH ?_
                  rotate_left
                  · (intro w hSw; simp only [List.getElem_toArray, List.getElem_cons_succ, List.getElem_cons_zero]; first | (go_simp; done) | (go_simp; with_reducible rfl))
                  simp only [List.getElem_toArray, List.getElem_cons_succ, List.getElem_cons_zero, Act.put, List.setIfInBounds_toArray, List.set_cons_zero, List.set_cons_succ]
                  refine wpAnyH_take (i := 10) (v := ?_) rfl (by kernel_rfl) (by kernel_rfl) (by kernel_rfl) (fun _ _ _ h => h) (Or.inl ⟨by rfl, ?_⟩) hH ?_
                  rotate_left
                  · (intro w hSw; simp only [List.getElem_toArray, List.getElem_cons_succ, List.getElem_cons_zero]; first | (go_simp; done) | (go_simp; with_reducible rfl))
                  simp only [List.getElem_toArray, List.getElem_cons_succ, List.getElem_cons_zero, Act.put, List.setIfInBounds_toArray, List.set_cons_zero, List.set_cons_succ]
                  refine wpAnyH_take (i := 11) (v := ?_) rfl (by kernel_rfl) (by kernel_rfl) (by kernel_rfl) (fun _ _ _ h => h) (Or.inl ⟨by rfl, ?_⟩) hH ?_
                  rotate_left
                  · (intro w hSw; simp only [List.getElem_toArray, List.getElem_cons_succ, List.getElem_cons_zero]; first | (go_simp; done) | (go_simp; with_reducible rfl))
                  simp only [List.getElem_toArray, List.getElem_cons_succ, List.getElem_cons_zero, Act.put, List.setIfInBounds_toArray, List.set_cons_zero, List.set_cons_succ]
                  refine wpAnyH_take (i := 12) rfl (by kernel_rfl) (by kernel_rfl) (by kernel_rfl) (fun _ _ _ h => h) (yieldsIf_load_mid (by rfl) _ _ rfl q 0 rfl (d.map u8) _ (fun w h => Sx.get h (k := 0) rfl) under28 rfl (info16 d HD16.out)) hH ?_
                  simp only [List.getElem_toArray, List.getElem_cons_succ, List.getElem_cons_zero, Act.put, List.setIfInBounds_toArray, List.set_cons_zero, List.set_cons_succ]
                  refine wpAnyH_take (i := 13) (v := ?_) rfl (by kernel_rfl) (by kernel_rfl) (by kernel_rfl) (fun _ _ _ h => h) (Or.inl ⟨by rfl, ?_⟩) hH ?_
                  rotate_left
                  · (intro w hSw; simp only [List.getElem_toArray, List.getElem_cons_succ, List.getElem_cons_zero]; first | (go_simp; done) | (go_simp; with_reducible rfl))
                  simp only [List.getElem_toArray, List.getElem_cons_succ, List.getElem_cons_zero, Act.put, List.setIfInBounds_toArray, List.set_cons_zero, List.set_cons_succ]
                  refine wpAnyH_take (i := 14) (v := ?_) rfl (by kernel_rfl) (by kernel_rfl) (by kernel_rfl) (fun _ _ _ h => h) (Or.inl ⟨by rfl, ?_⟩) hH ?_
                  rotate_left
                  · (intro w hSw; simp only [List.getElem_toArray, List.getElem_cons_succ, List.getElem_cons_zero]; first | (go_simp; done) | (go_simp; with_reducible rfl))
                  simp only [List.getElem_toArray, List.getElem_cons_succ, List.getElem_cons_zero, Act.put, List.setIfInBounds_toArray, List.set_cons_zero, List.set_cons_succ]
                  refine wpAnyH_take (i := 15) (v := ?_) rfl (by kernel_rfl) (by kernel_rfl) (by kernel_rfl) (fun _ _ _ h => h) (Or.inl ⟨by rfl, ?_⟩) hH ?_
                  rotate_left
                  · (intro w hSw; simp only [List.getElem_toArray, List.getElem_cons_succ, List.getElem_cons_zero]; first | (go_simp; done) | (go_simp; with_reducible rfl))
                  simp only [List.getElem_toArray, List.getElem_cons_succ, List.getElem_cons_zero, Act.put, List.setIfInBounds_toArray, List.set_cons_zero, List.set_cons_succ]
                  refine wpAnyH_take (i := 16) rfl (by kernel_rfl) (by kernel_rfl) (by kernel_rfl) (fun _ _ _ h => h) (yieldsIf_load_mid (by rfl) _ _ rfl b' (off' + (proof.length - 1) * 16) rfl (x.map u8) _ (fun w h => Sx.get h (k := 3) rfl) under28 rfl (info16 x hx16)) hH ?_
                  simp only [List.getElem_toArray, List.getElem_cons_succ, List.getElem_cons_zero, Act.put, List.setIfInBounds_toArray, List.set_cons_zero, List.set_cons_succ]
                  refine wpAnyH_take (i := 18) rfl (by kernel_rfl) (by kernel_rfl) (by kernel_rfl) (fun _ _ _ h => h) (yieldsIf_load_mid (by rfl) _ _ rfl w3.heap.size 0 rfl (l.map u8) _ (fun w h => Sx.get h (k := 1) rfl) under28 rfl (info16 l hl'16)) hH ?_
                  simp only [List.getElem_toArray, List.getElem_cons_succ, List.getElem_cons_zero, Act.put, List.setIfInBounds_toArray, List.set_cons_zero, List.set_cons_succ]
                  refine wpAnyH_take (i := 19) rfl (by kernel_rfl) (by kernel_rfl) (by kernel_rfl) (fun _ _ _ h => h) (yieldsIf_load_mid (by rfl) _ _ rfl w4.heap.size 0 rfl (r.map u8) _ (fun w h => Sx.get h (k := 2) rfl) under28 rfl (info16 r hr'16)) hH ?_
                  simp only [List.getElem_toArray, List.getElem_cons_succ, List.getElem_cons_zero, Act.put, List.setIfInBounds_toArray, List.set_cons_zero, List.set_cons_succ]
                  refine wpAnyH_ready (rs := [17]) (by kernel_rfl) (by simp) ?_
                  refine AllReadyH.cons rfl (fun K hK => ?_) AllReadyH.nil
                  simp only [List.getElem_toArray, List.getElem_cons_succ, List.getElem_cons_zero]
                  go_simp
                  (with_reducible refine (HN1.out _ (HT6.out.keep hH.below)).mono ?_)
                  rintro e z7 ⟨rfl, hb5⟩
                  have HBS := hid hb5
                  clear hb5
                  go_wp2_with fail
                  refine hK.out _ _ ?_ (fun hH => ?_)
                  · exact hH.call HBS.out HB0S.out
                  clear hK K
                  try simp only [Act.put, List.setIfInBounds_toArray, List.set_cons_zero, List.set_cons_succ]
                  refine wpAnyH_ready (rs := [20]) (by kernel_rfl) (by simp) ?_
                  refine AllReadyH.cons rfl (fun K hK => ?_) AllReadyH.nil
                  simp only [List.getElem_toArray, List.getElem_cons_succ, List.getElem_cons_zero]
                  go_simp
                  (with_reducible refine (HN2.out _ (HT6.out.keep hH.below)).mono ?_)
                  rintro e z8 ⟨rfl, hb5⟩
                  have HBS := hid hb5
                  clear hb5
                  go_wp2_with fail
                  refine hK.out _ _ ?_ (fun hH => ?_)
                  · exact hH.call HBS.out HB0S.out
                  clear hK K
                  try simp only [Act.put, List.setIfInBounds_toArray, List.set_cons_zero, List.set_cons_succ]
                  refine wpAnyH_take (i := 21) (v := ?_) rfl (by kernel_rfl) (by kernel_rfl) (by kernel_rfl) (fun _ _ _ h => h) (Or.inl ⟨by rfl, ?_⟩) hH ?_
                  rotate_left
                  · (intro w hSw; simp only [List.getElem_toArray, List.getElem_cons_succ, List.getElem_cons_zero]; first | (go_simp; done) | (go_simp; with_reducible rfl))
                  simp only [List.getElem_toArray, List.getElem_cons_succ, List.getElem_cons_zero, Act.put, List.setIfInBounds_toArray, List.set_cons_zero, List.set_cons_succ]
                  refine wpAnyH_take (i := 22) (v := ?_) rfl (by kernel_rfl) (by kernel_rfl) (by kernel_rfl) (fun _ _ _ h => h) (Or.inl ⟨by rfl, ?_⟩) hH ?_
                  rotate_left
                  · (intro w hSw; simp only [List.getElem_toArray, List.getElem_cons_succ, List.getElem_cons_zero]; first | (go_simp; done) | (go_simp; with_reducible rfl))
                  simp only [List.getElem_toArray, List.getElem_cons_succ, List.getElem_cons_zero, Act.put, List.setIfInBounds_toArray, List.set_cons_zero, List.set_cons_succ]
                  refine wpAnyH_done (by kernel_rfl) ?_ _
                  refine NoPanic.normal ?_
                  go_wp2_with fail
                  go_meet
                  case rel => exact ⟨by rw [HTC.out], hH.below⟩
              · have HTC := hid (show T = decide (n1 = n2) by rw [← HTT.out, decide_eq_false hc1]; rfl)
                have heq1 : ∀ W, (Op.equalIn 10000 28 (.agg (d.map u8).toArray) (.agg (l.map u8).toArray)).run Tryd.prog W = .ok false W := fun W => by rw [eqIn_dig d l HD16.out hl'16 W, decide_eq_false hc1]
                have heqn := HHN.out
                have HC := hid hc1
                clear hc1
                have HB0S := hid (show W6.heap.size ≤ W6.heap.size from Nat.le_refl _)
                refine wp_region_noPanic ?_
                refine wp_region_held_drew (S := Sx (W6.heap.size) W6 [(q, 0, d), (w3.heap.size, 0, l), (w4.heap.size, 0, r), (b', off' + (proof.length - 1) * 16, x)]) (by kernel_rfl) (Sx.start (HL9.out)) (fun hH => ?_)
                refine wpAnyH_take (i := 0) rfl (by kernel_rfl) (by kernel_rfl) (by kernel_rfl) (fun _ _ _ h => h) (yieldsIf_load_mid (by rfl) _ _ rfl q 0 rfl (d.map u8) _ (fun w h => Sx.get h (k := 0) rfl) under28 rfl (info16 d HD16.out)) hH ?_
                simp only [List.getElem_toArray, List.getElem_cons_zero, Act.put, List.setIfInBounds_toArray, List.set_cons_zero, List.set_cons_succ]
                refine wpAnyH_take (i := 1) rfl (by kernel_rfl) (by kernel_rfl) (by kernel_rfl) (fun _ _ _ h => h) (yieldsIf_load_mid (by rfl) _ _ rfl w3.heap.size 0 rfl (l.map u8) _ (fun w h => Sx.get h (k := 1) rfl) under28 rfl (info16 l hl'16)) hH ?_
                simp only [List.getElem_toArray, List.getElem_cons_succ, List.getElem_cons_zero, Act.put, List.setIfInBounds_toArray, List.set_cons_zero, List.set_cons_succ]
                refine wpAnyH_take (i := 2) (v := ?_) rfl (by kernel_rfl) (by kernel_rfl) (by kernel_rfl) (fun _ _ _ h => h) (Or.inl ⟨by rfl, ?_⟩) hH ?_
                rotate_left
                · (intro w hSw; simp only [List.getElem_toArray, List.getElem_cons_succ, List.getElem_cons_zero]; first | (go_simp; done) | (go_simp; with_reducible rfl))
                simp only [List.getElem_toArray, List.getElem_cons_succ, List.getElem_cons_zero, Act.put, List.setIfInBounds_toArray, List.set_cons_zero, List.set_cons_succ]
                refine wpAnyH_take (i := 3) (v := ?_) rfl (by kernel_rfl) (by kernel_rfl) (by kernel_rfl) (fun _ _ _ h => h) (Or.inl ⟨by rfl, ?_⟩) hH ?_
                rotate_left
                · (intro w hSw; simp only [List.getElem_toArray, List.getElem_cons_succ, List.getElem_cons_zero]; first | (go_simp; done) | (go_simp; with_reducible rfl))
                simp only [List.getElem_toArray, List.getElem_cons_succ, List.getElem_cons_zero, Act.put, List.setIfInBounds_toArray, List.set_cons_zero, List.set_cons_succ]
                refine wpAnyH_take (i := 4) (v := undef) rfl (by kernel_rfl) (by kernel_rfl) (by kernel_rfl) (fun _ _ _ h => h) (Or.inr ⟨by rfl, rfl⟩) hH ?_
                simp only [List.getElem_toArray, List.getElem_cons_succ, List.getElem_cons_zero, Act.put, List.setIfInBounds_toArray, List.set_cons_zero, List.set_cons_succ]
                refine wpAnyH_take (i := 5) (v := undef) rfl (by kernel_rfl) (by kernel_rfl) (by kernel_rfl) (fun _ _ _ h => h) (Or.inr ⟨by rfl, rfl⟩) hH ?_
                simp only [List.getElem_toArray, List.getElem_cons_succ, List.getElem_cons_zero, Act.put, List.setIfInBounds_toArray, List.set_cons_zero, List.set_cons_succ]
                refine wpAnyH_take (i := 6) (v := undef) rfl (by kernel_rfl) (by kernel_rfl) (by kernel_rfl) (fun _ _ _ h => h) (Or.inr ⟨by rfl, rfl⟩) hH ?_
                simp only [List.getElem_toArray, List.getElem_cons_succ, List.getElem_cons_zero, Act.put, List.setIfInBounds_toArray, List.set_cons_zero, List.set_cons_succ]
                refine wpAnyH_take (i := 7) (v := undef) rfl (by kernel_rfl) (by kernel_rfl) (by kernel_rfl) (fun _ _ _ h => h) (Or.inr ⟨by rfl, rfl⟩) hH ?_
                simp only [List.getElem_toArray, List.getElem_cons_succ, List.getElem_cons_zero, Act.put, List.setIfInBounds_toArray, List.set_cons_zero, List.set_cons_succ]
                refine wpAnyH_take (i := 8) (v := undef) rfl (by kernel_rfl) (by kernel_rfl) (by kernel_rfl) (fun _ _ _ h => h) (Or.inr ⟨by rfl, rfl⟩) hH ?_
                simp only [List.getElem_toArray, List.getElem_cons_succ, List.getElem_cons_zero, Act.put, List.setIfInBounds_toArray, List.set_cons_zero, List.set_cons_succ]
                refine wpAnyH_take (i := 9) (v := undef) rfl (by kernel_rfl) (by kernel_rfl) (by kernel_rfl) (fun _ _ _ h => h) (Or.inr ⟨by rfl, rfl⟩) hH ?_
                simp only [List.getElem_toArray, List.getElem_cons_succ, List.getElem_cons_zero, Act.put, List.setIfInBounds_toArray, List.set_cons_zero, List.set_cons_succ]
                refine wpAnyH_take (i := 10) (v := ?_) rfl (by kernel_rfl) (by kernel_rfl) (by kernel_rfl) (fun _ _ _ h => h) (Or.inl ⟨by rfl, ?_⟩) hH ?_
                rotate_left
                · (intro w hSw; simp only [List.getElem_toArray, List.getElem_cons_succ, List.getElem_cons_zero]; first | (go_simp; done) | (go_simp; with_reducible rfl))
                simp only [List.getElem_toArray, List.getElem_cons_succ, List.getElem_cons_zero, Act.put, List.setIfInBounds_toArray, List.set_cons_zero, List.set_cons_succ]
                refine wpAnyH_take (i := 11) (v := ?_) rfl (by kernel_rfl) (by kernel_rfl) (by kernel_rfl) (fun _ _ _ h => h) (Or.inl ⟨by rfl, ?_⟩) hH ?_
                rotate_left
                · (intro w hSw; simp only [List.getElem_toArray, List.getElem_cons_succ, List.getElem_cons_zero]; first | (go_simp; done) | (go_simp; with_reducible rfl))
                simp only [List.getElem_toArray, List.getElem_cons_succ, List.getElem_cons_zero, Act.put, List.setIfInBounds_toArray, List.set_cons_zero, List.set_cons_succ]
                refine wpAnyH_take (i := 12) rfl (by kernel_rfl) (by kernel_rfl) (by kernel_rfl) (fun _ _ _ h => h) (yieldsIf_load_mid (by rfl) _ _ rfl q 0 rfl (d.map u8) _ (fun w h => Sx.get h (k := 0) rfl) under28 rfl (info16 d HD16.out)) hH ?_
                simp only [List.getElem_toArray, List.getElem_cons_succ, List.getElem_cons_zero, Act.put, List.setIfInBounds_toArray, List.set_cons_zero, List.set_cons_succ]
                refine wpAnyH_take (i := 13) (v := ?_) rfl (by kernel_rfl) (by kernel_rfl) (by kernel_rfl) (fun _ _ _ h => h) (Or.inl ⟨by rfl, ?_⟩) hH ?_
                rotate_left
                · (intro w hSw; simp only [List.getElem_toArray, List.getElem_cons_succ, List.getElem_cons_zero]; first | (go_simp; done) | (go_simp; with_reducible rfl))
                simp only [List.getElem_toArray, List.getElem_cons_succ, List.getElem_cons_zero, Act.put, List.setIfInBounds_toArray, List.set_cons_zero, List.set_cons_succ]
                refine wpAnyH_take (i := 14) (v := ?_) rfl (by kernel_rfl) (by kernel_rfl) (by kernel_rfl) (fun _ _ _ h => h) (Or.inl ⟨by rfl, ?_⟩) hH ?_
                rotate_left
                · (intro w hSw; simp only [List.getElem_toArray, List.getElem_cons_succ, List.getElem_cons_zero]; first | (go_simp; done) | (go_simp; with_reducible rfl))
                simp only [List.getElem_toArray, List.getElem_cons_succ, List.getElem_cons_zero, Act.put, List.setIfInBounds_toArray, List.set_cons_zero, List.set_cons_succ]
                refine wpAnyH_take (i := 15) (v := ?_) rfl (by kernel_rfl) (by kernel_rfl) (by kernel_rfl) (fun _ _ _ h => h) (Or.inl ⟨by rfl, ?_⟩) hH ?_
                rotate_left
                · (intro w hSw; simp only [List.getElem_toArray, List.getElem_cons_succ, List.getElem_cons_zero]; first | (go_simp; done) | (go_simp; with_reducible rfl))
                simp only [List.getElem_toArray, List.getElem_cons_succ, List.getElem_cons_zero, Act.put, List.setIfInBounds_toArray, List.set_cons_zero, List.set_cons_succ]
                refine wpAnyH_take (i := 16) rfl (by kernel_rfl) (by kernel_rfl) (by kernel_rfl) (fun _ _ _ h => h) (yieldsIf_load_mid (by rfl) _ _ rfl b' (off' + (proof.length - 1) * 16) rfl (x.map u8) _ (fun w h => Sx.get h (k := 3) rfl) under28 rfl (info16 x hx16)) hH ?_
                simp only [List.getElem_toArray, List.getElem_cons_succ, List.getElem_cons_zero, Act.put, List.setIfInBounds_toArray, List.set_cons_zero, List.set_cons_succ]
                refine wpAnyH_take (i := 18) rfl (by kernel_rfl) (by kernel_rfl) (by kernel_rfl) (fun _ _ _ h => h) (yieldsIf_load_mid (by rfl) _ _ rfl w3.heap.size 0 rfl (l.map u8) _ (fun w h => Sx.get h (k := 1) rfl) under28 rfl (info16 l hl'16)) hH ?_
                simp only [List.getElem_toArray, List.getElem_cons_succ, List.getElem_cons_zero, Act.put, List.setIfInBounds_toArray, List.set_cons_zero, List.set_cons_succ]
                refine wpAnyH_take (i := 19) rfl (by kernel_rfl) (by kernel_rfl) (by kernel_rfl) (fun _ _ _ h => h) (yieldsIf_load_mid (by rfl) _ _ rfl w4.heap.size 0 rfl (r.map u8) _ (fun w h => Sx.get h (k := 2) rfl) under28 rfl (info16 r hr'16)) hH ?_
                simp only [List.getElem_toArray, List.getElem_cons_succ, List.getElem_cons_zero, Act.put, List.setIfInBounds_toArray, List.set_cons_zero, List.set_cons_succ]
                refine wpAnyH_ready (rs := [17]) (by kernel_rfl) (by simp) ?_
                refine AllReadyH.cons rfl (fun K hK => ?_) AllReadyH.nil
                simp only [List.getElem_toArray, List.getElem_cons_succ, List.getElem_cons_zero]
                go_simp
                (with_reducible refine (HN1.out _ (HT6.out.keep hH.below)).mono ?_)
                rintro e z5 ⟨rfl, hb5⟩
                have HBS := hid hb5
                clear hb5
                go_wp2_with fail
                refine hK.out _ _ ?_ (fun hH => ?_)
                · exact hH.call HBS.out HB0S.out
                clear hK K
                try simp only [Act.put, List.setIfInBounds_toArray, List.set_cons_zero, List.set_cons_succ]
                refine wpAnyH_ready (rs := [20]) (by kernel_rfl) (by simp) ?_
                refine AllReadyH.cons rfl (fun K hK => ?_) AllReadyH.nil
                simp only [List.getElem_toArray, List.getElem_cons_succ, List.getElem_cons_zero]
                go_simp
                (with_reducible refine (HN2.out _ (HT6.out.keep hH.below)).mono ?_)
                rintro e z6 ⟨rfl, hb5⟩
                have HBS := hid hb5
                clear hb5
                go_wp2_with fail
                refine hK.out _ _ ?_ (fun hH => ?_)
                · exact hH.call HBS.out HB0S.out
                clear hK K
                try simp only [Act.put, List.setIfInBounds_toArray, List.set_cons_zero, List.set_cons_succ]
                refine wpAnyH_take (i := 21) (v := ?_) rfl (by kernel_rfl) (by kernel_rfl) (by kernel_rfl) (fun _ _ _ h => h) (Or.inl ⟨by rfl, ?_⟩) hH ?_
                rotate_left
                · (intro w hSw; simp only [List.getElem_toArray, List.getElem_cons_succ, List.getElem_cons_zero]; first | (go_simp; done) | (go_simp; with_reducible rfl))
                simp only [List.getElem_toArray, List.getElem_cons_succ, List.getElem_cons_zero, Act.put, List.setIfInBounds_toArray, List.set_cons_zero, List.set_cons_succ]
                refine wpAnyH_take (i := 22) (v := ?_) rfl (by kernel_rfl) (by kernel_rfl) (by kernel_rfl) (fun _ _ _ h => h) (Or.inl ⟨by rfl, ?_⟩) hH ?_
                rotate_left
                · (intro w hSw; simp only [List.getElem_toArray, List.getElem_cons_succ, List.getElem_cons_zero]; first | (go_simp; done) | (go_simp; with_reducible rfl))
                simp only [List.getElem_toArray, List.getElem_cons_succ, List.getElem_cons_zero, Act.put, List.setIfInBounds_toArray, List.set_cons_zero, List.set_cons_succ]
                refine wpAnyH_done (by kernel_rfl) ?_ _
                refine NoPanic.normal ?_
                go_wp2_with fail
                go_meet
                case rel => exact ⟨by rw [HTC.out], hH.below⟩
            case rest =>
              rename World => W7
              obtain ⟨rfl, hb7⟩ := hcut
              have HB7 := hid hb7
              have HB57 := hid (show Below W0.heap.size W0 W7 from HB56.out.trans (hb7.mono HB56.out.size))
              have HCR := hid (fun (W : World) (h : Below W7.heap.size W7 W) => HIH.out (ds.take k) i leaf proof.dropLast (some ⟨b, off, none⟩) k c (some ⟨b', off', none⟩) (proof.length - 1) c' W (by rw [HLT.out]; omega) (by rw [HLT.out]; exact hlt) (by rw [HLT.out]; omega) hl16 (H16.out.take k) HP16.out.init (HT.out.keep (HB57.out.trans (h.mono HB57.out.size))) HLT.out.symm (by omega) HDL.out.symm (by omega) (by omega) (((HDS.out.take k).keep (HB57.out.trans (h.mono HB57.out.size))).mono (Nat.le_trans HB57.out.size h.size)) ((HPR.out.init.keep (HB57.out.trans (h.mono HB57.out.size))).mono (Nat.le_trans HB57.out.size h.size)))
              have HL15 := hid (show ∀ p ∈ [(w.heap.size, 0, leaf)], W7.rangeAt p.1 p.2.1 (p.2.2.map u8) ∧ p.1 < W7.heap.size from fun p hp => by rw [List.mem_singleton.1 hp]; exact ⟨range_keep HRL.out HB57.out hz0, by have := HB57.out.size; simp only; omega⟩)
              clear hb7
              cases T
              · obtain ⟨R, hR⟩ : ∃ R, collF (ds.take k) i leaf proof.dropLast = R := ⟨_, rfl⟩
                rw [hR] at HE HCR
                have HF := hid (show collF ds i leaf proof = R by rw [HE.out, if_neg (by decide)])
                clear hR
                go_wp2_with fail
                have HB0S := hid (show W7.heap.size ≤ W7.heap.size from Nat.le_refl _)
                refine wp_region_noPanic ?_
                refine wp_region_held_drew (S := Sx (W7.heap.size) W7 [(w.heap.size, 0, leaf)]) (by kernel_rfl) (Sx.start (HL15.out)) (fun hH => ?_)
                refine wpAnyH_take (i := 0) (v := ?_) rfl (by kernel_rfl) (by kernel_rfl) (by kernel_rfl) (fun _ _ _ h => h) (Or.inl ⟨by rfl, ?_⟩) hH ?_
                rotate_left
                · (intro w hSw; simp only [List.getElem_toArray, List.getElem_cons_zero]; first | (go_simp; done) | (go_simp; with_reducible rfl))
                simp only [List.getElem_toArray, List.getElem_cons_zero, Act.put, List.setIfInBounds_toArray, List.set_cons_zero, List.set_cons_succ]
                refine wpAnyH_take (i := 1) (v := ?_) rfl (by kernel_rfl) (by kernel_rfl) (by kernel_rfl) (fun _ _ _ h => h) (Or.inl ⟨by rfl, ?_⟩) hH ?_
                rotate_left
                · (intro w hSw; simp only [List.getElem_toArray, List.getElem_cons_succ, List.getElem_cons_zero]; first | (go_simp; done) | (go_simp; with_reducible rfl))
                simp only [List.getElem_toArray, List.getElem_cons_succ, List.getElem_cons_zero, Act.put, List.setIfInBounds_toArray, List.set_cons_zero, List.set_cons_succ]
                refine wpAnyH_take (i := 2) (v := ?_) rfl (by kernel_rfl) (by kernel_rfl) (by kernel_rfl) (fun _ _ _ h => h) (Or.inl ⟨by rfl, ?_⟩) hH ?_
                rotate_left
                · (intro w hSw; simp only [List.getElem_toArray, List.getElem_cons_succ, List.getElem_cons_zero]; first | (go_simp; done) | (go_simp; with_reducible rfl))
                simp only [List.getElem_toArray, List.getElem_cons_succ, List.getElem_cons_zero, Act.put, List.setIfInBounds_toArray, List.set_cons_zero, List.set_cons_succ]
                refine wpAnyH_take (i := 3) (v := ?_) rfl (by kernel_rfl) (by kernel_rfl) (by kernel_rfl) (fun _ _ _ h => h) (Or.inl ⟨by rfl, ?_⟩) hH ?_
                rotate_left
                · (intro w hSw; simp only [List.getElem_toArray, List.getElem_cons_succ, List.getElem_cons_zero]; first | (go_simp; done) | (go_simp; with_reducible rfl))
                simp only [List.getElem_toArray, List.getElem_cons_succ, List.getElem_cons_zero, Act.put, List.setIfInBounds_toArray, List.set_cons_zero, List.set_cons_succ]
                refine wpAnyH_take (i := 4) rfl (by kernel_rfl) (by kernel_rfl) (by kernel_rfl) (fun _ _ _ h => h) (yieldsIf_load_mid (by rfl) _ _ rfl w.heap.size 0 rfl (leaf.map u8) _ (fun w h => Sx.get h (k := 0) rfl) under28 rfl (info16 leaf hl16)) hH ?_
                simp only [List.getElem_toArray, List.getElem_cons_succ, List.getElem_cons_zero, Act.put, List.setIfInBounds_toArray, List.set_cons_zero, List.set_cons_succ]
                refine wpAnyH_take (i := 5) (v := ?_) rfl (by kernel_rfl) (by kernel_rfl) (by kernel_rfl) (fun _ _ _ h => h) (Or.inl ⟨by rfl, ?_⟩) hH ?_
                rotate_left
                · (intro w hSw; simp only [List.getElem_toArray, List.getElem_cons_succ, List.getElem_cons_zero]; first | (go_simp; done) | (go_simp; with_reducible rfl))
                simp only [List.getElem_toArray, List.getElem_cons_succ, List.getElem_cons_zero, Act.put, List.setIfInBounds_toArray, List.set_cons_zero, List.set_cons_succ]
                refine wpAnyH_take (i := 6) (v := ?_) rfl (by kernel_rfl) (by kernel_rfl) (by kernel_rfl) (fun _ _ _ h => h) (Or.inl ⟨by rfl, ?_⟩) hH ?_
                rotate_left
                · (intro w hSw; simp only [List.getElem_toArray, List.getElem_cons_succ, List.getElem_cons_zero]; first | (go_simp; done) | (go_simp; with_reducible rfl))
                simp only [List.getElem_toArray, List.getElem_cons_succ, List.getElem_cons_zero, Act.put, List.setIfInBounds_toArray, List.set_cons_zero, List.set_cons_succ]
                refine wpAnyH_take (i := 7) (v := ?_) rfl (by kernel_rfl) (by kernel_rfl) (by kernel_rfl) (fun _ _ _ h => h) (Or.inl ⟨by rfl, ?_⟩) hH ?_
                rotate_left
                · (intro w hSw; simp only [List.getElem_toArray, List.getElem_cons_succ, List.getElem_cons_zero]; first | (go_simp; done) | (go_simp; with_reducible rfl))
                simp only [List.getElem_toArray, List.getElem_cons_succ, List.getElem_cons_zero, Act.put, List.setIfInBounds_toArray, List.set_cons_zero, List.set_cons_succ]
                refine wpAnyH_ready (rs := [8]) (by kernel_rfl) (by simp) ?_
                refine AllReadyH.cons rfl (fun K hK => ?_) AllReadyH.nil
                simp only [List.getElem_toArray, List.getElem_cons_succ, List.getElem_cons_zero]
                go_simp
                (with_reducible refine (HCR.out _ hH.below).mono ?_)
                rintro e z9 ⟨rfl, hb5⟩
                have HBS := hid hb5
                clear hb5
                go_wp2_with fail
                refine hK.out _ _ ?_ (fun hH => ?_)
                · exact hH.call HBS.out HB0S.out
                clear hK K
                try simp only [Act.put, List.setIfInBounds_toArray, List.set_cons_zero, List.set_cons_succ]
                refine wpAnyH_take (i := 9) (v := ?_) rfl (by kernel_rfl) (by kernel_rfl) (by kernel_rfl) (fun _ _ _ h => h) (Or.inl ⟨by rfl, ?_⟩) hH ?_
                rotate_left
                · (intro w hSw; simp only [List.getElem_toArray, List.getElem_cons_succ, List.getElem_cons_zero]; first | (go_simp; done) | (go_simp; with_reducible rfl))
                simp only [List.getElem_toArray, List.getElem_cons_succ, List.getElem_cons_zero, Act.put, List.setIfInBounds_toArray, List.set_cons_zero, List.set_cons_succ]
                refine wpAnyH_done (by kernel_rfl) ?_ _
                refine NoPanic.normal ?_
                go_wp2_with fail
                go_ret
                exact ⟨ret_bool HF.out.symm, HB0.out.trans ((HB57.out.trans (hH.below.mono HB57.out.size)).mono HB0.out.size)⟩
              · have HF := hid (show collF ds i leaf proof = true by rw [HE.out, if_pos rfl])
                go_wp2_with fail
                go_ret
                exact ⟨ret_bool HF.out.symm, HB0.out.trans (HB57.out.mono HB0.out.size)⟩
          --]L
        ·
          --[M
          have d1 : ¬ ((i : Int) < (k : Int)) := by omega
          have ew1 : IntKind.i64.wrap ((ds.length : Int) - (k : Int)) = ((ds.length - k : Nat) : Int) := by rw [IntWalk.i64_in _ (by omega)]; omega
          have ew2 : IntKind.i64.wrap ((i : Int) - (k : Int)) = ((i - k : Nat) : Int) := by rw [IntWalk.i64_in _ (by omega)]; omega
          obtain ⟨⟨d, okb⟩, hcd⟩ : ∃ r, combF (ds.length - k) (i - k) leaf proof.dropLast = r := ⟨_, rfl⟩
          have HD16 := hid (show d.length = 16 by have := comb_length ((ds.length - k) + 1) (ds.length - k) (i - k) leaf proof.dropLast (Nat.lt_succ_self _) (by omega); rw [hcd] at this; exact this)
          have HW := hid (fun (W : World) (hb : Below W0.heap.size W0 W) => (show Calls Tryd.prog 48 #[.int .i64 ((ds.length - k : Nat) : Int), .int .i64 ((i - k : Nat) : Int), .agg (leaf.map u8).toArray, .slice (some ⟨b', off', none⟩) (proof.length - 1) c'] W fun e w' => e = .returned (.tuple #[dv d, .bool okb]) ∧ Below W.heap.size W w' by
            have := comb_any ((ds.length - k) + 1) (ds.length - k) (i - k) leaf proof.dropLast (some ⟨b', off', none⟩) (proof.length - 1) c' W (Nat.lt_succ_self _) (by omega) (by omega) hl16 HP16.out.init (HT.out.keep hb) HDL.out.symm (by omega) (by omega) ((HPR.out.init.keep hb).mono hb.size)
            rw [hcd] at this; exact this))
          have HE0 := hid (collF_right (show 1 < ds.length by omega) (i := i) (by rw [HKE.out]; exact hlt) leaf proof hp0 (d := d) (l := l) (r := r) (x := x) (by rw [HKE.out, hcd]) (by rw [HKE.out]; exact HLE.out) (by rw [HKE.out]; exact HRE.out) HXE.out)
          rw [HKE.out] at HE0
          obtain ⟨T, hTT⟩ : ∃ T, ((!decide (x = l) || !decide (d = r)) && decide (nodeD x d = nodeD l r)) = T := ⟨_, rfl⟩
          obtain ⟨n1, hn1⟩ : ∃ n1, nodeD x d = n1 := ⟨_, rfl⟩
          obtain ⟨n2, hn2e⟩ : ∃ n2, nodeD l r = n2 := ⟨_, rfl⟩
          have hn1l : n1.length = 16 := by rw [← hn1]; exact nodeD_length _ _
          have hn2l : n2.length = 16 := by rw [← hn2e]; exact nodeD_length _ _
          have HN1 := hid (fun (W : World) (hT : Tab W) => (show Calls Tryd.prog 47 #[.agg (x.map u8).toArray, .agg (d.map u8).toArray] W fun e w' => e = .returned (dv n1) ∧ Below W.heap.size W w' by rw [← hn1]; exact node1_any x d hx16 HD16.out W hT))
          have HN2 := hid (fun (W : World) (hT : Tab W) => (show Calls Tryd.prog 47 #[.agg (l.map u8).toArray, .agg (r.map u8).toArray] W fun e w' => e = .returned (dv n2) ∧ Below W.heap.size W w' by rw [← hn2e]; exact node1_any l r hl'16 hr'16 W hT))
          rw [hn1, hn2e] at hTT
          have HTT := hid hTT
          rw [hn1, hn2e, hTT] at HE0
          have HE := hid HE0.out
          clear hcd HE0 hTT hn1 hn2e
          go_enter Tryd.func23, Tryd.ntmps23
          go_upto_region 1 with (fail)
          rw [HW0.out]
          go_upto_region 16 with (first
            | ((with_reducible refine (HSP.out _).mono ?_); rintro e w2 ⟨rfl, rfl⟩)
            | (go_at_call 19; (with_reducible refine (HRT1.out _ (Below.refl _ _)).mono ?_); rintro e w3 ⟨rfl, hb3⟩; have HB3 := hid hb3; clear hb3)
            | (refine wpList_store_mid rfl _ _ _ rfl w3.heap.size 0 _ rfl rfl (there16 (alloc_there w3 _ _ 16 rfl) _ hl'16) (info16a l hl'16) (all_u8 l) ?_)
            | (go_at_call 19; (with_reducible refine (HRT2.out _ (HB3.out.trans ((below_box w3 _ _ _).mono HB3.out.size))).mono ?_); rintro e w4 ⟨rfl, hb4⟩; have HB4 := hid hb4; clear hb4)
            | (refine wpList_store_mid rfl _ _ _ rfl w4.heap.size 0 _ rfl rfl (there16 (alloc_there w4 _ _ 16 rfl) _ hr'16) (info16a r hr'16) (all_u8 r) ?_))
          obtain ⟨W5, hW5⟩ : ∃ W5, (w4.alloc (.cells #[.int .u8 0, .int .u8 0, .int .u8 0, .int .u8 0, .int .u8 0, .int .u8 0, .int .u8 0, .int .u8 0, .int .u8 0, .int .u8 0, .int .u8 0, .int .u8 0, .int .u8 0, .int .u8 0, .int .u8 0, .int .u8 0] 28)).setCells w4.heap.size 0 (r.map u8).toArray.toList = W5 := ⟨_, rfl⟩
          rw [hW5]
          have HLV4 := hid (show LV w4 r W5 by rw [← hW5]; exact LV.start w4 _ _ rfl r hr'16)
          have HLV3 := hid (show LV w3 l W5 from ((LV.start w3 _ _ rfl l hl'16).keep HB4.out).keep HLV4.out.below)
          have HB5 := hid (show Below W0.heap.size W0 W5 from HB3.out.trans (HLV3.out.below.mono HB3.out.size))
          have HLT5 := hid (show w.heap.size < w3.heap.size ∧ w3.heap.size < w4.heap.size ∧ w4.heap.size < W5.heap.size from ⟨by have := HB3.out.size; omega, by have := HB4.out.size; rw [size_setCells] at this; simp at this; omega, HLV4.out.lt⟩)
          have HL8 := hid (show ∀ p ∈ [(w.heap.size, 0, leaf)], W5.rangeAt p.1 p.2.1 (p.2.2.map u8) ∧ p.1 < W5.heap.size from fun p hp => by rw [List.mem_singleton.1 hp]; exact ⟨range_keep HRL.out HB5.out hz0, by have := HLT5.out; simp only; omega⟩)
          clear hW5
          go_cut [15, 16] (fun u v wx => ∃ q, u = .pointer (some ⟨q, 0, none⟩) ∧ v = .bool okb ∧ W5.heap.size ≤ q ∧ q < wx.heap.size ∧ wx.rangeAt q 0 (d.map u8) ∧ Below W5.heap.size W5 wx)
          case first =>
            go_wp2_with fail
            have HB0S := hid (show W5.heap.size ≤ W5.heap.size from Nat.le_refl _)
            refine wp_region_noPanic ?_
            refine wp_region_held_drew (S := Sx (W5.heap.size) W5 [(w.heap.size, 0, leaf)]) (by kernel_rfl) (Sx.start (HL8.out)) (fun hH => ?_)
            refine wpAnyH_take (i := 0) (v := ?_) rfl (by kernel_rfl) (by kernel_rfl) (by kernel_rfl) (fun _ _ _ h => h) (Or.inl ⟨by rfl, ?_⟩) hH ?_
            rotate_left
            · (intro w hSw; simp only [List.getElem_toArray, List.getElem_cons_zero]; first | (go_simp; done) | (go_simp; with_reducible rfl))
            simp only [List.getElem_toArray, List.getElem_cons_zero, Act.put, List.setIfInBounds_toArray, List.set_cons_zero, List.set_cons_succ]
            refine wpAnyH_take (i := 1) (v := ?_) rfl (by kernel_rfl) (by kernel_rfl) (by kernel_rfl) (fun _ _ _ h => h) (Or.inl ⟨by rfl, ?_⟩) hH ?_
            rotate_left
            · (intro w hSw; simp only [List.getElem_toArray, List.getElem_cons_succ, List.getElem_cons_zero]; first | (go_simp; done) | (go_simp; with_reducible rfl))
            simp only [List.getElem_toArray, List.getElem_cons_succ, List.getElem_cons_zero, Act.put, List.setIfInBounds_toArray, List.set_cons_zero, List.set_cons_succ]
            refine wpAnyH_take (i := 2) (v := ?_) rfl (by kernel_rfl) (by kernel_rfl) (by kernel_rfl) (fun _ _ _ h => h) (Or.inl ⟨by rfl, ?_⟩) hH ?_
            rotate_left
            · (intro w hSw; simp only [List.getElem_toArray, List.getElem_cons_succ, List.getElem_cons_zero]; first | (go_simp; done) | (go_simp; with_reducible rfl))
            simp only [List.getElem_toArray, List.getElem_cons_succ, List.getElem_cons_zero, Act.put, List.setIfInBounds_toArray, List.set_cons_zero, List.set_cons_succ]
            refine wpAnyH_take (i := 3) (v := ?_) rfl (by kernel_rfl) (by kernel_rfl) (by kernel_rfl) (fun _ _ _ h => h) (Or.inl ⟨by rfl, ?_⟩) hH ?_
            rotate_left
            · (intro w hSw; simp only [List.getElem_toArray, List.getElem_cons_succ, List.getElem_cons_zero]; first | (go_simp; done) | (go_simp; with_reducible rfl))
            simp only [List.getElem_toArray, List.getElem_cons_succ, List.getElem_cons_zero, Act.put, List.setIfInBounds_toArray, List.set_cons_zero, List.set_cons_succ]
            refine wpAnyH_take (i := 4) (v := ?_) rfl (by kernel_rfl) (by kernel_rfl) (by kernel_rfl) (fun _ _ _ h => h) (Or.inl ⟨by rfl, ?_⟩) hH ?_
            rotate_left
            · (intro w hSw; simp only [List.getElem_toArray, List.getElem_cons_succ, List.getElem_cons_zero]; first | (go_simp; done) | (go_simp; with_reducible rfl))
            simp only [List.getElem_toArray, List.getElem_cons_succ, List.getElem_cons_zero, Act.put, List.setIfInBounds_toArray, List.set_cons_zero, List.set_cons_succ]
            refine wpAnyH_take (i := 5) (v := ?_) rfl (by kernel_rfl) (by kernel_rfl) (by kernel_rfl) (fun _ _ _ h => h) (Or.inl ⟨by rfl, ?_⟩) hH ?_
            rotate_left
            · (intro w hSw; simp only [List.getElem_toArray, List.getElem_cons_succ, List.getElem_cons_zero]; first | (go_simp; done) | (go_simp; with_reducible rfl))
            simp only [List.getElem_toArray, List.getElem_cons_succ, List.getElem_cons_zero, Act.put, List.setIfInBounds_toArray, List.set_cons_zero, List.set_cons_succ]
            refine wpAnyH_take (i := 6) (v := ?_) rfl (by kernel_rfl) (by kernel_rfl) (by kernel_rfl) (fun _ _ _ h => h) (Or.inl ⟨by rfl, ?_⟩) hH ?_
            rotate_left
            · (intro w hSw; simp only [List.getElem_toArray, List.getElem_cons_succ, List.getElem_cons_zero]; first | (go_simp; done) | (go_simp; with_reducible rfl))
            simp only [List.getElem_toArray, List.getElem_cons_succ, List.getElem_cons_zero, Act.put, List.setIfInBounds_toArray, List.set_cons_zero, List.set_cons_succ]
            refine wpAnyH_take (i := 7) rfl (by kernel_rfl) (by kernel_rfl) (by kernel_rfl) (fun _ _ _ h => h) (yieldsIf_load_mid (by rfl) _ _ rfl w.heap.size 0 rfl (leaf.map u8) _ (fun w h => Sx.get h (k := 0) rfl) under28 rfl (info16 leaf hl16)) hH ?_
            simp only [List.getElem_toArray, List.getElem_cons_succ, List.getElem_cons_zero, Act.put, List.setIfInBounds_toArray, List.set_cons_zero, List.set_cons_succ]
            refine wpAnyH_take (i := 8) (v := ?_) rfl (by kernel_rfl) (by kernel_rfl) (by kernel_rfl) (fun _ _ _ h => h) (Or.inl ⟨by rfl, ?_⟩) hH ?_
            rotate_left
            · (intro w hSw; simp only [List.getElem_toArray, List.getElem_cons_succ, List.getElem_cons_zero]; first | (go_simp; done) | (go_simp; with_reducible rfl))
            simp only [List.getElem_toArray, List.getElem_cons_succ, List.getElem_cons_zero, Act.put, List.setIfInBounds_toArray, List.set_cons_zero, List.set_cons_succ]
            refine wpAnyH_take (i := 9) (v := ?_) rfl (by kernel_rfl) (by kernel_rfl) (by kernel_rfl) (fun _ _ _ h => h) (Or.inl ⟨by rfl, ?_⟩) hH ?_
            rotate_left
            · (intro w hSw; simp only [List.getElem_toArray, List.getElem_cons_succ, List.getElem_cons_zero]; first | (go_simp; done) | (go_simp; with_reducible rfl))
            simp only [List.getElem_toArray, List.getElem_cons_succ, List.getElem_cons_zero, Act.put, List.setIfInBounds_toArray, List.set_cons_zero, List.set_cons_succ]
            refine wpAnyH_take (i := 10) (v := ?_) rfl (by kernel_rfl) (by kernel_rfl) (by kernel_rfl) (fun _ _ _ h => h) (Or.inl ⟨by rfl, ?_⟩) hH ?_
            rotate_left
            · (intro w hSw; simp only [List.getElem_toArray, List.getElem_cons_succ, List.getElem_cons_zero]; first | (go_simp; done) | (go_simp; with_reducible rfl))
            simp only [List.getElem_toArray, List.getElem_cons_succ, List.getElem_cons_zero, Act.put, List.setIfInBounds_toArray, List.set_cons_zero, List.set_cons_succ]
            refine wpAnyH_ready (rs := [11, 15]) (by kernel_rfl) (by simp) ?_
            refine AllReadyH.cons rfl (fun K hK => ?_) (AllReadyH.cons rfl (fun K hK => ?_) AllReadyH.nil)
            · simp only [List.getElem_toArray, List.getElem_cons_succ, List.getElem_cons_zero]
              go_simp
              (with_reducible refine (HW.out _ (HB5.out.trans (hH.below.mono HB5.out.size))).mono ?_)
              rintro e z10 ⟨rfl, hb5⟩
              have HBS := hid hb5
              clear hb5
              go_wp2_with fail
              refine hK.out _ _ ?_ (fun hH => ?_)
              · exact hH.call HBS.out HB0S.out
              clear hK K
              try simp only [Act.put, List.setIfInBounds_toArray, List.set_cons_zero, List.set_cons_succ]
              refine wpAnyH_take (i := 12) (v := ?_) rfl (by kernel_rfl) (by kernel_rfl) (by kernel_rfl) (fun _ _ _ h => h) (Or.inl ⟨by rfl, ?_⟩) hH ?_
              rotate_left
              · (intro w hSw; simp only [List.getElem_toArray, List.getElem_cons_succ, List.getElem_cons_zero]; first | (go_simp; done) | (go_simp; with_reducible rfl))
              simp only [List.getElem_toArray, List.getElem_cons_succ, List.getElem_cons_zero, Act.put, List.setIfInBounds_toArray, List.set_cons_zero, List.set_cons_succ]
              refine wpAnyH_take (i := 13) (v := ?_) rfl (by kernel_rfl) (by kernel_rfl) (by kernel_rfl) (fun _ _ _ h => h) (Or.inl ⟨by rfl, ?_⟩) hH ?_
              rotate_left
              · (intro w hSw; simp only [List.getElem_toArray, List.getElem_cons_succ, List.getElem_cons_zero]; first | (go_simp; done) | (go_simp; with_reducible rfl))
              simp only [List.getElem_toArray, List.getElem_cons_succ, List.getElem_cons_zero, Act.put, List.setIfInBounds_toArray, List.set_cons_zero, List.set_cons_succ]
              refine wpAnyH_take (i := 14) (v := ?_) rfl (by kernel_rfl) (by kernel_rfl) (by kernel_rfl) (fun _ _ _ h => h) (Or.inl ⟨by rfl, ?_⟩) hH ?_
              rotate_left
              · (intro w hSw; simp only [List.getElem_toArray, List.getElem_cons_succ, List.getElem_cons_zero]; first | (go_simp; done) | (go_simp; with_reducible rfl))
              simp only [List.getElem_toArray, List.getElem_cons_succ, List.getElem_cons_zero, Act.put, List.setIfInBounds_toArray, List.set_cons_zero, List.set_cons_succ]
              refine wpAnyH_ready (rs := [15]) (by kernel_rfl) (by simp) ?_
              refine AllReadyH.cons rfl (fun K hK => ?_) AllReadyH.nil
              simp only [List.getElem_toArray, List.getElem_cons_succ, List.getElem_cons_zero]
              obtain ⟨q, hq⟩ : ∃ q, z10.heap.size = q := ⟨_, rfl⟩
              have HTq := hid (show (z10.alloc (.cells #[.int .u8 0, .int .u8 0, .int .u8 0, .int .u8 0, .int .u8 0, .int .u8 0, .int .u8 0, .int .u8 0, .int .u8 0, .int .u8 0, .int .u8 0, .int .u8 0, .int .u8 0, .int .u8 0, .int .u8 0, .int .u8 0] 28)).there q 0 16 ∧ q < (z10.alloc (.cells #[.int .u8 0, .int .u8 0, .int .u8 0, .int .u8 0, .int .u8 0, .int .u8 0, .int .u8 0, .int .u8 0, .int .u8 0, .int .u8 0, .int .u8 0, .int .u8 0, .int .u8 0, .int .u8 0, .int .u8 0, .int .u8 0] 28)).heap.size by rw [← hq]; exact ⟨alloc_there z10 #[.int .u8 0, .int .u8 0, .int .u8 0, .int .u8 0, .int .u8 0, .int .u8 0, .int .u8 0, .int .u8 0, .int .u8 0, .int .u8 0, .int .u8 0, .int .u8 0, .int .u8 0, .int .u8 0, .int .u8 0, .int .u8 0] 28 16 rfl, by simp⟩)
              have HNq := hid (show _ ≤ q by rw [← hq]; exact hH.below.size)
              have hb5 := below_alloc z10 (.cells #[.int .u8 0, .int .u8 0, .int .u8 0, .int .u8 0, .int .u8 0, .int .u8 0, .int .u8 0, .int .u8 0, .int .u8 0, .int .u8 0, .int .u8 0, .int .u8 0, .int .u8 0, .int .u8 0, .int .u8 0, .int .u8 0] 28)
              clear hb5
              go_simp
              first | rw [hq] | (simp at hq; rw [hq]) | skip
              refine hK.out _ _ ?_ (fun hH => ?_)
              · exact hH.alloc HB0S.out _
              clear hK K
              try simp only [Act.put, List.setIfInBounds_toArray, List.set_cons_zero, List.set_cons_succ]
              refine wpAnyH_ready (rs := [16]) (by kernel_rfl) (by simp) ?_
              refine AllReadyH.cons rfl (fun K hK => ?_) AllReadyH.nil
              simp only [List.getElem_toArray, List.getElem_cons_succ, List.getElem_cons_zero]
              rw [if_pos (by rfl)]
              refine wp_store_mid _ _ _ rfl q 0 _ rfl rfl (there16 HTq.out.1 d HD16.out) (info16a d HD16.out) (all_u8 d) ?_
              refine hK.out _ _ ?_ (fun hH => ?_)
              · exact hH.store (Nat.le_trans HB0S.out HNq.out) (fun p hp => by rw [List.mem_singleton.1 hp]; have := HNq.out; have := HLT5.out; simp only; omega) _ _
              clear hK K
              try simp only [Act.put]
              refine wpAnyH_take (i := 17) (v := ?_) rfl (by kernel_rfl) (by kernel_rfl) (by kernel_rfl) (fun _ _ _ h => h) (Or.inl ⟨by rfl, ?_⟩) hH ?_
              rotate_left
              · (intro w hSw; simp only [List.getElem_toArray, List.getElem_cons_succ, List.getElem_cons_zero]; first | (go_simp; done) | (go_simp; with_reducible rfl))
              simp only [List.getElem_toArray, List.getElem_cons_succ, List.getElem_cons_zero, Act.put, List.setIfInBounds_toArray, List.set_cons_zero, List.set_cons_succ]
              refine wpAnyH_done (by kernel_rfl) ?_ _
              refine NoPanic.normal ?_
              go_wp2_with fail
              go_meet
              case rel => exact ⟨q, by first | rfl | (rw [hq]), rfl, HNq.out, by rw [size_setCells]; exact HTq.out.2, World.rangeAt_setCells_same _ _ _ _ (there16 HTq.out.1 d HD16.out), hH.below⟩
            · simp only [List.getElem_toArray, List.getElem_cons_succ, List.getElem_cons_zero]
              obtain ⟨q, hq⟩ : ∃ q, W5.drew.heap.size = q := ⟨_, rfl⟩
              have HTq := hid (show (W5.drew.alloc (.cells #[.int .u8 0, .int .u8 0, .int .u8 0, .int .u8 0, .int .u8 0, .int .u8 0, .int .u8 0, .int .u8 0, .int .u8 0, .int .u8 0, .int .u8 0, .int .u8 0, .int .u8 0, .int .u8 0, .int .u8 0, .int .u8 0] 28)).there q 0 16 ∧ q < (W5.drew.alloc (.cells #[.int .u8 0, .int .u8 0, .int .u8 0, .int .u8 0, .int .u8 0, .int .u8 0, .int .u8 0, .int .u8 0, .int .u8 0, .int .u8 0, .int .u8 0, .int .u8 0, .int .u8 0, .int .u8 0, .int .u8 0, .int .u8 0] 28)).heap.size by rw [← hq]; exact ⟨alloc_there W5.drew #[.int .u8 0, .int .u8 0, .int .u8 0, .int .u8 0, .int .u8 0, .int .u8 0, .int .u8 0, .int .u8 0, .int .u8 0, .int .u8 0, .int .u8 0, .int .u8 0, .int .u8 0, .int .u8 0, .int .u8 0, .int .u8 0] 28 16 rfl, by simp⟩)
              have HNq := hid (show _ ≤ q by rw [← hq]; exact hH.below.size)
              have hb5 := below_alloc W5.drew (.cells #[.int .u8 0, .int .u8 0, .int .u8 0, .int .u8 0, .int .u8 0, .int .u8 0, .int .u8 0, .int .u8 0, .int .u8 0, .int .u8 0, .int .u8 0, .int .u8 0, .int .u8 0, .int .u8 0, .int .u8 0, .int .u8 0] 28)
              clear hb5
              go_simp
              first | rw [hq] | (simp at hq; rw [hq]) | skip
              refine hK.out _ _ ?_ (fun hH => ?_)
              · exact hH.alloc HB0S.out _
              clear hK K
              try simp only [Act.put, List.setIfInBounds_toArray, List.set_cons_zero, List.set_cons_succ]
              refine wpAnyH_ready (rs := [11]) (by kernel_rfl) (by simp) ?_
              refine AllReadyH.cons rfl (fun K hK => ?_) AllReadyH.nil
              simp only [List.getElem_toArray, List.getElem_cons_succ, List.getElem_cons_zero]
              go_simp
              (with_reducible refine (HW.out _ (HB5.out.trans (hH.below.mono HB5.out.size))).mono ?_)
              rintro e z11 ⟨rfl, hb5⟩
              have HTq := hid (keepT2 HTq.out hb5)
              have HBS := hid hb5
              clear hb5
              go_wp2_with fail
              refine hK.out _ _ ?_ (fun hH => ?_)
              · exact hH.call HBS.out HB0S.out
              clear hK K
              try simp only [Act.put, List.setIfInBounds_toArray, List.set_cons_zero, List.set_cons_succ]
              refine wpAnyH_take (i := 12) (v := ?_) rfl (by kernel_rfl) (by kernel_rfl) (by kernel_rfl) (fun _ _ _ h => h) (Or.inl ⟨by rfl, ?_⟩) hH ?_
              rotate_left
              · (intro w hSw; simp only [List.getElem_toArray, List.getElem_cons_succ, List.getElem_cons_zero]; first | (go_simp; done) | (go_simp; with_reducible rfl))
              simp only [List.getElem_toArray, List.getElem_cons_succ, List.getElem_cons_zero, Act.put, List.setIfInBounds_toArray, List.set_cons_zero, List.set_cons_succ]
              refine wpAnyH_take (i := 13) (v := ?_) rfl (by kernel_rfl) (by kernel_rfl) (by kernel_rfl) (fun _ _ _ h => h) (Or.inl ⟨by rfl, ?_⟩) hH ?_
              rotate_left
              · (intro w hSw; simp only [List.getElem_toArray, List.getElem_cons_succ, List.getElem_cons_zero]; first | (go_simp; done) | (go_simp; with_reducible rfl))
              simp only [List.getElem_toArray, List.getElem_cons_succ, List.getElem_cons_zero, Act.put, List.setIfInBounds_toArray, List.set_cons_zero, List.set_cons_succ]
              refine wpAnyH_take (i := 14) (v := ?_) rfl (by kernel_rfl) (by kernel_rfl) (by kernel_rfl) (fun _ _ _ h => h) (Or.inl ⟨by rfl, ?_⟩) hH ?_
              rotate_left
              · (intro w hSw; simp only [List.getElem_toArray, List.getElem_cons_succ, List.getElem_cons_zero]; first | (go_simp; done) | (go_simp; with_reducible rfl))
              simp only [List.getElem_toArray, List.getElem_cons_succ, List.getElem_cons_zero, Act.put, List.setIfInBounds_toArray, List.set_cons_zero, List.set_cons_succ]
              refine wpAnyH_ready (rs := [16]) (by kernel_rfl) (by simp) ?_
              refine AllReadyH.cons rfl (fun K hK => ?_) AllReadyH.nil
              simp only [List.getElem_toArray, List.getElem_cons_succ, List.getElem_cons_zero]
              rw [if_pos (by rfl)]
              refine wp_store_mid _ _ _ rfl q 0 _ rfl rfl (there16 HTq.out.1 d HD16.out) (info16a d HD16.out) (all_u8 d) ?_
              refine hK.out _ _ ?_ (fun hH => ?_)
              · exact hH.store (Nat.le_trans HB0S.out HNq.out) (fun p hp => by rw [List.mem_singleton.1 hp]; have := HNq.out; have := HLT5.out; simp only; omega) _ _
              clear hK K
              try simp only [Act.put]
              refine wpAnyH_take (i := 17) (v := ?_) rfl (by kernel_rfl) (by kernel_rfl) (by kernel_rfl) (fun _ _ _ h => h) (Or.inl ⟨by rfl, ?_⟩) hH ?_
              rotate_left
              · (intro w hSw; simp only [List.getElem_toArray, List.getElem_cons_succ, List.getElem_cons_zero]; first | (go_simp; done) | (go_simp; with_reducible rfl))
              simp only [List.getElem_toArray, List.getElem_cons_succ, List.getElem_cons_zero, Act.put, List.setIfInBounds_toArray, List.set_cons_zero, List.set_cons_succ]
              refine wpAnyH_done (by kernel_rfl) ?_ _
              refine NoPanic.normal ?_
              go_wp2_with fail
              go_meet
              case rel => exact ⟨q, by first | rfl | (rw [hq]), rfl, HNq.out, by rw [size_setCells]; exact HTq.out.2, World.rangeAt_setCells_same _ _ _ _ (there16 HTq.out.1 d HD16.out), hH.below⟩
          case rest =>
            rename World => W6
            obtain ⟨q, rfl, rfl, hq1, hq2, hq3, hb6⟩ := hcut
            have HB6 := hid hb6
            have HB56 := hid (show Below W0.heap.size W0 W6 from HB5.out.trans (hb6.mono HB5.out.size))
            have HT6 := hid (HT.out.keep HB56.out)
            have HL9 := hid (show ∀ p ∈ [(q, 0, d), (w3.heap.size, 0, l), (w4.heap.size, 0, r), (b', off' + (proof.length - 1) * 16, x)], W6.rangeAt p.1 p.2.1 (p.2.2.map u8) ∧ p.1 < W6.heap.size from fun p hp => by
              have h5 := HLT5.out
              have h6 := HB6.out.size
              have h7 := HB56.out.size
              simp only [List.mem_cons, List.not_mem_nil, or_false] at hp
              rcases hp with rfl | rfl | rfl | rfl
              · exact ⟨hq3, hq2⟩
              · exact ⟨range_keep HLV3.out.rg HB6.out (by omega), by simp only; omega⟩
              · exact ⟨range_keep HLV4.out.rg HB6.out (by omega), by simp only; omega⟩
              · exact ⟨range_keep HX.out HB56.out hbl', by simp only; omega⟩)
            have heqn := eqIn_dig n1 n2 hn1l hn2l
            have HHN := hid heqn
            clear hq3 hb6 heqn
            go_upto_region 17 with (fail)
            go_cut [141] (fun u wx => u = .bool T ∧ Below W6.heap.size W6 wx)
            case first =>
              go_wp2_with fail
              by_cases hc1 : x = l
              · by_cases hc2 : d = r
                · have HTC := hid (show T = false by rw [← HTT.out, decide_eq_true hc1, decide_eq_true hc2]; rfl)
                  have heq1 : ∀ W, (Op.equalIn 10000 28 (.agg (x.map u8).toArray) (.agg (l.map u8).toArray)).run Tryd.prog W = .ok true W := fun W => by rw [eqIn_dig x l hx16 hl'16 W, decide_eq_true hc1]
                  have heq2 : ∀ W, (Op.equalIn 10000 28 (.agg (d.map u8).toArray) (.agg (r.map u8).toArray)).run Tryd.prog W = .ok true W := fun W => by rw [eqIn_dig d r HD16.out hr'16 W, decide_eq_true hc2]
                  have HC := hid (And.intro hc1 hc2)
                  clear hc1 hc2
                  have HB0S := hid (show W6.heap.size ≤ W6.heap.size from Nat.le_refl _)
                  refine wp_region_noPanic ?_
                  refine wp_region_held_drew (S := Sx (W6.heap.size) W6 [(q, 0, d), (w3.heap.size, 0, l), (w4.heap.size, 0, r), (b', off' + (proof.length - 1) * 16, x)]) (by kernel_rfl) (Sx.start (HL9.out)) (fun hH => ?_)
                  refine wpAnyH_take (i := 0) (v := ?_) rfl (by kernel_rfl) (by kernel_rfl) (by kernel_rfl) (fun _ _ _ h => h) (Or.inl ⟨by rfl, ?_⟩) hH ?_
                  rotate_left
                  · (intro w hSw; simp only [List.getElem_toArray, List.getElem_cons_zero]; first | (go_simp; done) | (go_simp; with_reducible rfl))
                  simp only [List.getElem_toArray, List.getElem_cons_zero, Act.put, List.setIfInBounds_toArray, List.set_cons_zero, List.set_cons_succ]
                  refine wpAnyH_take (i := 1) (v := ?_) rfl (by kernel_rfl) (by kernel_rfl) (by kernel_rfl) (fun _ _ _ h => h) (Or.inl ⟨by rfl, ?_⟩) hH ?_
                  rotate_left
                  · (intro w hSw; simp only [List.getElem_toArray, List.getElem_cons_succ, List.getElem_cons_zero]; first | (go_simp; done) | (go_simp; with_reducible rfl))
                  simp only [List.getElem_toArray, List.getElem_cons_succ, List.getElem_cons_zero, Act.put, List.setIfInBounds_toArray, List.set_cons_zero, List.set_cons_succ]
                  refine wpAnyH_take (i := 2) (v := ?_) rfl (by kernel_rfl) (by kernel_rfl) (by kernel_rfl) (fun _ _ _ h => h) (Or.inl ⟨by rfl, ?_⟩) hH ?_
                  rotate_left
                  · (intro w hSw; simp only [List.getElem_toArray, List.getElem_cons_succ, List.getElem_cons_zero]; first | (go_simp; done) | (go_simp; with_reducible rfl))
                  simp only [List.getElem_toArray, List.getElem_cons_succ, List.getElem_cons_zero, Act.put, List.setIfInBounds_toArray, List.set_cons_zero, List.set_cons_succ]
                  refine wpAnyH_take (i := 3) rfl (by kernel_rfl) (by kernel_rfl) (by kernel_rfl) (fun _ _ _ h => h) (yieldsIf_load_mid (by rfl) _ _ rfl b' (off' + (proof.length - 1) * 16) rfl (x.map u8) _ (fun w h => Sx.get h (k := 3) rfl) under28 rfl (info16 x hx16)) hH ?_
                  simp only [List.getElem_toArray, List.getElem_cons_succ, List.getElem_cons_zero, Act.put, List.setIfInBounds_toArray, List.set_cons_zero, List.set_cons_succ]
                  refine wpAnyH_take (i := 4) rfl (by kernel_rfl) (by kernel_rfl) (by kernel_rfl) (fun _ _ _ h => h) (yieldsIf_load_mid (by rfl) _ _ rfl w3.heap.size 0 rfl (l.map u8) _ (fun w h => Sx.get h (k := 1) rfl) under28 rfl (info16 l hl'16)) hH ?_
                  simp only [List.getElem_toArray, List.getElem_cons_succ, List.getElem_cons_zero, Act.put, List.setIfInBounds_toArray, List.set_cons_zero, List.set_cons_succ]
                  refine wpAnyH_take (i := 5) (v := ?_) rfl (by kernel_rfl) (by kernel_rfl) (by kernel_rfl) (fun _ _ _ h => h) (Or.inl ⟨by rfl, ?_⟩) hH ?_
                  rotate_left
                  · (intro w hSw; simp only [List.getElem_toArray, List.getElem_cons_succ, List.getElem_cons_zero]; first | (go_simp; done) | (go_simp; with_reducible rfl))
                  simp only [List.getElem_toArray, List.getElem_cons_succ, List.getElem_cons_zero, Act.put, List.setIfInBounds_toArray, List.set_cons_zero, List.set_cons_succ]
                  refine wpAnyH_take (i := 6) (v := ?_) rfl (by kernel_rfl) (by kernel_rfl) (by kernel_rfl) (fun _ _ _ h => h) (Or.inl ⟨by rfl, ?_⟩) hH ?_
                  rotate_left
                  · (intro w hSw; simp only [List.getElem_toArray, List.getElem_cons_succ, List.getElem_cons_zero]; first | (go_simp; done) | (go_simp; with_reducible rfl))
                  simp only [List.getElem_toArray, List.getElem_cons_succ, List.getElem_cons_zero, Act.put, List.setIfInBounds_toArray, List.set_cons_zero, List.set_cons_succ]
                  refine wpAnyH_take (i := 7) rfl (by kernel_rfl) (by kernel_rfl) (by kernel_rfl) (fun _ _ _ h => h) (yieldsIf_load_mid (by rfl) _ _ rfl q 0 rfl (d.map u8) _ (fun w h => Sx.get h (k := 0) rfl) under28 rfl (info16 d HD16.out)) hH ?_
                  simp only [List.getElem_toArray, List.getElem_cons_succ, List.getElem_cons_zero, Act.put, List.setIfInBounds_toArray, List.set_cons_zero, List.set_cons_succ]
                  refine wpAnyH_take (i := 8) rfl (by kernel_rfl) (by kernel_rfl) (by kernel_rfl) (fun _ _ _ h => h) (yieldsIf_load_mid (by rfl) _ _ rfl w4.heap.size 0 rfl (r.map u8) _ (fun w h => Sx.get h (k := 2) rfl) under28 rfl (info16 r hr'16)) hH ?_
                  simp only [List.getElem_toArray, List.getElem_cons_succ, List.getElem_cons_zero, Act.put, List.setIfInBounds_toArray, List.set_cons_zero, List.set_cons_succ]
                  refine wpAnyH_take (i := 9) (v := ?_) rfl (by kernel_rfl) (by kernel_rfl) (by kernel_rfl) (fun _ _ _ h => h) (Or.inl ⟨by rfl, ?_⟩) hH ?_
                  rotate_left
                  · (intro w hSw; simp only [List.getElem_toArray, List.getElem_cons_succ, List.getElem_cons_zero]; first | (go_simp; done) | (go_simp; with_reducible rfl))
                  simp only [List.getElem_toArray, List.getElem_cons_succ, List.getElem_cons_zero, Act.put, List.setIfInBounds_toArray, List.set_cons_zero, List.set_cons_succ]
                  refine wpAnyH_take (i := 10) (v := ?_) rfl (by kernel_rfl) (by kernel_rfl) (by kernel_rfl) (fun _ _ _ h => h) (Or.inl ⟨by rfl, ?_⟩) hH ?_
                  rotate_left
                  · (intro w hSw; simp only [List.getElem_toArray, List.getElem_cons_succ, List.getElem_cons_zero]; first | (go_simp; done) | (go_simp; with_reducible rfl))
                  simp only [List.getElem_toArray, List.getElem_cons_succ, List.getElem_cons_zero, Act.put, List.setIfInBounds_toArray, List.set_cons_zero, List.set_cons_succ]
                  refine wpAnyH_take (i := 11) (v := ?_) rfl (by kernel_rfl) (by kernel_rfl) (by kernel_rfl) (fun _ _ _ h => h) (Or.inl ⟨by rfl, ?_⟩) hH ?_
                  rotate_left
                  · (intro w hSw; simp only [List.getElem_toArray, List.getElem_cons_succ, List.getElem_cons_zero]; first | (go_simp; done) | (go_simp; with_reducible rfl))
                  simp only [List.getElem_toArray, List.getElem_cons_succ, List.getElem_cons_zero, Act.put, List.setIfInBounds_toArray, List.set_cons_zero, List.set_cons_succ]
                  refine wpAnyH_take (i := 12) (v := undef) rfl (by kernel_rfl) (by kernel_rfl) (by kernel_rfl) (fun _ _ _ h => h) (Or.inr ⟨by rfl, rfl⟩) hH ?_
                  simp only [List.getElem_toArray, List.getElem_cons_succ, List.getElem_cons_zero, Act.put, List.setIfInBounds_toArray, List.set_cons_zero, List.set_cons_succ]
                  refine wpAnyH_take (i := 13) (v := undef) rfl (by kernel_rfl) (by kernel_rfl) (by kernel_rfl) (fun _ _ _ h => h) (Or.inr ⟨by rfl, rfl⟩) hH ?_
                  simp only [List.getElem_toArray, List.getElem_cons_succ, List.getElem_cons_zero, Act.put, List.setIfInBounds_toArray, List.set_cons_zero, List.set_cons_succ]
                  refine wpAnyH_take (i := 14) (v := undef) rfl (by kernel_rfl) (by kernel_rfl) (by kernel_rfl) (fun _ _ _ h => h) (Or.inr ⟨by rfl, rfl⟩) hH ?_
                  simp only [List.getElem_toArray, List.getElem_cons_succ, List.getElem_cons_zero, Act.put, List.setIfInBounds_toArray, List.set_cons_zero, List.set_cons_succ]
                  refine wpAnyH_take (i := 15) (v := undef) rfl (by kernel_rfl) (by kernel_rfl) (by kernel_rfl) (fun _ _ _ h => h) (Or.inr ⟨by rfl, rfl⟩) hH ?_
                  simp only [List.getElem_toArray, List.getElem_cons_succ, List.getElem_cons_zero, Act.put, List.setIfInBounds_toArray, List.set_cons_zero, List.set_cons_succ]
                  refine wpAnyH_take (i := 16) (v := undef) rfl (by kernel_rfl) (by kernel_rfl) (by kernel_rfl) (fun _ _ _ h => h) (Or.inr ⟨by rfl, rfl⟩) hH ?_
                  simp only [List.getElem_toArray, List.getElem_cons_succ, List.getElem_cons_zero, Act.put, List.setIfInBounds_toArray, List.set_cons_zero, List.set_cons_succ]
                  refine wpAnyH_take (i := 17) (v := undef) rfl (by kernel_rfl) (by kernel_rfl) (by kernel_rfl) (fun _ _ _ h => h) (Or.inr ⟨by rfl, rfl⟩) hH ?_
                  simp only [List.getElem_toArray, List.getElem_cons_succ, List.getElem_cons_zero, Act.put, List.setIfInBounds_toArray, List.set_cons_zero, List.set_cons_succ]
                  refine wpAnyH_take (i := 18) (v := undef) rfl (by kernel_rfl) (by kernel_rfl) (by kernel_rfl) (fun _ _ _ h => h) (Or.inr ⟨by rfl, rfl⟩) hH ?_
                  simp only [List.getElem_toArray, List.getElem_cons_succ, List.getElem_cons_zero, Act.put, List.setIfInBounds_toArray, List.set_cons_zero, List.set_cons_succ]
                  refine wpAnyH_take (i := 19) (v := undef) rfl (by kernel_rfl) (by kernel_rfl) (by kernel_rfl) (fun _ _ _ h => h) (Or.inr ⟨by rfl, rfl⟩) hH ?_
                  simp only [List.getElem_toArray, List.getElem_cons_succ, List.getElem_cons_zero, Act.put, List.setIfInBounds_toArray, List.set_cons_zero, List.set_cons_succ]
                  refine wpAnyH_take (i := 20) (v := undef) rfl (by kernel_rfl) (by kernel_rfl) (by kernel_rfl) (fun _ _ _ h => h) (Or.inr ⟨by rfl, rfl⟩) hH ?_
                  simp only [List.getElem_toArray, List.getElem_cons_succ, List.getElem_cons_zero, Act.put, List.setIfInBounds_toArray, List.set_cons_zero, List.set_cons_succ]
                  refine wpAnyH_take (i := 21) (v := undef) rfl (by kernel_rfl) (by kernel_rfl) (by kernel_rfl) (fun _ _ _ h => h) (Or.inr ⟨by rfl, rfl⟩) hH ?_
                  simp only [List.getElem_toArray, List.getElem_cons_succ, List.getElem_cons_zero, Act.put, List.setIfInBounds_toArray, List.set_cons_zero, List.set_cons_succ]
                  refine wpAnyH_take (i := 22) (v := ?_) rfl (by kernel_rfl) (by kernel_rfl) (by kernel_rfl) (fun _ _ _ h => h) (Or.inl ⟨by rfl, ?_⟩) hH ?_
                  rotate_left
                  · (intro w hSw; simp only [List.getElem_toArray, List.getElem_cons_succ, List.getElem_cons_zero]; first | (go_simp; done) | (go_simp; with_reducible rfl))
                  simp only [List.getElem_toArray, List.getElem_cons_succ, List.getElem_cons_zero, Act.put, List.setIfInBounds_toArray, List.set_cons_zero, List.set_cons_succ]
                  refine wpAnyH_done (by kernel_rfl) ?_ _
                  refine NoPanic.normal ?_
                  go_wp2_with fail
                  go_meet
                  case rel => exact ⟨by rw [HTC.out], hH.below⟩
                · have HTC := hid (show T = decide (n1 = n2) by rw [← HTT.out, decide_eq_true hc1, decide_eq_false hc2]; rfl)
                  have heq1 : ∀ W, (Op.equalIn 10000 28 (.agg (x.map u8).toArray) (.agg (l.map u8).toArray)).run Tryd.prog W = .ok true W := fun W => by rw [eqIn_dig x l hx16 hl'16 W, decide_eq_true hc1]
                  have heq2 : ∀ W, (Op.equalIn 10000 28 (.agg (d.map u8).toArray) (.agg (r.map u8).toArray)).run Tryd.prog W = .ok false W := fun W => by rw [eqIn_dig d r HD16.out hr'16 W, decide_eq_false hc2]
                  have heqn := HHN.out
                  have HC := hid (And.intro hc1 hc2)
                  clear hc1 hc2
                  have HB0S := hid (show W6.heap.size ≤ W6.heap.size from Nat.le_refl _)
                  refine wp_region_noPanic ?_
                  refine wp_region_held_drew (S := Sx (W6.heap.size) W6 [(q, 0, d), (w3.heap.size, 0, l), (w4.heap.size, 0, r), (b', off' + (proof.length - 1) * 16, x)]) (by kernel_rfl) (Sx.start (HL9.out)) (fun hH => ?_)
                  refine wpAnyH_take (i := 0) (v := ?_) rfl (by kernel_rfl) (by kernel_rfl) (by kernel_rfl) (fun _ _ _ h => h) (Or.inl ⟨by rfl, ?_⟩) hH ?_
                  rotate_left
                  · (intro w hSw; simp only [List.getElem_toArray, List.getElem_cons_zero]; first | (go_simp; done) | (go_simp; with_reducible rfl))
                  simp only [List.getElem_toArray, List.getElem_cons_zero, Act.put, List.setIfInBounds_toArray, List.set_cons_zero, List.set_cons_succ]
                  refine wpAnyH_take (i := 1) (v := ?_) rfl (by kernel_rfl) (by kernel_rfl) (by kernel_rfl) (fun _ _ _ h => h) (Or.inl ⟨by rfl, ?_⟩) hH ?_
                  rotate_left
                  · (intro w hSw; simp only [List.getElem_toArray, List.getElem_cons_succ, List.getElem_cons_zero]; first | (go_simp; done) | (go_simp; with_reducible rfl))
                  simp only [List.getElem_toArray, List.getElem_cons_succ, List.getElem_cons_zero, Act.put, List.setIfInBounds_toArray, List.set_cons_zero, List.set_cons_succ]
                  refine wpAnyH_take (i := 2) (v := ?_) rfl (by kernel_rfl) (by kernel_rfl) (by kernel_rfl) (fun _ _ _ h => h) (Or.inl ⟨by rfl, ?_⟩) hH ?_
                  rotate_left
                  · (intro w hSw; simp only [List.getElem_toArray, List.getElem_cons_succ, List.getElem_cons_zero]; first | (go_simp; done) | (go_simp; with_reducible rfl))
                  simp only [List.getElem_toArray, List.getElem_cons_succ, List.getElem_cons_zero, Act.put, List.setIfInBounds_toArray, List.set_cons_zero, List.set_cons_succ]
                  refine wpAnyH_take (i := 3) rfl (by kernel_rfl) (by kernel_rfl) (by kernel_rfl) (fun _ _ _ h => h) (yieldsIf_load_mid (by rfl) _ _ rfl b' (off' + (proof.length - 1) * 16) rfl (x.map u8) _ (fun w h => Sx.get h (k := 3) rfl) under28 rfl (info16 x hx16)) hH ?_
                  simp only [List.getElem_toArray, List.getElem_cons_succ, List.getElem_cons_zero, Act.put, List.setIfInBounds_toArray, List.set_cons_zero, List.set_cons_succ]
                  refine wpAnyH_take (i := 4) rfl (by kernel_rfl) (by kernel_rfl) (by kernel_rfl) (fun _ _ _ h => h) (yieldsIf_load_mid (by rfl) _ _ rfl w3.heap.size 0 rfl (l.map u8) _ (fun w h => Sx.get h (k := 1) rfl) under28 rfl (info16 l hl'16)) hH ?_
                  simp only [List.getElem_toArray, List.getElem_cons_succ, List.getElem_cons_zero, Act.put, List.setIfInBounds_toArray, List.set_cons_zero, List.set_cons_succ]
                  refine wpAnyH_take (i := 5) (v := ?_) rfl (by kernel_rfl) (by kernel_rfl) (by kernel_rfl) (fun _ _ _ h => h) (Or.inl ⟨by rfl, ?_⟩) hH ?_
                  rotate_left
                  · (intro w hSw; simp only [List.getElem_toArray, List.getElem_cons_succ, List.getElem_cons_zero]; first | (go_simp; done) | (go_simp; with_reducible rfl))
                  simp only [List.getElem_toArray, List.getElem_cons_succ, List.getElem_cons_zero, Act.put, List.setIfInBounds_toArray, List.set_cons_zero, List.set_cons_succ]
                  refine wpAnyH_take (i := 6) (v := ?_) rfl (by kernel_rfl) (by kernel_rfl) (by kernel_rfl) (fun _ _ _ h => h) (Or.inl ⟨by rfl, ?_⟩) hH ?_
                  rotate_left
                  · (intro w hSw; simp only [List.getElem_toArray, List.getElem_cons_succ, List.getElem_cons_zero]; first | (go_simp; done) | (go_simp; with_reducible rfl))
                  simp only [List.getElem_toArray, List.getElem_cons_succ, List.getElem_cons_zero, Act.put, List.setIfInBounds_toArray, List.set_cons_zero, List.set_cons_succ]
                  refine wpAnyH_take (i := 7) rfl (by kernel_rfl) (by kernel_rfl) (by kernel_rfl) (fun _ _ _ h => h) (yieldsIf_load_mid (by rfl) _ _ rfl q 0 rfl (d.map u8) _ (fun w h => Sx.get h (k := 0) rfl) under28 rfl (info16 d HD16.out)) hH ?_
                  simp only [List.getElem_toArray, List.getElem_cons_succ, List.getElem_cons_zero, Act.put, List.setIfInBounds_toArray, List.set_cons_zero, List.set_cons_succ]
                  refine wpAnyH_take (i := 8) rfl (by kernel_rfl) (by kernel_rfl) (by kernel_rfl) (fun _ _ _ h => h) (yieldsIf_load_mid (by rfl) _ _ rfl w4.heap.size 0 rfl (r.map u8) _ (fun w h => Sx.get h (k := 2) rfl) under28 rfl (info16 r hr'16)) hH ?_
                  simp only [List.getElem_toArray, List.getElem_cons_succ, List.getElem_cons_zero, Act.put, List.setIfInBounds_toArray, List.set_cons_zero, List.set_cons_succ]
                  refine wpAnyH_take (i := 9) (v := ?_) rfl (by kernel_rfl) (by kernel_rfl) (by kernel_rfl) (fun _ _ _ h => h) (Or.inl ⟨by rfl, ?_⟩) hH ?_
                  rotate_left
                  · (intro w hSw; simp only [List.getElem_toArray, List.getElem_cons_succ, List.getElem_cons_zero]; first | (go_simp; done) | (go_simp; with_reducible rfl))
                  simp only [List.getElem_toArray, List.getElem_cons_succ, List.getElem_cons_zero, Act.put, List.setIfInBounds_toArray, List.set_cons_zero, List.set_cons_succ]
                  refine wpAnyH_take (i := 10) (v := ?_) rfl (by kernel_rfl) (by kernel_rfl) (by kernel_rfl) (fun _ _ _ h => h) (Or.inl ⟨by rfl, ?_⟩) hH ?_
                  rotate_left
                  · (intro w hSw; simp only [List.getElem_toArray, List.getElem_cons_succ, List.getElem_cons_zero]; first | (go_simp; done) | (go_simp; with_reducible rfl))
                  simp only [List.getElem_toArray, List.getElem_cons_succ, List.getElem_cons_zero, Act.put, List.setIfInBounds_toArray, List.set_cons_zero, List.set_cons_succ]
                  refine wpAnyH_take (i := 11) (v := ?_) rfl (by kernel_rfl) (by kernel_rfl) (by kernel_rfl) (fun _ _ _ h => h) (Or.inl ⟨by rfl, ?_⟩) hH ?_
                  rotate_left
                  · (intro w hSw; simp only [List.getElem_toArray, List.getElem_cons_succ, List.getElem_cons_zero]; first | (go_simp; done) | (go_simp; with_reducible rfl))
                  simp only [List.getElem_toArray, List.getElem_cons_succ, List.getElem_cons_zero, Act.put, List.setIfInBounds_toArray, List.set_cons_zero, List.set_cons_succ]
                  refine wpAnyH_take (i := 12) (v := ?_) rfl (by kernel_rfl) (by kernel_rfl) (by kernel_rfl) (fun _ _ _ h => h) (Or.inl ⟨by rfl, ?_⟩) hH ?_
                  rotate_left
                  · (intro w hSw; simp only [List.getElem_toArray, List.getElem_cons_succ, List.getElem_cons_zero]; first | (go_simp; done) | (go_simp; with_reducible rfl))
                  simp only [List.getElem_toArray, List.getElem_cons_succ, List.getElem_cons_zero, Act.put, List.setIfInBounds_toArray, List.set_cons_zero, List.set_cons_succ]
                  refine wpAnyH_take (i := 13) (v := ?_) rfl (by kernel_rfl) (by kernel_rfl) (by kernel_rfl) (fun _ _ _ h => h) (Or.inl ⟨by rfl, ?_⟩) hH ?_
                  rotate_left
                  · (intro w hSw; simp only [List.getElem_toArray, List.getElem_cons_succ, List.getElem_cons_zero]; first | (go_simp; done) | (go_simp; with_reducible rfl))
                  simp only [List.getElem_toArray, List.getElem_cons_succ, List.getElem_cons_zero, Act.put, List.setIfInBounds_toArray, List.set_cons_zero, List.set_cons_succ]
                  refine wpAnyH_take (i := 14) (v := ?_) rfl (by kernel_rfl) (by kernel_rfl) (by kernel_rfl) (fun _ _ _ h => h) (Or.inl ⟨by rfl, ?_⟩) hH ?_
                  rotate_left
                  · (intro w hSw; simp only [List.getElem_toArray, List.getElem_cons_succ, List.getElem_cons_zero]; first | (go_simp; done) | (go_simp; with_reducible rfl))
                  simp only [List.getElem_toArray, List.getElem_cons_succ, List.getElem_cons_zero, Act.put, List.setIfInBounds_toArray, List.set_cons_zero, List.set_cons_succ]
                  refine wpAnyH_take (i := 15) rfl (by kernel_rfl) (by kernel_rfl) (by kernel_rfl) (fun _ _ _ h => h) (yieldsIf_load_mid (by rfl) _ _ rfl b' (off' + (proof.length - 1) * 16) rfl (x.map u8) _ (fun w h => Sx.get h (k := 3) rfl) under28 rfl (info16 x hx16)) hH ?_
                  simp only [List.getElem_toArray, List.getElem_cons_succ, List.getElem_cons_zero, Act.put, List.setIfInBounds_toArray, List.set_cons_zero, List.set_cons_succ]
                  refine wpAnyH_take (i := 16) rfl (by kernel_rfl) (by kernel_rfl) (by kernel_rfl) (fun _ _ _ h => h) (yieldsIf_load_mid (by rfl) _ _ rfl q 0 rfl (d.map u8) _ (fun w h => Sx.get h (k := 0) rfl) under28 rfl (info16 d HD16.out)) hH ?_
                  simp only [List.getElem_toArray, List.getElem_cons_succ, List.getElem_cons_zero, Act.put, List.setIfInBounds_toArray, List.set_cons_zero, List.set_cons_succ]
                  refine wpAnyH_take (i := 18) rfl (by kernel_rfl) (by kernel_rfl) (by kernel_rfl) (fun _ _ _ h => h) (yieldsIf_load_mid (by rfl) _ _ rfl w3.heap.size 0 rfl (l.map u8) _ (fun w h => Sx.get h (k := 1) rfl) under28 rfl (info16 l hl'16)) hH ?_
                  simp only [List.getElem_toArray, List.getElem_cons_succ, List.getElem_cons_zero, Act.put, List.setIfInBounds_toArray, List.set_cons_zero, List.set_cons_succ]
                  refine wpAnyH_take (i := 19) rfl (by kernel_rfl) (by kernel_rfl) (by kernel_rfl) (fun _ _ _ h => h) (yieldsIf_load_mid (by rfl) _ _ rfl w4.heap.size 0 rfl (r.map u8) _ (fun w h => Sx.get h (k := 2) rfl) under28 rfl (info16 r hr'16)) hH ?_
                  simp only [List.getElem_toArray, List.getElem_cons_succ, List.getElem_cons_zero, Act.put, List.setIfInBounds_toArray, List.set_cons_zero, List.set_cons_succ]
                  refine wpAnyH_ready (rs := [17]) (by kernel_rfl) (by simp) ?_
                  refine AllReadyH.cons rfl (fun K hK => ?_) AllReadyH.nil
                  simp only [List.getElem_toArray, List.getElem_cons_succ, List.getElem_cons_zero]
                  go_simp
                  (with_reducible refine (HN1.out _ (HT6.out.keep hH.below)).mono ?_)
                  rintro e z14 ⟨rfl, hb5⟩
                  have HBS := hid hb5
                  clear hb5
                  go_wp2_with fail
                  refine hK.out _ _ ?_ (fun hH => ?_)
                  · exact hH.call HBS.out HB0S.out
                  clear hK K
                  try simp only [Act.put, List.setIfInBounds_toArray, List.set_cons_zero, List.set_cons_succ]
                  refine wpAnyH_ready (rs := [20]) (by kernel_rfl) (by simp) ?_
                  refine AllReadyH.cons rfl (fun K hK => ?_) AllReadyH.nil
                  simp only [List.getElem_toArray, List.getElem_cons_succ, List.getElem_cons_zero]
                  go_simp
                  (with_reducible refine (HN2.out _ (HT6.out.keep hH.below)).mono ?_)
                  rintro e z15 ⟨rfl, hb5⟩
                  have HBS := hid hb5
                  clear hb5
                  go_wp2_with fail
                  refine hK.out _ _ ?_ (fun hH => ?_)
                  · exact hH.call HBS.out HB0S.out
                  clear hK K
                  try simp only [Act.put, List.setIfInBounds_toArray, List.set_cons_zero, List.set_cons_succ]
                  refine wpAnyH_take (i := 21) (v := ?_) rfl (by kernel_rfl) (by kernel_rfl) (by kernel_rfl) (fun _ _ _ h => h) (Or.inl ⟨by rfl, ?_⟩) hH ?_
                  rotate_left
                  · (intro w hSw; simp only [List.getElem_toArray, List.getElem_cons_succ, List.getElem_cons_zero]; first | (go_simp; done) | (go_simp; with_reducible rfl))
                  simp only [List.getElem_toArray, List.getElem_cons_succ, List.getElem_cons_zero, Act.put, List.setIfInBounds_toArray, List.set_cons_zero, List.set_cons_succ]
                  refine wpAnyH_take (i := 22) (v := ?_) rfl (by kernel_rfl) (by kernel_rfl) (by kernel_rfl) (fun _ _ _ h => h) (Or.inl ⟨by rfl, ?_⟩) hH ?_
                  rotate_left
                  · (intro w hSw; simp only [List.getElem_toArray, List.getElem_cons_succ, List.getElem_cons_zero]; first | (go_simp; done) | (go_simp; with_reducible rfl))
                  simp only [List.getElem_toArray, List.getElem_cons_succ, List.getElem_cons_zero, Act.put, List.setIfInBounds_toArray, List.set_cons_zero, List.set_cons_succ]
                  refine wpAnyH_done (by kernel_rfl) ?_ _
                  refine NoPanic.normal ?_
                  go_wp2_with fail
                  go_meet
                  case rel => exact ⟨by rw [HTC.out], hH.below⟩
              · have HTC := hid (show T = decide (n1 = n2) by rw [← HTT.out, decide_eq_false hc1]; rfl)
                have heq1 : ∀ W, (Op.equalIn 10000 28 (.agg (x.map u8).toArray) (.agg (l.map u8).toArray)).run Tryd.prog W = .ok false W := fun W => by rw [eqIn_dig x l hx16 hl'16 W, decide_eq_false hc1]
                have heqn := HHN.out
                have HC := hid hc1
                clear hc1
                have HB0S := hid (show W6.heap.size ≤ W6.heap.size from Nat.le_refl _)
                refine wp_region_noPanic ?_
                refine wp_region_held_drew (S := Sx (W6.heap.size) W6 [(q, 0, d), (w3.heap.size, 0, l), (w4.heap.size, 0, r), (b', off' + (proof.length - 1) * 16, x)]) (by kernel_rfl) (Sx.start (HL9.out)) (fun hH => ?_)
                refine wpAnyH_take (i := 0) (v := ?_) rfl (by kernel_rfl) (by kernel_rfl) (by kernel_rfl) (fun _ _ _ h => h) (Or.inl ⟨by rfl, ?_⟩) hH ?_
                rotate_left
                · (intro w hSw; simp only [List.getElem_toArray, List.getElem_cons_zero]; first | (go_simp; done) | (go_simp; with_reducible rfl))
                simp only [List.getElem_toArray, List.getElem_cons_zero, Act.put, List.setIfInBounds_toArray, List.set_cons_zero, List.set_cons_succ]
                refine wpAnyH_take (i := 1) (v := ?_) rfl (by kernel_rfl) (by kernel_rfl) (by kernel_rfl) (fun _ _ _ h => h) (Or.inl ⟨by rfl, ?_⟩) hH ?_
                rotate_left
                · (intro w hSw; simp only [List.getElem_toArray, List.getElem_cons_succ, List.getElem_cons_zero]; first | (go_simp; done) | (go_simp; with_reducible rfl))
                simp only [List.getElem_toArray, List.getElem_cons_succ, List.getElem_cons_zero, Act.put, List.setIfInBounds_toArray, List.set_cons_zero, List.set_cons_succ]
                refine wpAnyH_take (i := 2) (v := ?_) rfl (by kernel_rfl) (by kernel_rfl) (by kernel_rfl) (fun _ _ _ h => h) (Or.inl ⟨by rfl, ?_⟩) hH ?_
                rotate_left
                · (intro w hSw; simp only [List.getElem_toArray, List.getElem_cons_succ, List.getElem_cons_zero]; first | (go_simp; done) | (go_simp; with_reducible rfl))
                simp only [List.getElem_toArray, List.getElem_cons_succ, List.getElem_cons_zero, Act.put, List.setIfInBounds_toArray, List.set_cons_zero, List.set_cons_succ]
                refine wpAnyH_take (i := 3) rfl (by kernel_rfl) (by kernel_rfl) (by kernel_rfl) (fun _ _ _ h => h) (yieldsIf_load_mid (by rfl) _ _ rfl b' (off' + (proof.length - 1) * 16) rfl (x.map u8) _ (fun w h => Sx.get h (k := 3) rfl) under28 rfl (info16 x hx16)) hH ?_
                simp only [List.getElem_toArray, List.getElem_cons_succ, List.getElem_cons_zero, Act.put, List.setIfInBounds_toArray, List.set_cons_zero, List.set_cons_succ]
                refine wpAnyH_take (i := 4) rfl (by kernel_rfl) (by kernel_rfl) (by kernel_rfl) (fun _ _ _ h => h) (yieldsIf_load_mid (by rfl) _ _ rfl w3.heap.size 0 rfl (l.map u8) _ (fun w h => Sx.get h (k := 1) rfl) under28 rfl (info16 l hl'16)) hH ?_
                simp only [List.getElem_toArray, List.getElem_cons_succ, List.getElem_cons_zero, Act.put, List.setIfInBounds_toArray, List.set_cons_zero, List.set_cons_succ]
                refine wpAnyH_take (i := 5) (v := ?_) rfl (by kernel_rfl) (by kernel_rfl) (by kernel_rfl) (fun _ _ _ h => h) (Or.inl ⟨by rfl, ?_⟩) hH ?_
                rotate_left
                · (intro w hSw; simp only [List.getElem_toArray, List.getElem_cons_succ, List.getElem_cons_zero]; first | (go_simp; done) | (go_simp; with_reducible rfl))
                simp only [List.getElem_toArray, List.getElem_cons_succ, List.getElem_cons_zero, Act.put, List.setIfInBounds_toArray, List.set_cons_zero, List.set_cons_succ]
                refine wpAnyH_take (i := 6) (v := ?_) rfl (by kernel_rfl) (by kernel_rfl) (by kernel_rfl) (fun _ _ _ h => h) (Or.inl ⟨by rfl, ?_⟩) hH ?_
                rotate_left
                · (intro w hSw; simp only [List.getElem_toArray, List.getElem_cons_succ, List.getElem_cons_zero]; first | (go_simp; done) | (go_simp; with_reducible rfl))
                simp only [List.getElem_toArray, List.getElem_cons_succ, List.getElem_cons_zero, Act.put, List.setIfInBounds_toArray, List.set_cons_zero, List.set_cons_succ]
                refine wpAnyH_take (i := 7) (v := undef) rfl (by kernel_rfl) (by kernel_rfl) (by kernel_rfl) (fun _ _ _ h => h) (Or.inr ⟨by rfl, rfl⟩) hH ?_
                simp only [List.getElem_toArray, List.getElem_cons_succ, List.getElem_cons_zero, Act.put, List.setIfInBounds_toArray, List.set_cons_zero, List.set_cons_succ]
                refine wpAnyH_take (i := 8) (v := undef) rfl (by kernel_rfl) (by kernel_rfl) (by kernel_rfl) (fun _ _ _ h => h) (Or.inr ⟨by rfl, rfl⟩) hH ?_
                simp only [List.getElem_toArray, List.getElem_cons_succ, List.getElem_cons_zero, Act.put, List.setIfInBounds_toArray, List.set_cons_zero, List.set_cons_succ]
                refine wpAnyH_take (i := 9) (v := undef) rfl (by kernel_rfl) (by kernel_rfl) (by kernel_rfl) (fun _ _ _ h => h) (Or.inr ⟨by rfl, rfl⟩) hH ?_
                simp only [List.getElem_toArray, List.getElem_cons_succ, List.getElem_cons_zero, Act.put, List.setIfInBounds_toArray, List.set_cons_zero, List.set_cons_succ]
                refine wpAnyH_take (i := 10) (v := ?_) rfl (by kernel_rfl) (by kernel_rfl) (by kernel_rfl) (fun _ _ _ h => h) (Or.inl ⟨by rfl, ?_⟩) hH ?_
                rotate_left
                · (intro w hSw; simp only [List.getElem_toArray, List.getElem_cons_succ, List.getElem_cons_zero]; first | (go_simp; done) | (go_simp; with_reducible rfl))
                simp only [List.getElem_toArray, List.getElem_cons_succ, List.getElem_cons_zero, Act.put, List.setIfInBounds_toArray, List.set_cons_zero, List.set_cons_succ]
                refine wpAnyH_take (i := 11) (v := ?_) rfl (by kernel_rfl) (by kernel_rfl) (by kernel_rfl) (fun _ _ _ h => h) (Or.inl ⟨by rfl, ?_⟩) hH ?_
                rotate_left
                · (intro w hSw; simp only [List.getElem_toArray, List.getElem_cons_succ, List.getElem_cons_zero]; first | (go_simp; done) | (go_simp; with_reducible rfl))
                simp only [List.getElem_toArray, List.getElem_cons_succ, List.getElem_cons_zero, Act.put, List.setIfInBounds_toArray, List.set_cons_zero, List.set_cons_succ]
                refine wpAnyH_take (i := 12) (v := ?_) rfl (by kernel_rfl) (by kernel_rfl) (by kernel_rfl) (fun _ _ _ h => h) (Or.inl ⟨by rfl, ?_⟩) hH ?_
                rotate_left
                · (intro w hSw; simp only [List.getElem_toArray, List.getElem_cons_succ, List.getElem_cons_zero]; first | (go_simp; done) | (go_simp; with_reducible rfl))
                simp only [List.getElem_toArray, List.getElem_cons_succ, List.getElem_cons_zero, Act.put, List.setIfInBounds_toArray, List.set_cons_zero, List.set_cons_succ]
                refine wpAnyH_take (i := 13) (v := ?_) rfl (by kernel_rfl) (by kernel_rfl) (by kernel_rfl) (fun _ _ _ h => h) (Or.inl ⟨by rfl, ?_⟩) hH ?_
                rotate_left
                · (intro w hSw; simp only [List.getElem_toArray, List.getElem_cons_succ, List.getElem_cons_zero]; first | (go_simp; done) | (go_simp; with_reducible rfl))
                simp only [List.getElem_toArray, List.getElem_cons_succ, List.getElem_cons_zero, Act.put, List.setIfInBounds_toArray, List.set_cons_zero, List.set_cons_succ]
                refine wpAnyH_take (i := 14) (v := ?_) rfl (by kernel_rfl) (by kernel_rfl) (by kernel_rfl) (fun _ _ _ h => h) (Or.inl ⟨by rfl, ?_⟩) hH ?_
                rotate_left
                · (intro w hSw; simp only [List.getElem_toArray, List.getElem_cons_succ, List.getElem_cons_zero]; first | (go_simp; done) | (go_simp; with_reducible rfl))
                simp only [List.getElem_toArray, List.getElem_cons_succ, List.getElem_cons_zero, Act.put, List.setIfInBounds_toArray, List.set_cons_zero, List.set_cons_succ]
                refine wpAnyH_take (i := 15) rfl (by kernel_rfl) (by kernel_rfl) (by kernel_rfl) (fun _ _ _ h => h) (yieldsIf_load_mid (by rfl) _ _ rfl b' (off' + (proof.length - 1) * 16) rfl (x.map u8) _ (fun w h => Sx.get h (k := 3) rfl) under28 rfl (info16 x hx16)) hH ?_
                simp only [List.getElem_toArray, List.getElem_cons_succ, List.getElem_cons_zero, Act.put, List.setIfInBounds_toArray, List.set_cons_zero, List.set_cons_succ]
                refine wpAnyH_take (i := 16) rfl (by kernel_rfl) (by kernel_rfl) (by kernel_rfl) (fun _ _ _ h => h) (yieldsIf_load_mid (by rfl) _ _ rfl q 0 rfl (d.map u8) _ (fun w h => Sx.get h (k := 0) rfl) under28 rfl (info16 d HD16.out)) hH ?_
                simp only [List.getElem_toArray, List.getElem_cons_succ, List.getElem_cons_zero, Act.put, List.setIfInBounds_toArray, List.set_cons_zero, List.set_cons_succ]
                refine wpAnyH_take (i := 18) rfl (by kernel_rfl) (by kernel_rfl) (by kernel_rfl) (fun _ _ _ h => h) (yieldsIf_load_mid (by rfl) _ _ rfl w3.heap.size 0 rfl (l.map u8) _ (fun w h => Sx.get h (k := 1) rfl) under28 rfl (info16 l hl'16)) hH ?_
                simp only [List.getElem_toArray, List.getElem_cons_succ, List.getElem_cons_zero, Act.put, List.setIfInBounds_toArray, List.set_cons_zero, List.set_cons_succ]
                refine wpAnyH_take (i := 19) rfl (by kernel_rfl) (by kernel_rfl) (by kernel_rfl) (fun _ _ _ h => h) (yieldsIf_load_mid (by rfl) _ _ rfl w4.heap.size 0 rfl (r.map u8) _ (fun w h => Sx.get h (k := 2) rfl) under28 rfl (info16 r hr'16)) hH ?_
                simp only [List.getElem_toArray, List.getElem_cons_succ, List.getElem_cons_zero, Act.put, List.setIfInBounds_toArray, List.set_cons_zero, List.set_cons_succ]
                refine wpAnyH_ready (rs := [17]) (by kernel_rfl) (by simp) ?_
                refine AllReadyH.cons rfl (fun K hK => ?_) AllReadyH.nil
                simp only [List.getElem_toArray, List.getElem_cons_succ, List.getElem_cons_zero]
                go_simp
                (with_reducible refine (HN1.out _ (HT6.out.keep hH.below)).mono ?_)
                rintro e z12 ⟨rfl, hb5⟩
                have HBS := hid hb5
                clear hb5
                go_wp2_with fail
                refine hK.out _ _ ?_ (fun hH => ?_)
                · exact hH.call HBS.out HB0S.out
                clear hK K
                try simp only [Act.put, List.setIfInBounds_toArray, List.set_cons_zero, List.set_cons_succ]
                refine wpAnyH_ready (rs := [20]) (by kernel_rfl) (by simp) ?_
                refine AllReadyH.cons rfl (fun K hK => ?_) AllReadyH.nil
                simp only [List.getElem_toArray, List.getElem_cons_succ, List.getElem_cons_zero]
                go_simp
                (with_reducible refine (HN2.out _ (HT6.out.keep hH.below)).mono ?_)
                rintro e z13 ⟨rfl, hb5⟩
                have HBS := hid hb5
                clear hb5
                go_wp2_with fail
                refine hK.out _ _ ?_ (fun hH => ?_)
                · exact hH.call HBS.out HB0S.out
                clear hK K
                try simp only [Act.put, List.setIfInBounds_toArray, List.set_cons_zero, List.set_cons_succ]
                refine wpAnyH_take (i := 21) (v := ?_) rfl (by kernel_rfl) (by kernel_rfl) (by kernel_rfl) (fun _ _ _ h => h) (Or.inl ⟨by rfl, ?_⟩) hH ?_
                rotate_left
                · (intro w hSw; simp only [List.getElem_toArray, List.getElem_cons_succ, List.getElem_cons_zero]; first | (go_simp; done) | (go_simp; with_reducible rfl))
                simp only [List.getElem_toArray, List.getElem_cons_succ, List.getElem_cons_zero, Act.put, List.setIfInBounds_toArray, List.set_cons_zero, List.set_cons_succ]
                refine wpAnyH_take (i := 22) (v := ?_) rfl (by kernel_rfl) (by kernel_rfl) (by kernel_rfl) (fun _ _ _ h => h) (Or.inl ⟨by rfl, ?_⟩) hH ?_
                rotate_left
                · (intro w hSw; simp only [List.getElem_toArray, List.getElem_cons_succ, List.getElem_cons_zero]; first | (go_simp; done) | (go_simp; with_reducible rfl))
                simp only [List.getElem_toArray, List.getElem_cons_succ, List.getElem_cons_zero, Act.put, List.setIfInBounds_toArray, List.set_cons_zero, List.set_cons_succ]
                refine wpAnyH_done (by kernel_rfl) ?_ _
                refine NoPanic.normal ?_
                go_wp2_with fail
                go_meet
                case rel => exact ⟨by rw [HTC.out], hH.below⟩
            case rest =>
              rename World => W7
              obtain ⟨rfl, hb7⟩ := hcut
              have HB7 := hid hb7
              have HB57 := hid (show Below W0.heap.size W0 W7 from HB56.out.trans (hb7.mono HB56.out.size))
              have HCR := hid (fun (W : World) (h : Below W7.heap.size W7 W) => HIH.out (ds.drop k) (i - k) leaf proof.dropLast (some ⟨b, off + k * 16, none⟩) (ds.length - k) (c - k) (some ⟨b', off', none⟩) (proof.length - 1) c' W (by rw [HLD.out]; omega) (by rw [HLD.out]; omega) (by rw [HLD.out]; omega) hl16 (H16.out.drop k) HP16.out.init (HT.out.keep (HB57.out.trans (h.mono HB57.out.size))) HLD.out.symm (by omega) HDL.out.symm (by omega) (by omega) (((HDS.out.drop k).keep (HB57.out.trans (h.mono HB57.out.size))).mono (Nat.le_trans HB57.out.size h.size)) ((HPR.out.init.keep (HB57.out.trans (h.mono HB57.out.size))).mono (Nat.le_trans HB57.out.size h.size)))
              have HL15 := hid (show ∀ p ∈ [(w.heap.size, 0, leaf)], W7.rangeAt p.1 p.2.1 (p.2.2.map u8) ∧ p.1 < W7.heap.size from fun p hp => by rw [List.mem_singleton.1 hp]; exact ⟨range_keep HRL.out HB57.out hz0, by have := HB57.out.size; simp only; omega⟩)
              clear hb7
              cases T
              · obtain ⟨R, hR⟩ : ∃ R, collF (ds.drop k) (i - k) leaf proof.dropLast = R := ⟨_, rfl⟩
                rw [hR] at HE HCR
                have HF := hid (show collF ds i leaf proof = R by rw [HE.out, if_neg (by decide)])
                clear hR
                go_wp2_with fail
                have HB0S := hid (show W7.heap.size ≤ W7.heap.size from Nat.le_refl _)
                refine wp_region_noPanic ?_
                refine wp_region_held_drew (S := Sx (W7.heap.size) W7 [(w.heap.size, 0, leaf)]) (by kernel_rfl) (Sx.start (HL15.out)) (fun hH => ?_)
                refine wpAnyH_take (i := 0) (v := ?_) rfl (by kernel_rfl) (by kernel_rfl) (by kernel_rfl) (fun _ _ _ h => h) (Or.inl ⟨by rfl, ?_⟩) hH ?_
                rotate_left
                · (intro w hSw; simp only [List.getElem_toArray, List.getElem_cons_zero]; first | (go_simp; done) | (go_simp; with_reducible rfl))
                simp only [List.getElem_toArray, List.getElem_cons_zero, Act.put, List.setIfInBounds_toArray, List.set_cons_zero, List.set_cons_succ]
                refine wpAnyH_take (i := 1) (v := ?_) rfl (by kernel_rfl) (by kernel_rfl) (by kernel_rfl) (fun _ _ _ h => h) (Or.inl ⟨by rfl, ?_⟩) hH ?_
                rotate_left
                · (intro w hSw; simp only [List.getElem_toArray, List.getElem_cons_succ, List.getElem_cons_zero]; first | (go_simp; done) | (go_simp; with_reducible rfl))
                simp only [List.getElem_toArray, List.getElem_cons_succ, List.getElem_cons_zero, Act.put, List.setIfInBounds_toArray, List.set_cons_zero, List.set_cons_succ]
                refine wpAnyH_take (i := 2) (v := ?_) rfl (by kernel_rfl) (by kernel_rfl) (by kernel_rfl) (fun _ _ _ h => h) (Or.inl ⟨by rfl, ?_⟩) hH ?_
                rotate_left
                · (intro w hSw; simp only [List.getElem_toArray, List.getElem_cons_succ, List.getElem_cons_zero]; first | (go_simp; done) | (go_simp; with_reducible rfl))
                simp only [List.getElem_toArray, List.getElem_cons_succ, List.getElem_cons_zero, Act.put, List.setIfInBounds_toArray, List.set_cons_zero, List.set_cons_succ]
                refine wpAnyH_take (i := 3) (v := ?_) rfl (by kernel_rfl) (by kernel_rfl) (by kernel_rfl) (fun _ _ _ h => h) (Or.inl ⟨by rfl, ?_⟩) hH ?_
                rotate_left
                · (intro w hSw; simp only [List.getElem_toArray, List.getElem_cons_succ, List.getElem_cons_zero]; first | (go_simp; done) | (go_simp; with_reducible rfl))
                simp only [List.getElem_toArray, List.getElem_cons_succ, List.getElem_cons_zero, Act.put, List.setIfInBounds_toArray, List.set_cons_zero, List.set_cons_succ]
                refine wpAnyH_take (i := 4) (v := ?_) rfl (by kernel_rfl) (by kernel_rfl) (by kernel_rfl) (fun _ _ _ h => h) (Or.inl ⟨by rfl, ?_⟩) hH ?_
                rotate_left
                · (intro w hSw; simp only [List.getElem_toArray, List.getElem_cons_succ, List.getElem_cons_zero]; first | (go_simp; done) | (go_simp; with_reducible rfl))
                simp only [List.getElem_toArray, List.getElem_cons_succ, List.getElem_cons_zero, Act.put, List.setIfInBounds_toArray, List.set_cons_zero, List.set_cons_succ]
                refine wpAnyH_take (i := 5) (v := ?_) rfl (by kernel_rfl) (by kernel_rfl) (by kernel_rfl) (fun _ _ _ h => h) (Or.inl ⟨by rfl, ?_⟩) hH ?_
                rotate_left
                · (intro w hSw; simp only [List.getElem_toArray, List.getElem_cons_succ, List.getElem_cons_zero]; first | (go_simp; done) | (go_simp; with_reducible rfl))
                simp only [List.getElem_toArray, List.getElem_cons_succ, List.getElem_cons_zero, Act.put, List.setIfInBounds_toArray, List.set_cons_zero, List.set_cons_succ]
                refine wpAnyH_take (i := 6) rfl (by kernel_rfl) (by kernel_rfl) (by kernel_rfl) (fun _ _ _ h => h) (yieldsIf_load_mid (by rfl) _ _ rfl w.heap.size 0 rfl (leaf.map u8) _ (fun w h => Sx.get h (k := 0) rfl) under28 rfl (info16 leaf hl16)) hH ?_
                simp only [List.getElem_toArray, List.getElem_cons_succ, List.getElem_cons_zero, Act.put, List.setIfInBounds_toArray, List.set_cons_zero, List.set_cons_succ]
                refine wpAnyH_take (i := 7) (v := ?_) rfl (by kernel_rfl) (by kernel_rfl) (by kernel_rfl) (fun _ _ _ h => h) (Or.inl ⟨by rfl, ?_⟩) hH ?_
                rotate_left
                · (intro w hSw; simp only [List.getElem_toArray, List.getElem_cons_succ, List.getElem_cons_zero]; first | (go_simp; done) | (go_simp; with_reducible rfl))
                simp only [List.getElem_toArray, List.getElem_cons_succ, List.getElem_cons_zero, Act.put, List.setIfInBounds_toArray, List.set_cons_zero, List.set_cons_succ]
                refine wpAnyH_take (i := 8) (v := ?_) rfl (by kernel_rfl) (by kernel_rfl) (by kernel_rfl) (fun _ _ _ h => h) (Or.inl ⟨by rfl, ?_⟩) hH ?_
                rotate_left
                · (intro w hSw; simp only [List.getElem_toArray, List.getElem_cons_succ, List.getElem_cons_zero]; first | (go_simp; done) | (go_simp; with_reducible rfl))
                simp only [List.getElem_toArray, List.getElem_cons_succ, List.getElem_cons_zero, Act.put, List.setIfInBounds_toArray, List.set_cons_zero, List.set_cons_succ]
                refine wpAnyH_take (i := 9) (v := ?_) rfl (by kernel_rfl) (by kernel_rfl) (by kernel_rfl) (fun _ _ _ h => h) (Or.inl ⟨by rfl, ?_⟩) hH ?_
                rotate_left
                · (intro w hSw; simp only [List.getElem_toArray, List.getElem_cons_succ, List.getElem_cons_zero]; first | (go_simp; done) | (go_simp; with_reducible rfl))
                simp only [List.getElem_toArray, List.getElem_cons_succ, List.getElem_cons_zero, Act.put, List.setIfInBounds_toArray, List.set_cons_zero, List.set_cons_succ]
                refine wpAnyH_ready (rs := [10]) (by kernel_rfl) (by simp) ?_
                refine AllReadyH.cons rfl (fun K hK => ?_) AllReadyH.nil
                simp only [List.getElem_toArray, List.getElem_cons_succ, List.getElem_cons_zero]
                go_simp
                (with_reducible refine (HCR.out _ hH.below).mono ?_)
                rintro e z16 ⟨rfl, hb5⟩
                have HBS := hid hb5
                clear hb5
                go_wp2_with fail
                refine hK.out _ _ ?_ (fun hH => ?_)
                · exact hH.call HBS.out HB0S.out
                clear hK K
                try simp only [Act.put, List.setIfInBounds_toArray, List.set_cons_zero, List.set_cons_succ]
                refine wpAnyH_take (i := 11) (v := ?_) rfl (by kernel_rfl) (by kernel_rfl) (by kernel_rfl) (fun _ _ _ h => h) (Or.inl ⟨by rfl, ?_⟩) hH ?_
                rotate_left
                · (intro w hSw; simp only [List.getElem_toArray, List.getElem_cons_succ, List.getElem_cons_zero]; first | (go_simp; done) | (go_simp; with_reducible rfl))
                simp only [List.getElem_toArray, List.getElem_cons_succ, List.getElem_cons_zero, Act.put, List.setIfInBounds_toArray, List.set_cons_zero, List.set_cons_succ]
                refine wpAnyH_done (by kernel_rfl) ?_ _
                refine NoPanic.normal ?_
                go_wp2_with fail
                go_ret
                exact ⟨ret_bool HF.out.symm, HB0.out.trans ((HB57.out.trans (hH.below.mono HB57.out.size)).mono HB0.out.size)⟩
              · have HF := hid (show collF ds i leaf proof = true by rw [HE.out, if_pos rfl])
                go_wp2_with fail
                go_ret
                exact ⟨ret_bool HF.out.symm, HB0.out.trans (HB57.out.mono HB0.out.size)⟩
          --]M
end Go.Proofs.YtbjfkliijhnloaaDoor
