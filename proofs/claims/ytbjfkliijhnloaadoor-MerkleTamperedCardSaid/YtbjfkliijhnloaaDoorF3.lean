/- MerkleTampered walked . -/
import Derived.Test.YtbjfkliijhnloaaDoorE3
import Derived.Test.YtbjfkliijhnloaaDoorF2
import Derived.Test.YtbjfkliijhnloaaDoorS1
namespace Go.Proofs.YtbjfkliijhnloaaDoor
open Go.RowKit
set_option linter.unusedVariables false

set_option maxRecDepth 100000 in
set_option maxHeartbeats 4000000 in
theorem tampered_any (ds : List (List UInt8)) (h16 : All16 ds) (a : Option Addr) (n c : Nat) (i at' : Nat) (hi : i < 256) (hat : at' < 256) (more : List UInt8) (hm16 : more.length = 16) (w : World) (hT : Tab w) (hn : n = ds.length) (hc : n ≤ c) (hds : DigB w.heap.size w a ds) :
    Calls Tryd.prog 8 #[.slice a n c, .int .u8 i, .int .u8 at', .agg (more.map u8).toArray] w fun e w' => e = .returned (.bool true) ∧ Below w.heap.size w w' := by
  subst hn
  have hsm : (List.map u8 more).toArray.size = 16 := by simp [hm16]
  obtain ⟨W0, hW0⟩ : ∃ W0, w.alloc (.cells (more.map u8).toArray 28) = W0 := ⟨_, rfl⟩
  have HB0 := hid (show Below w.heap.size w W0 by rw [← hW0]; exact below_alloc _ _)
  have HM0 := hid (show W0.rangeAt w.heap.size 0 (more.map u8) by rw [← hW0]; exact dig_range w more _)
  have hz0 : W0.heap.size = w.heap.size + 1 := by rw [← hW0]; simp
  have HT := hid (hT.keep HB0.out)
  have HDS := hid ((hds.keep HB0.out).mono HB0.out.size)
  have H16 := hid h16
  have HSA := hid (sanity_any W0 HT.out)
  have HW0 := hid hW0
  clear hT hds h16 hW0
  by_cases hbig : ds.length > 40 ∨ ds.length = 0
  · by_cases h40 : ds.length > 40
    · have b1 : (ds.length : Int) > 40 := by omega
      clear hbig
      go_enter Tryd.func8, Tryd.ntmps8
      go_wp2_with fail
      rw [HW0.out]
      go_wp2_with ((with_reducible refine (HSA.out).mono ?_); rintro e w1 ⟨rfl, hb⟩; have HB := hid hb; clear hb)
      go_ret
      exact ⟨rfl, HB0.out.trans (HB.out.mono HB0.out.size)⟩
    · have b1 : ¬ ((ds.length : Int) > 40) := by omega
      have b2 : ds.length = 0 := by omega
      clear hbig
      go_enter Tryd.func8, Tryd.ntmps8
      go_wp2_with fail
      rw [HW0.out]
      go_wp2_with ((with_reducible refine (HSA.out).mono ?_); rintro e w1 ⟨rfl, hb⟩; have HB := hid hb; clear hb)
      go_ret
      exact ⟨rfl, HB0.out.trans (HB.out.mono HB0.out.size)⟩
  · have b1 : ¬ ((ds.length : Int) > 40) := by omega
    have b2 : ¬ ((ds.length : Int) = 0) := by omega
    have d1 : decide ((40 : Int) < (ds.length : Int)) = false := by simp; omega
    have d2 : ((ds.length : Int) == 0) = false := by simp; intro h; simp [h] at hbig
    have hne : 0 < ds.length := by omega
    obtain ⟨k, hk⟩ : ∃ k, i % ds.length = k := ⟨_, rfl⟩
    have hkl : k < ds.length := by rw [← hk]; exact Nat.mod_lt _ hne
    have hrem : ((i : Int) % (ds.length : Int)) = (k : Int) := by rw [← hk]; exact (Int.natCast_emod i ds.length).symm
    have hrem2 : (Int.tmod (i : Int) (ds.length : Int)) = (k : Int) := by rw [Int.tmod_eq_emod_of_nonneg (by omega)]; exact hrem
    have hk1 : (k : Int) < (ds.length : Int) := by omega
    have hk0 : (0 : Int) ≤ (k : Int) := by omega
    have hw1 : IntKind.i64.wrap (i : Int) = (i : Int) := by simp [IntKind.wrap, IntKind.bits, IntKind.signed]; omega
    have hw2 : IntKind.i64.wrap (at' : Int) = (at' : Int) := by simp [IntKind.wrap, IntKind.bits, IntKind.signed]; omega
    obtain ⟨j, hj⟩ : ∃ j, at' % 16 = j := ⟨_, rfl⟩
    have hjl : j < 16 := by omega
    have hremj : ((at' : Int) % 16) = (j : Int) := by omega
    have hremj2 : (Int.tmod (at' : Int) 16) = (j : Int) := by rw [Int.tmod_eq_emod_of_nonneg (by omega)]; exact hremj
    have hj1 : (j : Int) < 16 := by omega
    have hj0 : (0 : Int) ≤ (j : Int) := by omega
    have HRT := hid (fun (W : World) (hb : Below W0.heap.size W0 W) => root_any (ds.length + 1) ds a ds.length c W (Nat.lt_succ_self _) H16.out (HT.out.keep hb) rfl hc (by omega) ((HDS.out.keep hb).mono hb.size))
    have HPV := hid (fun (W : World) (hb : Below W0.heap.size W0 W) => prove_ok ds a ds.length c k W H16.out (HT.out.keep hb) rfl hc (by omega) hkl ((HDS.out.keep hb).mono hb.size))
    obtain ⟨q, hq⟩ : ∃ q, proveF ds k = q := ⟨_, rfl⟩
    obtain ⟨r, hr⟩ : ∃ r, rootF ds = r := ⟨_, rfl⟩
    have HR16 := hid (show r.length = 16 by rw [← hr]; exact rootF_length _)
    rw [hq] at HPV
    rw [hr] at HRT
    have HQ := hid hq
    have HRR := hid hr
    clear hk hj hq hr hbig
    go_enter Tryd.func8, Tryd.ntmps8
    go_wp2_with fail
    rw [HW0.out]
    go_upto_region 11 with (first
      | (go_at_call 15; (with_reducible refine (HSA.out).mono ?_); rintro e w1 ⟨rfl, hb⟩; have HB1 := hid hb; clear hb)
      | (go_at_call 18; (with_reducible refine (HRT.out _ HB1.out).mono ?_); rintro e w2 ⟨rfl, hb⟩; have HB2 := hid (HB1.out.trans (hb.mono HB1.out.size)); clear hb)
      | (refine wpList_store_mid rfl _ _ _ rfl w2.heap.size 0 _ rfl rfl (there16 (alloc_there w2 _ _ 16 rfl) _ HR16.out) (info16a r HR16.out) (all_u8 r) ?_)
      | (go_at_call 16; (with_reducible refine (HPV.out _ (HB2.out.trans ((below_box w2 _ _ _).mono HB2.out.size))).mono ?_); rintro e w3 ⟨⟨pa, pc, rfl, hop⟩, hb⟩; have HOP := hid hop; have HB3 := hid ((below_box w2 _ _ _).trans (hb.mono (below_box w2 _ _ _).size)); have HLV := hid ((LV.start w2 _ _ rfl r HR16.out).keep hb); clear hop hb)
      | (refine wpList_load_mid rfl _ _ rfl w2.heap.size 0 rfl _ _ HLV.out.rg rfl rfl (info16 r HR16.out) ?_)
      | (refine wpList_store_mid rfl _ _ _ rfl w3.heap.size 0 _ rfl rfl (there16 (alloc_there w3 _ _ 16 rfl) _ HR16.out) (info16a r HR16.out) (all_u8 r) ?_))
    have HSET := hid (fun (Z : Array Value) (hZ : Z.size = 16) t => (World.rangeAt_setCells_same (w3.alloc (.cells Z t)) w3.heap.size 0 (r.map u8) (by have := alloc_there w3 Z t 16 hZ; simpa [HR16.out] using this)))
    obtain ⟨W4, hW4⟩ : ∃ W4, (w3.alloc (.cells #[.int .u8 0, .int .u8 0, .int .u8 0, .int .u8 0, .int .u8 0, .int .u8 0, .int .u8 0, .int .u8 0, .int .u8 0, .int .u8 0, .int .u8 0, .int .u8 0, .int .u8 0, .int .u8 0, .int .u8 0, .int .u8 0] 28)).setCells w3.heap.size 0 (r.map u8).toArray.toList = W4 := ⟨_, rfl⟩
    rw [hW4]
    have HR4 := hid (show W4.rangeAt w3.heap.size 0 (r.map u8) by rw [← hW4]; exact HSET.out _ rfl _)
    have hrj : j < r.length := by rw [HR16.out]; exact hjl
    have hcj : W4.cell? ⟨w3.heap.size, j, none⟩ = some (.int .u8 (n8 r[j])) := by have := HR4.out j (u8 r[j]) (by simp [hrj]); rwa [Nat.zero_add] at this
    have hfj : W4.frozen? ⟨w3.heap.size, j, none⟩ = false := by rw [← hW4, World.frozen?_setCells, World.frozen?_alloc_at (hn := rfl)]
    have hxo := xor8 r[j]
    have HB4 := hid (show Below w3.heap.size w3 W4 by rw [← hW4]; exact below_box w3 _ _ _)
    have HW4 := hid hW4
    clear hW4
    go_upto_region 12 with (fail)
    obtain ⟨W5, hW5⟩ : ∃ W5, W4.setCell ⟨w3.heap.size, j, none⟩ (.int .u8 (n8 (r[j] ^^^ 1))) = W5 := ⟨_, rfl⟩
    rw [hW5]
    have hsz43 : w3.heap.size < W4.heap.size := cell_lt hcj
    have HL54 := hid (show Below w3.heap.size W4 W5 by rw [← hW5]; exact (Below.refl _ _).setCell (p := ⟨w3.heap.size, j, none⟩) (Nat.le_refl _) _)
    have HL53 := hid (HB4.out.trans HL54.out)
    have HBAD := hid (show W5.rangeAt w3.heap.size 0 ((r.set j (r[j] ^^^ 1)).map u8) by rw [← hW5]; exact range_set HR4.out j _ hrj)
    have HBADN := hid (show r.set j (r[j] ^^^ 1) ≠ r from set_ne hrj)
    obtain ⟨bad, hbad⟩ : ∃ bad, r.set j (r[j] ^^^ 1) = bad := ⟨_, rfl⟩
    have HBAD16 := hid (show bad.length = 16 by rw [← hbad, List.length_set]; exact HR16.out)
    rw [hbad] at HBAD HBADN
    have h45 : W4.heap.size = W5.heap.size := by rw [← hW5]; simp
    have HLT5 := hid (show w.heap.size < w2.heap.size ∧ w2.heap.size < w3.heap.size ∧ w3.heap.size < W5.heap.size from ⟨by have := HB2.out.size; omega, HLV.out.lt, by omega⟩)
    have HW05 := hid (show Below W0.heap.size W0 W5 from (HB2.out.trans (HB3.out.mono HB2.out.size)).trans (HL53.out.mono (Nat.le_trans HB2.out.size HB3.out.size)))
    have HM5 := hid (range_keep HM0.out HW05.out (by omega))
    have HR5 := hid (range_keep HLV.out.rg HL53.out HLV.out.lt)
    have HQA := hid (show All16 q by rw [← HQ.out]; exact (proveF_all16 (ds.length + 1) ds k (Nat.lt_succ_self _)).1)
    have HP5 := hid (show DigB W5.heap.size W5 pa q by
      obtain ⟨a', c', e', -, -, hd⟩ := HOP.out.digB HQA.out
      simp only [Value.slice.injEq] at e'
      obtain ⟨rfl, -, -⟩ := e'
      exact (hd.keep HL53.out).mono HL53.out.size)
    have HPC := hid (show (pa = none → pc = 0) ∧ q.length ≤ pc by
      obtain ⟨a', c', e', hle, hn, hd⟩ := HOP.out.digB HQA.out
      simp only [Value.slice.injEq] at e'
      obtain ⟨rfl, -, rfl⟩ := e'
      exact ⟨hn, hle⟩)
    have HT5 := hid (HT.out.keep HW05.out)
    have HLQN := hid (show q.length ≤ ds.length by rw [← HQ.out]; exact (proveF_all16 (ds.length + 1) ds k (Nat.lt_succ_self _)).2)
    have HLQ := hid (show ([] : List (List UInt8)).length + q.length ≤ 1000000 by have := HLQN.out; simp; omega)
    have HLQ2 := hid (show q.length ≤ 1000000 by have := HLQN.out; omega)
    have hsm2 : more.length = 16 := hm16
    have hfd := fold_dig more hm16
    have hcl := HDS.out k hkl
    obtain ⟨b, off, rfl, hb0, -, hrg⟩ := hcl
    have hx16 := H16.out _ (List.getElem_mem hkl)
    have hxe : ds.getD k [] = ds[k] := by simp [List.getD, hkl]
    obtain ⟨x, hx⟩ : ∃ x, ds[k] = x := ⟨_, rfl⟩
    rw [hx] at hrg hx16 hxe
    rw [Nat.mul_comm] at hrg
    have HX5 := hid (range_keep hrg HW05.out hb0)
    have HBX := hid (show b < W5.heap.size from Nat.lt_of_lt_of_le hb0 HW05.out.size)
    have HSL := hid (show (sidesF ds.length k).length = q.length by rw [← HQ.out]; exact (prove_sides (ds.length + 1) ds k (Nat.lt_succ_self _) hkl).1)
    have HV1 := hid (show verifyF bad ds.length k x q = false by rw [← HQ.out, ← hxe]; exact verify_bad_root ds k hkl bad (by rw [HRR.out]; exact HBADN.out))
    have HV2 := hid (show verifyF r ds.length k x (q ++ [more]) = false from verify_bad_length _ _ _ _ _ (by rw [HSL.out]; simp))
    clear hW5 hbad hcj hfj hxo h45 hsz43 hx hrg hxe HW4 HR4 HSET HL54
    go_cut [16] (fun u wx => ∃ g cap, u = .slice (some ⟨g, 0, none⟩) (q.length + 1) cap ∧ OwnD W5.heap.size wx (.slice (some ⟨g, 0, none⟩) (q.length + 1) cap) (q ++ [more]) ∧ Below W5.heap.size W5 wx)
    case first =>
      have HB0S := hid (show W5.heap.size ≤ W5.heap.size from Nat.le_refl _)
      refine wp_region_noPanic ?_
      refine wp_region_held_drew (S := Sx (W5.heap.size) W5 [(w.heap.size, 0, more)]) (by kernel_rfl) (Sx.start (fun p hp => by rw [List.mem_singleton.1 hp]; exact ⟨HM5.out, by have := HLT5.out; omega⟩)) (fun hH => ?_)
      have HLL := hid (show ∀ p ∈ [(w.heap.size, 0, more)], p.1 < W5.heap.size from fun p hp => by rw [List.mem_singleton.1 hp]; have := HLT5.out; simp only; omega)
      refine wpAnyH_take (i := 1) (v := ?_) rfl (by kernel_rfl) (by kernel_rfl) (by kernel_rfl) (fun _ _ _ h => h) (Or.inl ⟨by rfl, ?_⟩) hH ?_
      rotate_left
      · (intro w hSw; simp only [List.getElem_toArray, List.getElem_cons_succ, List.getElem_cons_zero]; first | (go_simp; done) | (go_simp; with_reducible rfl))
      simp only [List.getElem_toArray, List.getElem_cons_succ, List.getElem_cons_zero, Act.put, List.setIfInBounds_toArray, List.set_cons_zero, List.set_cons_succ]
      refine wpAnyH_take (i := 3) rfl (by kernel_rfl) (by kernel_rfl) (by kernel_rfl) (fun _ _ _ h => h) (yieldsIf_load_mid (by rfl) _ _ rfl w.heap.size 0 rfl (more.map u8) _ (fun w h => Sx.get h (k := 0) rfl) under28 rfl (info16 more hm16)) hH ?_
      simp only [List.getElem_toArray, List.getElem_cons_succ, List.getElem_cons_zero, Act.put, List.setIfInBounds_toArray, List.set_cons_zero, List.set_cons_succ]
      refine wpAnyH_ready (rs := [0, 4]) (by kernel_rfl) (by simp) ?_
      refine AllReadyH.cons rfl (fun K hK => ?_) (AllReadyH.cons rfl (fun K hK => ?_) AllReadyH.nil)
      · simp only [List.getElem_toArray, List.getElem_cons_zero]
        obtain ⟨p0, hp0⟩ : ∃ p0, W5.drew.heap.size = p0 := ⟨_, rfl⟩
        have HE := hid (show OwnD W5.heap.size (W5.drew.alloc (.cells #[] 28)) (.slice (some ⟨p0, 0, none⟩) 0 0) [] ∧ p0 < (W5.drew.alloc (.cells #[] 28)).heap.size by rw [← hp0]; exact ⟨OwnD.empty _ _ hH.below.size, by simp⟩)
        have hb5 := below_alloc W5.drew (.cells #[] 28)
        clear hb5
        go_simp
        first | rw [hp0] | (simp at hp0; rw [hp0]) | skip
        refine hK.out _ _ ?_ (fun hH => ?_)
        · exact hH.alloc HB0S.out _
        clear hK K
        try simp only [Act.put, List.setIfInBounds_toArray, List.set_cons_zero, List.set_cons_succ]
        refine wpAnyH_ready (rs := [2, 4]) (by kernel_rfl) (by simp) ?_
        refine AllReadyH.cons rfl (fun K hK => ?_) (AllReadyH.cons rfl (fun K hK => ?_) AllReadyH.nil)
        · simp only [List.getElem_toArray, List.getElem_cons_succ, List.getElem_cons_zero]
          rw [if_pos (by rfl)]
          refine ow_appDs _ _ rfl W5.heap.size _ [] (by rfl) HE.out.1 pa q.length pc q (by rfl) (by rfl) HPC.out.1 HQA.out _ (HP5.out.keep hH.below) HLQ.out hH.below.size (fun v1 z1 ho hb5 hg => ?_)
          have HO1 := hid (show OwnD W5.heap.size z1 v1 q from ho)
          have HBS := hid hb5
          clear hb5 ho hg
          refine hK.out _ _ ?_ (fun hH => ?_)
          · exact hH.step HBS.out HLL.out
          clear hK K
          try simp only [Act.put, List.setIfInBounds_toArray, List.set_cons_zero, List.set_cons_succ]
          refine wpAnyH_ready (rs := [4]) (by kernel_rfl) (by simp) ?_
          refine AllReadyH.cons rfl (fun K hK => ?_) AllReadyH.nil
          simp only [List.getElem_toArray, List.getElem_cons_succ, List.getElem_cons_zero]
          obtain ⟨p1, hp1⟩ : ∃ p1, z1.heap.size = p1 := ⟨_, rfl⟩
          have HP1 := hid (show (z1.alloc (.cells (more.map u8).toArray 28)).rangeAt p1 0 (more.map u8) ∧ p1 < (z1.alloc (.cells (more.map u8).toArray 28)).heap.size by rw [← hp1]; exact ⟨dig_range z1 more _, by simp⟩)
          have hb5 := below_alloc z1 (.cells (more.map u8).toArray 28)
          have HO1 := hid (keepOD HO1.out hb5)
          clear hb5
          go_simp
          first | rw [hp1] | (simp at hp1; rw [hp1]) | skip
          refine hK.out _ _ ?_ (fun hH => ?_)
          · exact hH.alloc HB0S.out _
          clear hK K
          try simp only [Act.put, List.setIfInBounds_toArray, List.set_cons_zero, List.set_cons_succ]
          refine wpAnyH_ready (rs := [5]) (by kernel_rfl) (by simp) ?_
          refine AllReadyH.cons rfl (fun K hK => ?_) AllReadyH.nil
          simp only [List.getElem_toArray, List.getElem_cons_succ, List.getElem_cons_zero]
          rw [if_pos (by rfl)]
          refine ow_appD _ _ rfl W5.heap.size _ q (by rfl) HO1.out p1 1 more (by rfl) hm16 HP1.out.1 HLQ2.out hH.below.size (fun g cap z2 ho hb5 => ?_)
          have HO2 := hid ho
          have HBS := hid hb5
          clear hb5 ho
          refine hK.out _ _ ?_ (fun hH => ?_)
          · exact hH.step HBS.out HLL.out
          clear hK K
          try simp only [Act.put, List.setIfInBounds_toArray, List.set_cons_zero, List.set_cons_succ]
          refine wpAnyH_take (i := 6) (v := ?_) rfl (by kernel_rfl) (by kernel_rfl) (by kernel_rfl) (fun _ _ _ h => h) (Or.inl ⟨by rfl, ?_⟩) hH ?_
          rotate_left
          · (intro w hSw; simp only [List.getElem_toArray, List.getElem_cons_succ, List.getElem_cons_zero]; first | (go_simp; done) | (go_simp; with_reducible rfl))
          simp only [List.getElem_toArray, List.getElem_cons_succ, List.getElem_cons_zero, Act.put, List.setIfInBounds_toArray, List.set_cons_zero, List.set_cons_succ]
          refine wpAnyH_done (by kernel_rfl) ?_ _
          refine NoPanic.normal ?_
          go_wp2_with fail
          go_meet
          case rel => exact ⟨g, cap, rfl, HO2.out, hH.below⟩
        · simp only [List.getElem_toArray, List.getElem_cons_succ, List.getElem_cons_zero]
          obtain ⟨p1, hp1⟩ : ∃ p1, (W5.drew.alloc (.cells #[] 28)).heap.size = p1 := ⟨_, rfl⟩
          have HP1 := hid (show ((W5.drew.alloc (.cells #[] 28)).alloc (.cells (more.map u8).toArray 28)).rangeAt p1 0 (more.map u8) ∧ p1 < ((W5.drew.alloc (.cells #[] 28)).alloc (.cells (more.map u8).toArray 28)).heap.size by rw [← hp1]; exact ⟨dig_range (W5.drew.alloc (.cells #[] 28)) more _, by simp⟩)
          have hne01 : p1 ≠ p0 := by have := HE.out.2; omega
          have hb5 := below_alloc (W5.drew.alloc (.cells #[] 28)) (.cells (more.map u8).toArray 28)
          have HE := hid (keepE HE.out hb5)
          clear hb5
          go_simp
          first | rw [hp1] | (simp at hp1; rw [hp1]) | skip
          refine hK.out _ _ ?_ (fun hH => ?_)
          · exact hH.alloc HB0S.out _
          clear hK K
          try simp only [Act.put, List.setIfInBounds_toArray, List.set_cons_zero, List.set_cons_succ]
          refine wpAnyH_ready (rs := [2]) (by kernel_rfl) (by simp) ?_
          refine AllReadyH.cons rfl (fun K hK => ?_) AllReadyH.nil
          simp only [List.getElem_toArray, List.getElem_cons_succ, List.getElem_cons_zero]
          rw [if_pos (by rfl)]
          refine ow_appDs _ _ rfl W5.heap.size _ [] (by rfl) HE.out.1 pa q.length pc q (by rfl) (by rfl) HPC.out.1 HQA.out _ (HP5.out.keep hH.below) HLQ.out hH.below.size (fun v1 z3 ho hb5 hg => ?_)
          have HO1 := hid (show OwnD W5.heap.size z3 v1 q from ho)
          have HP1 := hid (keepG HP1.out hg hne01)
          have HBS := hid hb5
          clear hb5 ho hg
          refine hK.out _ _ ?_ (fun hH => ?_)
          · exact hH.step HBS.out HLL.out
          clear hK K
          try simp only [Act.put, List.setIfInBounds_toArray, List.set_cons_zero, List.set_cons_succ]
          refine wpAnyH_ready (rs := [5]) (by kernel_rfl) (by simp) ?_
          refine AllReadyH.cons rfl (fun K hK => ?_) AllReadyH.nil
          simp only [List.getElem_toArray, List.getElem_cons_succ, List.getElem_cons_zero]
          rw [if_pos (by rfl)]
          refine ow_appD _ _ rfl W5.heap.size _ q (by rfl) HO1.out p1 1 more (by rfl) hm16 HP1.out.1 HLQ2.out hH.below.size (fun g cap z4 ho hb5 => ?_)
          have HO2 := hid ho
          have HBS := hid hb5
          clear hb5 ho
          refine hK.out _ _ ?_ (fun hH => ?_)
          · exact hH.step HBS.out HLL.out
          clear hK K
          try simp only [Act.put, List.setIfInBounds_toArray, List.set_cons_zero, List.set_cons_succ]
          refine wpAnyH_take (i := 6) (v := ?_) rfl (by kernel_rfl) (by kernel_rfl) (by kernel_rfl) (fun _ _ _ h => h) (Or.inl ⟨by rfl, ?_⟩) hH ?_
          rotate_left
          · (intro w hSw; simp only [List.getElem_toArray, List.getElem_cons_succ, List.getElem_cons_zero]; first | (go_simp; done) | (go_simp; with_reducible rfl))
          simp only [List.getElem_toArray, List.getElem_cons_succ, List.getElem_cons_zero, Act.put, List.setIfInBounds_toArray, List.set_cons_zero, List.set_cons_succ]
          refine wpAnyH_done (by kernel_rfl) ?_ _
          refine NoPanic.normal ?_
          go_wp2_with fail
          go_meet
          case rel => exact ⟨g, cap, rfl, HO2.out, hH.below⟩
      · simp only [List.getElem_toArray, List.getElem_cons_succ, List.getElem_cons_zero]
        obtain ⟨p1, hp1⟩ : ∃ p1, W5.drew.heap.size = p1 := ⟨_, rfl⟩
        have HP1 := hid (show (W5.drew.alloc (.cells (more.map u8).toArray 28)).rangeAt p1 0 (more.map u8) ∧ p1 < (W5.drew.alloc (.cells (more.map u8).toArray 28)).heap.size by rw [← hp1]; exact ⟨dig_range W5.drew more _, by simp⟩)
        have hb5 := below_alloc W5.drew (.cells (more.map u8).toArray 28)
        clear hb5
        go_simp
        first | rw [hp1] | (simp at hp1; rw [hp1]) | skip
        refine hK.out _ _ ?_ (fun hH => ?_)
        · exact hH.alloc HB0S.out _
        clear hK K
        try simp only [Act.put, List.setIfInBounds_toArray, List.set_cons_zero, List.set_cons_succ]
        refine wpAnyH_ready (rs := [0]) (by kernel_rfl) (by simp) ?_
        refine AllReadyH.cons rfl (fun K hK => ?_) AllReadyH.nil
        simp only [List.getElem_toArray, List.getElem_cons_zero]
        obtain ⟨p0, hp0⟩ : ∃ p0, (W5.drew.alloc (.cells (more.map u8).toArray 28)).heap.size = p0 := ⟨_, rfl⟩
        have HE := hid (show OwnD W5.heap.size ((W5.drew.alloc (.cells (more.map u8).toArray 28)).alloc (.cells #[] 28)) (.slice (some ⟨p0, 0, none⟩) 0 0) [] ∧ p0 < ((W5.drew.alloc (.cells (more.map u8).toArray 28)).alloc (.cells #[] 28)).heap.size by rw [← hp0]; exact ⟨OwnD.empty _ _ hH.below.size, by simp⟩)
        have hne01 : p1 ≠ p0 := by have := HP1.out.2; omega
        have hb5 := below_alloc (W5.drew.alloc (.cells (more.map u8).toArray 28)) (.cells #[] 28)
        have HP1 := hid (keepR2 HP1.out hb5)
        clear hb5
        go_simp
        first | rw [hp0] | (simp at hp0; rw [hp0]) | skip
        refine hK.out _ _ ?_ (fun hH => ?_)
        · exact hH.alloc HB0S.out _
        clear hK K
        try simp only [Act.put, List.setIfInBounds_toArray, List.set_cons_zero, List.set_cons_succ]
        refine wpAnyH_ready (rs := [2]) (by kernel_rfl) (by simp) ?_
        refine AllReadyH.cons rfl (fun K hK => ?_) AllReadyH.nil
        simp only [List.getElem_toArray, List.getElem_cons_succ, List.getElem_cons_zero]
        rw [if_pos (by rfl)]
        refine ow_appDs _ _ rfl W5.heap.size _ [] (by rfl) HE.out.1 pa q.length pc q (by rfl) (by rfl) HPC.out.1 HQA.out _ (HP5.out.keep hH.below) HLQ.out hH.below.size (fun v1 z5 ho hb5 hg => ?_)
        have HO1 := hid (show OwnD W5.heap.size z5 v1 q from ho)
        have HP1 := hid (keepG HP1.out hg hne01)
        have HBS := hid hb5
        clear hb5 ho hg
        refine hK.out _ _ ?_ (fun hH => ?_)
        · exact hH.step HBS.out HLL.out
        clear hK K
        try simp only [Act.put, List.setIfInBounds_toArray, List.set_cons_zero, List.set_cons_succ]
        refine wpAnyH_ready (rs := [5]) (by kernel_rfl) (by simp) ?_
        refine AllReadyH.cons rfl (fun K hK => ?_) AllReadyH.nil
        simp only [List.getElem_toArray, List.getElem_cons_succ, List.getElem_cons_zero]
        rw [if_pos (by rfl)]
        refine ow_appD _ _ rfl W5.heap.size _ q (by rfl) HO1.out p1 1 more (by rfl) hm16 HP1.out.1 HLQ2.out hH.below.size (fun g cap z6 ho hb5 => ?_)
        have HO2 := hid ho
        have HBS := hid hb5
        clear hb5 ho
        refine hK.out _ _ ?_ (fun hH => ?_)
        · exact hH.step HBS.out HLL.out
        clear hK K
        try simp only [Act.put, List.setIfInBounds_toArray, List.set_cons_zero, List.set_cons_succ]
        refine wpAnyH_take (i := 6) (v := ?_) rfl (by kernel_rfl) (by kernel_rfl) (by kernel_rfl) (fun _ _ _ h => h) (Or.inl ⟨by rfl, ?_⟩) hH ?_
        rotate_left
        · (intro w hSw; simp only [List.getElem_toArray, List.getElem_cons_succ, List.getElem_cons_zero]; first | (go_simp; done) | (go_simp; with_reducible rfl))
        simp only [List.getElem_toArray, List.getElem_cons_succ, List.getElem_cons_zero, Act.put, List.setIfInBounds_toArray, List.set_cons_zero, List.set_cons_succ]
        refine wpAnyH_done (by kernel_rfl) ?_ _
        refine NoPanic.normal ?_
        go_wp2_with fail
        go_meet
        case rel => exact ⟨g, cap, rfl, HO2.out, hH.below⟩
    case rest =>
      rename World => W6
      obtain ⟨g, cap, rfl, hol, hb6⟩ := hcut
      have HB6 := hid hb6
      have HQM := hid (show All16 (q ++ [more]) from fun d hd => by
        rcases List.mem_append.1 hd with h | h
        · exact HQA.out d h
        · rw [List.mem_singleton.1 h]; exact hm16)
      have HP6 := hid (show DigB W6.heap.size W6 pa q from (HP5.out.keep hb6).mono hb6.size)
      have HPL6 := hid (show DigB W6.heap.size W6 (some ⟨g, 0, none⟩) (q ++ [more]) by
        have hol' : OwnD W5.heap.size W6 (.slice (some ⟨g, 0, none⟩) (q ++ [more]).length cap) (q ++ [more]) := by rw [List.length_append]; exact hol
        obtain ⟨a', c', e', -, -, hd⟩ := OwnD.digB hol HQM.out
        simp only [Value.slice.injEq] at e'
        obtain ⟨rfl, -, -⟩ := e'
        exact hd)
      have HT6 := hid (HT5.out.keep hb6)
      have HL6 := hid (show ∀ p ∈ [(w3.heap.size, 0, bad), (b, off + k * 16, x), (w2.heap.size, 0, r)], W6.rangeAt p.1 p.2.1 (p.2.2.map u8) ∧ p.1 < W6.heap.size from fun p hp => by
        have h5 := HLT5.out
        have h6 := hb6.size
        simp only [List.mem_cons, List.not_mem_nil, or_false] at hp
        rcases hp with rfl | rfl | rfl
        · exact ⟨range_keep HBAD.out hb6 h5.2.2, by simp only; omega⟩
        · exact ⟨range_keep HX5.out hb6 HBX.out, Nat.lt_of_lt_of_le HBX.out h6⟩
        · exact ⟨range_keep HR5.out hb6 (by omega), by simp only; omega⟩)
      have HC1 := hid (fun (W : World) (h : Below W6.heap.size W6 W) => by
        have := verify_ok bad x HBAD16.out hx16 ds.length k hkl (by omega) q HQA.out pa q.length pc rfl (by have := HLQ2.out; omega) W (HT6.out.keep h) ((HP6.out.keep h).mono h.size)
        rw [HV1.out] at this; exact this)
      have HC2 := hid (fun (W : World) (h : Below W6.heap.size W6 W) => by
        have := verify_ok r x HR16.out hx16 ds.length k hkl (by omega) (q ++ [more]) HQM.out (some ⟨g, 0, none⟩) (q.length + 1) cap (by simp) (by have := HLQN.out; omega) W (HT6.out.keep h) ((HPL6.out.keep h).mono h.size)
        rw [HV2.out] at this; exact this)
      clear hol hb6
      go_upto_region 13 with (fail)
      go_cut [80] (fun u wx => u = .bool false ∧ Below W6.heap.size W6 wx)
      case first =>
        go_wp2_with fail
        have HB0S := hid (show W6.heap.size ≤ W6.heap.size from Nat.le_refl _)
        refine wp_region_noPanic ?_
        refine wp_region_held_drew (S := Sx (W6.heap.size) W6 [(w3.heap.size, 0, bad), (b, off + k * 16, x), (w2.heap.size, 0, r)]) (by kernel_rfl) (Sx.start (HL6.out)) (fun hH => ?_)
        refine wpAnyH_take (i := 0) rfl (by kernel_rfl) (by kernel_rfl) (by kernel_rfl) (fun _ _ _ h => h) (yieldsIf_load_mid (by rfl) _ _ rfl w3.heap.size 0 rfl (bad.map u8) _ (fun w h => Sx.get h (k := 0) rfl) under28 rfl (info16 bad HBAD16.out)) hH ?_
        simp only [List.getElem_toArray, List.getElem_cons_zero, Act.put, List.setIfInBounds_toArray, List.set_cons_zero, List.set_cons_succ]
        refine wpAnyH_take (i := 1) (v := ?_) rfl (by kernel_rfl) (by kernel_rfl) (by kernel_rfl) (fun _ _ _ h => h) (Or.inl ⟨by rfl, ?_⟩) hH ?_
        rotate_left
        · (intro w hSw; simp only [List.getElem_toArray, List.getElem_cons_succ, List.getElem_cons_zero]; first | (go_simp; done) | (go_simp; with_reducible rfl))
        simp only [List.getElem_toArray, List.getElem_cons_succ, List.getElem_cons_zero, Act.put, List.setIfInBounds_toArray, List.set_cons_zero, List.set_cons_succ]
        refine wpAnyH_take (i := 2) (v := ?_) rfl (by kernel_rfl) (by kernel_rfl) (by kernel_rfl) (fun _ _ _ h => h) (Or.inl ⟨by rfl, ?_⟩) hH ?_
        rotate_left
        · (intro w hSw; simp only [List.getElem_toArray, List.getElem_cons_succ, List.getElem_cons_zero]; first | (go_simp; done) | (go_simp; with_reducible rfl))
        simp only [List.getElem_toArray, List.getElem_cons_succ, List.getElem_cons_zero, Act.put, List.setIfInBounds_toArray, List.set_cons_zero, List.set_cons_succ]
        refine wpAnyH_take (i := 3) (v := ?_) rfl (by kernel_rfl) (by kernel_rfl) (by kernel_rfl) (fun _ _ _ h => h) (Or.inl ⟨by rfl, ?_⟩) hH ?_
        rotate_left
        · (intro w hSw; simp only [List.getElem_toArray, List.getElem_cons_succ, List.getElem_cons_zero]; first | (go_simp; done) | (go_simp; with_reducible rfl))
        simp only [List.getElem_toArray, List.getElem_cons_succ, List.getElem_cons_zero, Act.put, List.setIfInBounds_toArray, List.set_cons_zero, List.set_cons_succ]
        refine wpAnyH_take (i := 4) (v := ?_) rfl (by kernel_rfl) (by kernel_rfl) (by kernel_rfl) (fun _ _ _ h => h) (Or.inl ⟨by rfl, ?_⟩) hH ?_
        rotate_left
        · (intro w hSw; simp only [List.getElem_toArray, List.getElem_cons_succ, List.getElem_cons_zero]; first | (go_simp; done) | (go_simp; with_reducible rfl))
        simp only [List.getElem_toArray, List.getElem_cons_succ, List.getElem_cons_zero, Act.put, List.setIfInBounds_toArray, List.set_cons_zero, List.set_cons_succ]
        refine wpAnyH_take (i := 5) (v := ?_) rfl (by kernel_rfl) (by kernel_rfl) (by kernel_rfl) (fun _ _ _ h => h) (Or.inl ⟨by rfl, ?_⟩) hH ?_
        rotate_left
        · (intro w hSw; simp only [List.getElem_toArray, List.getElem_cons_succ, List.getElem_cons_zero]; first | (go_simp; done) | (go_simp; with_reducible rfl))
        simp only [List.getElem_toArray, List.getElem_cons_succ, List.getElem_cons_zero, Act.put, List.setIfInBounds_toArray, List.set_cons_zero, List.set_cons_succ]
        refine wpAnyH_take (i := 6) rfl (by kernel_rfl) (by kernel_rfl) (by kernel_rfl) (fun _ _ _ h => h) (yieldsIf_load_mid (by rfl) _ _ rfl b (off + k * 16) rfl (x.map u8) _ (fun w h => Sx.get h (k := 1) rfl) under28 rfl (info16 x hx16)) hH ?_
        simp only [List.getElem_toArray, List.getElem_cons_succ, List.getElem_cons_zero, Act.put, List.setIfInBounds_toArray, List.set_cons_zero, List.set_cons_succ]
        refine wpAnyH_take (i := 7) (v := ?_) rfl (by kernel_rfl) (by kernel_rfl) (by kernel_rfl) (fun _ _ _ h => h) (Or.inl ⟨by rfl, ?_⟩) hH ?_
        rotate_left
        · (intro w hSw; simp only [List.getElem_toArray, List.getElem_cons_succ, List.getElem_cons_zero]; first | (go_simp; done) | (go_simp; with_reducible rfl))
        simp only [List.getElem_toArray, List.getElem_cons_succ, List.getElem_cons_zero, Act.put, List.setIfInBounds_toArray, List.set_cons_zero, List.set_cons_succ]
        refine wpAnyH_ready (rs := [8]) (by kernel_rfl) (by simp) ?_
        refine AllReadyH.cons rfl (fun K hK => ?_) AllReadyH.nil
        simp only [List.getElem_toArray, List.getElem_cons_succ, List.getElem_cons_zero]
        go_simp
        refine (HC1.out _ hH.below).mono ?_
        rintro e z7 ⟨rfl, hb5⟩
        have HBS := hid hb5
        clear hb5
        go_wp2_with fail
        refine hK.out _ _ ?_ (fun hH => ?_)
        · exact hH.call HBS.out HB0S.out
        clear hK K
        try simp only [Act.put, List.setIfInBounds_toArray, List.set_cons_zero, List.set_cons_succ]
        refine wpAnyH_take (i := 9) (v := ?_) rfl (by kernel_rfl) (by kernel_rfl) (by kernel_rfl) (fun _ _ _ h => h) (Or.inl ⟨by rfl, ?_⟩) hH ?_
        rotate_left
        · (intro w hSw; simp only [List.getElem_toArray, List.getElem_cons_succ, List.getElem_cons_zero]; first | (go_simp; done) | (go_simp; with_reducible rfl))
        simp only [List.getElem_toArray, List.getElem_cons_succ, List.getElem_cons_zero, Act.put, List.setIfInBounds_toArray, List.set_cons_zero, List.set_cons_succ]
        refine wpAnyH_take (i := 10) rfl (by kernel_rfl) (by kernel_rfl) (by kernel_rfl) (fun _ _ _ h => h) (yieldsIf_load_mid (by rfl) _ _ rfl w2.heap.size 0 rfl (r.map u8) _ (fun w h => Sx.get h (k := 2) rfl) under28 rfl (info16 r HR16.out)) hH ?_
        simp only [List.getElem_toArray, List.getElem_cons_succ, List.getElem_cons_zero, Act.put, List.setIfInBounds_toArray, List.set_cons_zero, List.set_cons_succ]
        refine wpAnyH_take (i := 11) (v := ?_) rfl (by kernel_rfl) (by kernel_rfl) (by kernel_rfl) (fun _ _ _ h => h) (Or.inl ⟨by rfl, ?_⟩) hH ?_
        rotate_left
        · (intro w hSw; simp only [List.getElem_toArray, List.getElem_cons_succ, List.getElem_cons_zero]; first | (go_simp; done) | (go_simp; with_reducible rfl))
        simp only [List.getElem_toArray, List.getElem_cons_succ, List.getElem_cons_zero, Act.put, List.setIfInBounds_toArray, List.set_cons_zero, List.set_cons_succ]
        refine wpAnyH_take (i := 12) (v := ?_) rfl (by kernel_rfl) (by kernel_rfl) (by kernel_rfl) (fun _ _ _ h => h) (Or.inl ⟨by rfl, ?_⟩) hH ?_
        rotate_left
        · (intro w hSw; simp only [List.getElem_toArray, List.getElem_cons_succ, List.getElem_cons_zero]; first | (go_simp; done) | (go_simp; with_reducible rfl))
        simp only [List.getElem_toArray, List.getElem_cons_succ, List.getElem_cons_zero, Act.put, List.setIfInBounds_toArray, List.set_cons_zero, List.set_cons_succ]
        refine wpAnyH_take (i := 13) (v := ?_) rfl (by kernel_rfl) (by kernel_rfl) (by kernel_rfl) (fun _ _ _ h => h) (Or.inl ⟨by rfl, ?_⟩) hH ?_
        rotate_left
        · (intro w hSw; simp only [List.getElem_toArray, List.getElem_cons_succ, List.getElem_cons_zero]; first | (go_simp; done) | (go_simp; with_reducible rfl))
        simp only [List.getElem_toArray, List.getElem_cons_succ, List.getElem_cons_zero, Act.put, List.setIfInBounds_toArray, List.set_cons_zero, List.set_cons_succ]
        refine wpAnyH_take (i := 14) (v := ?_) rfl (by kernel_rfl) (by kernel_rfl) (by kernel_rfl) (fun _ _ _ h => h) (Or.inl ⟨by rfl, ?_⟩) hH ?_
        rotate_left
        · (intro w hSw; simp only [List.getElem_toArray, List.getElem_cons_succ, List.getElem_cons_zero]; first | (go_simp; done) | (go_simp; with_reducible rfl))
        simp only [List.getElem_toArray, List.getElem_cons_succ, List.getElem_cons_zero, Act.put, List.setIfInBounds_toArray, List.set_cons_zero, List.set_cons_succ]
        refine wpAnyH_take (i := 15) (v := ?_) rfl (by kernel_rfl) (by kernel_rfl) (by kernel_rfl) (fun _ _ _ h => h) (Or.inl ⟨by rfl, ?_⟩) hH ?_
        rotate_left
        · (intro w hSw; simp only [List.getElem_toArray, List.getElem_cons_succ, List.getElem_cons_zero]; first | (go_simp; done) | (go_simp; with_reducible rfl))
        simp only [List.getElem_toArray, List.getElem_cons_succ, List.getElem_cons_zero, Act.put, List.setIfInBounds_toArray, List.set_cons_zero, List.set_cons_succ]
        refine wpAnyH_take (i := 16) rfl (by kernel_rfl) (by kernel_rfl) (by kernel_rfl) (fun _ _ _ h => h) (yieldsIf_load_mid (by rfl) _ _ rfl b (off + k * 16) rfl (x.map u8) _ (fun w h => Sx.get h (k := 1) rfl) under28 rfl (info16 x hx16)) hH ?_
        simp only [List.getElem_toArray, List.getElem_cons_succ, List.getElem_cons_zero, Act.put, List.setIfInBounds_toArray, List.set_cons_zero, List.set_cons_succ]
        refine wpAnyH_take (i := 17) (v := ?_) rfl (by kernel_rfl) (by kernel_rfl) (by kernel_rfl) (fun _ _ _ h => h) (Or.inl ⟨by rfl, ?_⟩) hH ?_
        rotate_left
        · (intro w hSw; simp only [List.getElem_toArray, List.getElem_cons_succ, List.getElem_cons_zero]; first | (go_simp; done) | (go_simp; with_reducible rfl))
        simp only [List.getElem_toArray, List.getElem_cons_succ, List.getElem_cons_zero, Act.put, List.setIfInBounds_toArray, List.set_cons_zero, List.set_cons_succ]
        refine wpAnyH_ready (rs := [18]) (by kernel_rfl) (by simp) ?_
        refine AllReadyH.cons rfl (fun K hK => ?_) AllReadyH.nil
        simp only [List.getElem_toArray, List.getElem_cons_succ, List.getElem_cons_zero]
        go_simp
        refine (HC2.out _ hH.below).mono ?_
        rintro e z8 ⟨rfl, hb5⟩
        have HBS := hid hb5
        clear hb5
        go_wp2_with fail
        refine hK.out _ _ ?_ (fun hH => ?_)
        · exact hH.call HBS.out HB0S.out
        clear hK K
        try simp only [Act.put, List.setIfInBounds_toArray, List.set_cons_zero, List.set_cons_succ]
        refine wpAnyH_take (i := 19) (v := ?_) rfl (by kernel_rfl) (by kernel_rfl) (by kernel_rfl) (fun _ _ _ h => h) (Or.inl ⟨by rfl, ?_⟩) hH ?_
        rotate_left
        · (intro w hSw; simp only [List.getElem_toArray, List.getElem_cons_succ, List.getElem_cons_zero]; first | (go_simp; done) | (go_simp; with_reducible rfl))
        simp only [List.getElem_toArray, List.getElem_cons_succ, List.getElem_cons_zero, Act.put, List.setIfInBounds_toArray, List.set_cons_zero, List.set_cons_succ]
        refine wpAnyH_done (by kernel_rfl) ?_ _
        refine NoPanic.normal ?_
        go_wp2_with fail
        go_meet
        case rel => exact ⟨rfl, hH.below⟩
      case rest =>
        rename World => W7
        obtain ⟨rfl, hb7⟩ := hcut
        have HB7 := hid hb7
        have HT7 := hid (HT6.out.keep hb7)
        have HL7 := hid (show ∀ p ∈ [(w2.heap.size, 0, r), (b, off + k * 16, x)], W7.rangeAt p.1 p.2.1 (p.2.2.map u8) ∧ p.1 < W7.heap.size from fun p hp => by
          have h5 := HLT5.out
          have h6 := HB6.out.size
          have h7 := hb7.size
          simp only [List.mem_cons, List.not_mem_nil, or_false] at hp
          rcases hp with rfl | rfl
          · exact ⟨range_keep (range_keep HR5.out HB6.out (by omega)) hb7 (by omega), by simp only; omega⟩
          · exact ⟨range_keep (range_keep HX5.out HB6.out HBX.out) hb7 (Nat.lt_of_lt_of_le HBX.out h6), Nat.lt_of_lt_of_le HBX.out (by omega)⟩)
        have HFIN := hid (fun (W : World) (h : Below W7.heap.size W7 W) => (show Below w.heap.size w W from HB0.out.trans (((HW05.out.trans (HB6.out.mono HW05.out.size)).trans ((HB7.out.trans (h.mono HB7.out.size)).mono (Nat.le_trans HW05.out.size HB6.out.size))).mono HB0.out.size)))
        have HP7 := hid (show DigB W7.heap.size W7 pa q from (HP6.out.keep hb7).mono hb7.size)
        clear hb7 HC1 HC2
        by_cases hq0 : q.length = 0
        · have q1 : (q.length : Int) = 0 := by omega
          have q2 : ((q.length : Int) == 0) = true := beq_iff_eq.2 q1
          go_wp2_with fail
          have HB0S := hid (show W7.heap.size ≤ W7.heap.size from Nat.le_refl _)
          refine wp_region_noPanic ?_
          refine wp_region_held_drew (S := Sx (W7.heap.size) W7 [(w2.heap.size, 0, r), (b, off + k * 16, x)]) (by kernel_rfl) (Sx.start (HL7.out)) (fun hH => ?_)
          refine wpAnyH_take (i := 0) (v := ?_) rfl (by kernel_rfl) (by kernel_rfl) (by kernel_rfl) (fun _ _ _ h => h) (Or.inl ⟨by rfl, ?_⟩) hH ?_
          rotate_left
          · (intro w hSw; simp only [List.getElem_toArray, List.getElem_cons_zero]; first | (go_simp; done) | (go_simp; with_reducible rfl))
          simp only [List.getElem_toArray, List.getElem_cons_zero, Act.put, List.setIfInBounds_toArray, List.set_cons_zero, List.set_cons_succ]
          refine wpAnyH_take (i := 1) (v := ?_) rfl (by kernel_rfl) (by kernel_rfl) (by kernel_rfl) (fun _ _ _ h => h) (Or.inl ⟨by rfl, ?_⟩) hH ?_
          rotate_left
          · (intro w hSw; simp only [List.getElem_toArray, List.getElem_cons_succ, List.getElem_cons_zero]; first | (go_simp; done) | (go_simp; with_reducible rfl))
          simp only [List.getElem_toArray, List.getElem_cons_succ, List.getElem_cons_zero, Act.put, List.setIfInBounds_toArray, List.set_cons_zero, List.set_cons_succ]
          refine wpAnyH_take (i := 2) (v := ?_) rfl (by kernel_rfl) (by kernel_rfl) (by kernel_rfl) (fun _ _ _ h => h) (Or.inl ⟨by rfl, ?_⟩) hH ?_
          rotate_left
          · (intro w hSw; simp only [List.getElem_toArray, List.getElem_cons_succ, List.getElem_cons_zero]; first | (go_simp; done) | (go_simp; with_reducible rfl))
          simp only [List.getElem_toArray, List.getElem_cons_succ, List.getElem_cons_zero, Act.put, List.setIfInBounds_toArray, List.set_cons_zero, List.set_cons_succ]
          refine wpAnyH_take (i := 3) (v := ?_) rfl (by kernel_rfl) (by kernel_rfl) (by kernel_rfl) (fun _ _ _ h => h) (Or.inl ⟨by rfl, ?_⟩) hH ?_
          rotate_left
          · (intro w hSw; simp only [List.getElem_toArray, List.getElem_cons_succ, List.getElem_cons_zero]; first | (go_simp; done) | (go_simp; with_reducible rfl))
          simp only [List.getElem_toArray, List.getElem_cons_succ, List.getElem_cons_zero, Act.put, List.setIfInBounds_toArray, List.set_cons_zero, List.set_cons_succ]
          refine wpAnyH_take (i := 4) (v := ?_) rfl (by kernel_rfl) (by kernel_rfl) (by kernel_rfl) (fun _ _ _ h => h) (Or.inl ⟨by rfl, ?_⟩) hH ?_
          rotate_left
          · (intro w hSw; simp only [List.getElem_toArray, List.getElem_cons_succ, List.getElem_cons_zero]; first | (go_simp; done) | (go_simp; with_reducible rfl))
          simp only [List.getElem_toArray, List.getElem_cons_succ, List.getElem_cons_zero, Act.put, List.setIfInBounds_toArray, List.set_cons_zero, List.set_cons_succ]
          refine wpAnyH_take (i := 5) (v := ?_) rfl (by kernel_rfl) (by kernel_rfl) (by kernel_rfl) (fun _ _ _ h => h) (Or.inl ⟨by rfl, ?_⟩) hH ?_
          rotate_left
          · (intro w hSw; simp only [List.getElem_toArray, List.getElem_cons_succ, List.getElem_cons_zero]; first | (go_simp; done) | (go_simp; with_reducible rfl))
          simp only [List.getElem_toArray, List.getElem_cons_succ, List.getElem_cons_zero, Act.put, List.setIfInBounds_toArray, List.set_cons_zero, List.set_cons_succ]
          refine wpAnyH_take (i := 6) (v := undef) rfl (by kernel_rfl) (by kernel_rfl) (by kernel_rfl) (fun _ _ _ h => h) (Or.inr ⟨by rfl, rfl⟩) hH ?_
          simp only [List.getElem_toArray, List.getElem_cons_succ, List.getElem_cons_zero, Act.put, List.setIfInBounds_toArray, List.set_cons_zero, List.set_cons_succ]
          refine wpAnyH_take (i := 7) (v := undef) rfl (by kernel_rfl) (by kernel_rfl) (by kernel_rfl) (fun _ _ _ h => h) (Or.inr ⟨by rfl, rfl⟩) hH ?_
          simp only [List.getElem_toArray, List.getElem_cons_succ, List.getElem_cons_zero, Act.put, List.setIfInBounds_toArray, List.set_cons_zero, List.set_cons_succ]
          refine wpAnyH_take (i := 8) (v := undef) rfl (by kernel_rfl) (by kernel_rfl) (by kernel_rfl) (fun _ _ _ h => h) (Or.inr ⟨by rfl, rfl⟩) hH ?_
          simp only [List.getElem_toArray, List.getElem_cons_succ, List.getElem_cons_zero, Act.put, List.setIfInBounds_toArray, List.set_cons_zero, List.set_cons_succ]
          refine wpAnyH_take (i := 9) (v := undef) rfl (by kernel_rfl) (by kernel_rfl) (by kernel_rfl) (fun _ _ _ h => h) (Or.inr ⟨by rfl, rfl⟩) hH ?_
          simp only [List.getElem_toArray, List.getElem_cons_succ, List.getElem_cons_zero, Act.put, List.setIfInBounds_toArray, List.set_cons_zero, List.set_cons_succ]
          refine wpAnyH_take (i := 10) (v := undef) rfl (by kernel_rfl) (by kernel_rfl) (by kernel_rfl) (fun _ _ _ h => h) (Or.inr ⟨by rfl, rfl⟩) hH ?_
          simp only [List.getElem_toArray, List.getElem_cons_succ, List.getElem_cons_zero, Act.put, List.setIfInBounds_toArray, List.set_cons_zero, List.set_cons_succ]
          refine wpAnyH_take (i := 11) (v := undef) rfl (by kernel_rfl) (by kernel_rfl) (by kernel_rfl) (fun _ _ _ h => h) (Or.inr ⟨by rfl, rfl⟩) hH ?_
          simp only [List.getElem_toArray, List.getElem_cons_succ, List.getElem_cons_zero, Act.put, List.setIfInBounds_toArray, List.set_cons_zero, List.set_cons_succ]
          refine wpAnyH_take (i := 12) (v := undef) rfl (by kernel_rfl) (by kernel_rfl) (by kernel_rfl) (fun _ _ _ h => h) (Or.inr ⟨by rfl, rfl⟩) hH ?_
          simp only [List.getElem_toArray, List.getElem_cons_succ, List.getElem_cons_zero, Act.put, List.setIfInBounds_toArray, List.set_cons_zero, List.set_cons_succ]
          refine wpAnyH_take (i := 13) (v := undef) rfl (by kernel_rfl) (by kernel_rfl) (by kernel_rfl) (fun _ _ _ h => h) (Or.inr ⟨by rfl, rfl⟩) hH ?_
          simp only [List.getElem_toArray, List.getElem_cons_succ, List.getElem_cons_zero, Act.put, List.setIfInBounds_toArray, List.set_cons_zero, List.set_cons_succ]
          refine wpAnyH_take (i := 14) (v := undef) rfl (by kernel_rfl) (by kernel_rfl) (by kernel_rfl) (fun _ _ _ h => h) (Or.inr ⟨by rfl, rfl⟩) hH ?_
          simp only [List.getElem_toArray, List.getElem_cons_succ, List.getElem_cons_zero, Act.put, List.setIfInBounds_toArray, List.set_cons_zero, List.set_cons_succ]
          refine wpAnyH_take (i := 15) (v := undef) rfl (by kernel_rfl) (by kernel_rfl) (by kernel_rfl) (fun _ _ _ h => h) (Or.inr ⟨by rfl, rfl⟩) hH ?_
          simp only [List.getElem_toArray, List.getElem_cons_succ, List.getElem_cons_zero, Act.put, List.setIfInBounds_toArray, List.set_cons_zero, List.set_cons_succ]
          refine wpAnyH_take (i := 16) (v := undef) rfl (by kernel_rfl) (by kernel_rfl) (by kernel_rfl) (fun _ _ _ h => h) (Or.inr ⟨by rfl, rfl⟩) hH ?_
          simp only [List.getElem_toArray, List.getElem_cons_succ, List.getElem_cons_zero, Act.put, List.setIfInBounds_toArray, List.set_cons_zero, List.set_cons_succ]
          refine wpAnyH_take (i := 17) (v := ?_) rfl (by kernel_rfl) (by kernel_rfl) (by kernel_rfl) (fun _ _ _ h => h) (Or.inl ⟨by rfl, ?_⟩) hH ?_
          rotate_left
          · (intro w hSw; simp only [List.getElem_toArray, List.getElem_cons_succ, List.getElem_cons_zero]; first | (go_simp; done) | (go_simp; with_reducible rfl))
          simp only [List.getElem_toArray, List.getElem_cons_succ, List.getElem_cons_zero, Act.put, List.setIfInBounds_toArray, List.set_cons_zero, List.set_cons_succ]
          refine wpAnyH_take (i := 18) (v := ?_) rfl (by kernel_rfl) (by kernel_rfl) (by kernel_rfl) (fun _ _ _ h => h) (Or.inl ⟨by rfl, ?_⟩) hH ?_
          rotate_left
          · (intro w hSw; simp only [List.getElem_toArray, List.getElem_cons_succ, List.getElem_cons_zero]; first | (go_simp; done) | (go_simp; with_reducible rfl))
          simp only [List.getElem_toArray, List.getElem_cons_succ, List.getElem_cons_zero, Act.put, List.setIfInBounds_toArray, List.set_cons_zero, List.set_cons_succ]
          refine wpAnyH_take (i := 19) (v := ?_) rfl (by kernel_rfl) (by kernel_rfl) (by kernel_rfl) (fun _ _ _ h => h) (Or.inl ⟨by rfl, ?_⟩) hH ?_
          rotate_left
          · (intro w hSw; simp only [List.getElem_toArray, List.getElem_cons_succ, List.getElem_cons_zero]; first | (go_simp; done) | (go_simp; with_reducible rfl))
          simp only [List.getElem_toArray, List.getElem_cons_succ, List.getElem_cons_zero, Act.put, List.setIfInBounds_toArray, List.set_cons_zero, List.set_cons_succ]
          refine wpAnyH_done (by kernel_rfl) ?_ _
          refine NoPanic.normal ?_
          go_wp2_with fail
          go_ret
          exact ⟨rfl, HFIN.out _ hH.below⟩
        · have q1 : ¬ ((q.length : Int) = 0) := by omega
          have q2 : ((q.length : Int) == 0) = false := beq_eq_false_iff_ne.2 q1
          have q3 : (1 : Int) ≤ (q.length : Int) := by omega
          have hcl := HP7.out 0 (by omega)
          obtain ⟨pb, po, rfl, hpb, -, -⟩ := hcl
          have hpc := HPC.out.2
          have q4 : (q.length : Int) ≤ (pc : Int) := by omega
          have q5 : (1 : Int) ≤ (pc : Int) := by omega
          have q6 : (0 : Int) ≤ 1 := by omega
          have HVT := hid (show verifyF r ds.length k x (q.drop 1) = false from verify_bad_length _ _ _ _ _ (by rw [HSL.out, List.length_drop]; omega))
          have HC3 := hid (fun (W : World) (h : Below W7.heap.size W7 W) (hpc1 : pc ≠ 1) => by
            have := verify_ok r x HR16.out hx16 ds.length k hkl (by omega) (q.drop 1) (HQA.out.drop 1) (some ⟨pb, po + 1 * 16, none⟩) (q.length - 1) (pc - 1) (by rw [List.length_drop]) (by have := HLQN.out; omega) W (HT7.out.keep h) (((DigB.drop HP7.out 1).keep h).mono h.size)
            rw [HVT.out] at this; exact this)
          have HC4 := hid (fun (W : World) (h : Below W7.heap.size W7 W) (hpc1 : pc = 1) => by
            have hd : q.drop 1 = [] := List.drop_eq_nil_of_le (by omega)
            have := verify_ok r x HR16.out hx16 ds.length k hkl (by omega) (q.drop 1) (HQA.out.drop 1) (some ⟨pb, po, none⟩) (q.length - 1) (pc - 1) (by rw [List.length_drop]) (by have := HLQN.out; omega) W (HT7.out.keep h) (by rw [hd]; exact fun i hi => by cases hi)
            rw [HVT.out] at this; exact this)
          by_cases hpc1 : pc = 1
          · subst hpc1
            have e1 : q.length = 1 := by omega
            have HC5 := hid (fun W h => HC4.out W h rfl)
            simp only [e1, Nat.sub_self] at HC5 q2
            rw [e1]
            clear HC3 HC4 hpc q1 q3 q4 q5 q6 HPC
            go_wp2_with fail
            have HB0S := hid (show W7.heap.size ≤ W7.heap.size from Nat.le_refl _)
            refine wp_region_noPanic ?_
            refine wp_region_held_drew (S := Sx (W7.heap.size) W7 [(w2.heap.size, 0, r), (b, off + k * 16, x)]) (by kernel_rfl) (Sx.start (HL7.out)) (fun hH => ?_)
            refine wpAnyH_take (i := 0) (v := ?_) rfl (by kernel_rfl) (by kernel_rfl) (by kernel_rfl) (fun _ _ _ h => h) (Or.inl ⟨by rfl, ?_⟩) hH ?_
            rotate_left
            · (intro w hSw; simp only [List.getElem_toArray, List.getElem_cons_zero]; first | (go_simp; done) | (go_simp; with_reducible rfl))
            simp only [List.getElem_toArray, List.getElem_cons_zero, Act.put, List.setIfInBounds_toArray, List.set_cons_zero, List.set_cons_succ]
            refine wpAnyH_take (i := 1) (v := ?_) rfl (by kernel_rfl) (by kernel_rfl) (by kernel_rfl) (fun _ _ _ h => h) (Or.inl ⟨by rfl, ?_⟩) hH ?_
            rotate_left
            · (intro w hSw; simp only [List.getElem_toArray, List.getElem_cons_succ, List.getElem_cons_zero]; first | (go_simp; done) | (go_simp; with_reducible rfl))
            simp only [List.getElem_toArray, List.getElem_cons_succ, List.getElem_cons_zero, Act.put, List.setIfInBounds_toArray, List.set_cons_zero, List.set_cons_succ]
            refine wpAnyH_take (i := 2) (v := ?_) rfl (by kernel_rfl) (by kernel_rfl) (by kernel_rfl) (fun _ _ _ h => h) (Or.inl ⟨by rfl, ?_⟩) hH ?_
            rotate_left
            · (intro w hSw; simp only [List.getElem_toArray, List.getElem_cons_succ, List.getElem_cons_zero]; first | (go_simp; done) | (go_simp; with_reducible rfl))
            simp only [List.getElem_toArray, List.getElem_cons_succ, List.getElem_cons_zero, Act.put, List.setIfInBounds_toArray, List.set_cons_zero, List.set_cons_succ]
            refine wpAnyH_take (i := 3) (v := ?_) rfl (by kernel_rfl) (by kernel_rfl) (by kernel_rfl) (fun _ _ _ h => h) (Or.inl ⟨by rfl, ?_⟩) hH ?_
            rotate_left
            · (intro w hSw; simp only [List.getElem_toArray, List.getElem_cons_succ, List.getElem_cons_zero]; first | (go_simp; done) | (go_simp; with_reducible rfl))
            simp only [List.getElem_toArray, List.getElem_cons_succ, List.getElem_cons_zero, Act.put, List.setIfInBounds_toArray, List.set_cons_zero, List.set_cons_succ]
            refine wpAnyH_take (i := 4) (v := ?_) rfl (by kernel_rfl) (by kernel_rfl) (by kernel_rfl) (fun _ _ _ h => h) (Or.inl ⟨by rfl, ?_⟩) hH ?_
            rotate_left
            · (intro w hSw; simp only [List.getElem_toArray, List.getElem_cons_succ, List.getElem_cons_zero]; first | (go_simp; done) | (go_simp; with_reducible rfl))
            simp only [List.getElem_toArray, List.getElem_cons_succ, List.getElem_cons_zero, Act.put, List.setIfInBounds_toArray, List.set_cons_zero, List.set_cons_succ]
            refine wpAnyH_take (i := 5) (v := ?_) rfl (by kernel_rfl) (by kernel_rfl) (by kernel_rfl) (fun _ _ _ h => h) (Or.inl ⟨by rfl, ?_⟩) hH ?_
            rotate_left
            · (intro w hSw; simp only [List.getElem_toArray, List.getElem_cons_succ, List.getElem_cons_zero]; first | (go_simp; done) | (go_simp; with_reducible rfl))
            simp only [List.getElem_toArray, List.getElem_cons_succ, List.getElem_cons_zero, Act.put, List.setIfInBounds_toArray, List.set_cons_zero, List.set_cons_succ]
            refine wpAnyH_take (i := 6) rfl (by kernel_rfl) (by kernel_rfl) (by kernel_rfl) (fun _ _ _ h => h) (yieldsIf_load_mid (by rfl) _ _ rfl w2.heap.size 0 rfl (r.map u8) _ (fun w h => Sx.get h (k := 0) rfl) under28 rfl (info16 r HR16.out)) hH ?_
            simp only [List.getElem_toArray, List.getElem_cons_succ, List.getElem_cons_zero, Act.put, List.setIfInBounds_toArray, List.set_cons_zero, List.set_cons_succ]
            refine wpAnyH_take (i := 7) (v := ?_) rfl (by kernel_rfl) (by kernel_rfl) (by kernel_rfl) (fun _ _ _ h => h) (Or.inl ⟨by rfl, ?_⟩) hH ?_
            rotate_left
            · (intro w hSw; simp only [List.getElem_toArray, List.getElem_cons_succ, List.getElem_cons_zero]; first | (go_simp; done) | (go_simp; with_reducible rfl))
            simp only [List.getElem_toArray, List.getElem_cons_succ, List.getElem_cons_zero, Act.put, List.setIfInBounds_toArray, List.set_cons_zero, List.set_cons_succ]
            refine wpAnyH_take (i := 8) (v := ?_) rfl (by kernel_rfl) (by kernel_rfl) (by kernel_rfl) (fun _ _ _ h => h) (Or.inl ⟨by rfl, ?_⟩) hH ?_
            rotate_left
            · (intro w hSw; simp only [List.getElem_toArray, List.getElem_cons_succ, List.getElem_cons_zero]; first | (go_simp; done) | (go_simp; with_reducible rfl))
            simp only [List.getElem_toArray, List.getElem_cons_succ, List.getElem_cons_zero, Act.put, List.setIfInBounds_toArray, List.set_cons_zero, List.set_cons_succ]
            refine wpAnyH_take (i := 9) (v := ?_) rfl (by kernel_rfl) (by kernel_rfl) (by kernel_rfl) (fun _ _ _ h => h) (Or.inl ⟨by rfl, ?_⟩) hH ?_
            rotate_left
            · (intro w hSw; simp only [List.getElem_toArray, List.getElem_cons_succ, List.getElem_cons_zero]; first | (go_simp; done) | (go_simp; with_reducible rfl))
            simp only [List.getElem_toArray, List.getElem_cons_succ, List.getElem_cons_zero, Act.put, List.setIfInBounds_toArray, List.set_cons_zero, List.set_cons_succ]
            refine wpAnyH_take (i := 10) (v := ?_) rfl (by kernel_rfl) (by kernel_rfl) (by kernel_rfl) (fun _ _ _ h => h) (Or.inl ⟨by rfl, ?_⟩) hH ?_
            rotate_left
            · (intro w hSw; simp only [List.getElem_toArray, List.getElem_cons_succ, List.getElem_cons_zero]; first | (go_simp; done) | (go_simp; with_reducible rfl))
            simp only [List.getElem_toArray, List.getElem_cons_succ, List.getElem_cons_zero, Act.put, List.setIfInBounds_toArray, List.set_cons_zero, List.set_cons_succ]
            refine wpAnyH_take (i := 11) (v := ?_) rfl (by kernel_rfl) (by kernel_rfl) (by kernel_rfl) (fun _ _ _ h => h) (Or.inl ⟨by rfl, ?_⟩) hH ?_
            rotate_left
            · (intro w hSw; simp only [List.getElem_toArray, List.getElem_cons_succ, List.getElem_cons_zero]; first | (go_simp; done) | (go_simp; with_reducible rfl))
            simp only [List.getElem_toArray, List.getElem_cons_succ, List.getElem_cons_zero, Act.put, List.setIfInBounds_toArray, List.set_cons_zero, List.set_cons_succ]
            refine wpAnyH_take (i := 12) rfl (by kernel_rfl) (by kernel_rfl) (by kernel_rfl) (fun _ _ _ h => h) (yieldsIf_load_mid (by rfl) _ _ rfl b (off + k * 16) rfl (x.map u8) _ (fun w h => Sx.get h (k := 1) rfl) under28 rfl (info16 x hx16)) hH ?_
            simp only [List.getElem_toArray, List.getElem_cons_succ, List.getElem_cons_zero, Act.put, List.setIfInBounds_toArray, List.set_cons_zero, List.set_cons_succ]
            refine wpAnyH_take (i := 13) (v := ?_) rfl (by kernel_rfl) (by kernel_rfl) (by kernel_rfl) (fun _ _ _ h => h) (Or.inl ⟨by rfl, ?_⟩) hH ?_
            rotate_left
            · (intro w hSw; simp only [List.getElem_toArray, List.getElem_cons_succ, List.getElem_cons_zero]; first | (go_simp; done) | (go_simp; with_reducible rfl))
            simp only [List.getElem_toArray, List.getElem_cons_succ, List.getElem_cons_zero, Act.put, List.setIfInBounds_toArray, List.set_cons_zero, List.set_cons_succ]
            refine wpAnyH_take (i := 14) (v := ?_) rfl (by kernel_rfl) (by kernel_rfl) (by kernel_rfl) (fun _ _ _ h => h) (Or.inl ⟨by rfl, ?_⟩) hH ?_
            rotate_left
            · (intro w hSw; simp only [List.getElem_toArray, List.getElem_cons_succ, List.getElem_cons_zero]; first | (go_simp; done) | (go_simp; with_reducible rfl))
            simp only [List.getElem_toArray, List.getElem_cons_succ, List.getElem_cons_zero, Act.put, List.setIfInBounds_toArray, List.set_cons_zero, List.set_cons_succ]
            refine wpAnyH_ready (rs := [15]) (by kernel_rfl) (by simp) ?_
            refine AllReadyH.cons rfl (fun K hK => ?_) AllReadyH.nil
            simp only [List.getElem_toArray, List.getElem_cons_succ, List.getElem_cons_zero]
            go_simp
            refine (HC5.out _ hH.below).mono ?_
            rintro e z9 ⟨rfl, hb5⟩
            have HBS := hid hb5
            clear hb5
            go_wp2_with fail
            refine hK.out _ _ ?_ (fun hH => ?_)
            · exact hH.call HBS.out HB0S.out
            clear hK K
            try simp only [Act.put, List.setIfInBounds_toArray, List.set_cons_zero, List.set_cons_succ]
            refine wpAnyH_take (i := 16) (v := ?_) rfl (by kernel_rfl) (by kernel_rfl) (by kernel_rfl) (fun _ _ _ h => h) (Or.inl ⟨by rfl, ?_⟩) hH ?_
            rotate_left
            · (intro w hSw; simp only [List.getElem_toArray, List.getElem_cons_succ, List.getElem_cons_zero]; first | (go_simp; done) | (go_simp; with_reducible rfl))
            simp only [List.getElem_toArray, List.getElem_cons_succ, List.getElem_cons_zero, Act.put, List.setIfInBounds_toArray, List.set_cons_zero, List.set_cons_succ]
            refine wpAnyH_take (i := 17) (v := ?_) rfl (by kernel_rfl) (by kernel_rfl) (by kernel_rfl) (fun _ _ _ h => h) (Or.inl ⟨by rfl, ?_⟩) hH ?_
            rotate_left
            · (intro w hSw; simp only [List.getElem_toArray, List.getElem_cons_succ, List.getElem_cons_zero]; first | (go_simp; done) | (go_simp; with_reducible rfl))
            simp only [List.getElem_toArray, List.getElem_cons_succ, List.getElem_cons_zero, Act.put, List.setIfInBounds_toArray, List.set_cons_zero, List.set_cons_succ]
            refine wpAnyH_take (i := 18) (v := ?_) rfl (by kernel_rfl) (by kernel_rfl) (by kernel_rfl) (fun _ _ _ h => h) (Or.inl ⟨by rfl, ?_⟩) hH ?_
            rotate_left
            · (intro w hSw; simp only [List.getElem_toArray, List.getElem_cons_succ, List.getElem_cons_zero]; first | (go_simp; done) | (go_simp; with_reducible rfl))
            simp only [List.getElem_toArray, List.getElem_cons_succ, List.getElem_cons_zero, Act.put, List.setIfInBounds_toArray, List.set_cons_zero, List.set_cons_succ]
            refine wpAnyH_take (i := 19) (v := ?_) rfl (by kernel_rfl) (by kernel_rfl) (by kernel_rfl) (fun _ _ _ h => h) (Or.inl ⟨by rfl, ?_⟩) hH ?_
            rotate_left
            · (intro w hSw; simp only [List.getElem_toArray, List.getElem_cons_succ, List.getElem_cons_zero]; first | (go_simp; done) | (go_simp; with_reducible rfl))
            simp only [List.getElem_toArray, List.getElem_cons_succ, List.getElem_cons_zero, Act.put, List.setIfInBounds_toArray, List.set_cons_zero, List.set_cons_succ]
            refine wpAnyH_done (by kernel_rfl) ?_ _
            refine NoPanic.normal ?_
            go_wp2_with fail
            go_ret
            exact ⟨rfl, HFIN.out _ hH.below⟩
          · have HC5 := hid (fun W h => HC3.out W h hpc1)
            have q7 : (1 : Int) < (pc : Int) := by omega
            clear HC3 HC4
            go_wp2_with fail
            have HB0S := hid (show W7.heap.size ≤ W7.heap.size from Nat.le_refl _)
            refine wp_region_noPanic ?_
            refine wp_region_held_drew (S := Sx (W7.heap.size) W7 [(w2.heap.size, 0, r), (b, off + k * 16, x)]) (by kernel_rfl) (Sx.start (HL7.out)) (fun hH => ?_)
            refine wpAnyH_take (i := 0) (v := ?_) rfl (by kernel_rfl) (by kernel_rfl) (by kernel_rfl) (fun _ _ _ h => h) (Or.inl ⟨by rfl, ?_⟩) hH ?_
            rotate_left
            · (intro w hSw; simp only [List.getElem_toArray, List.getElem_cons_zero]; first | (go_simp; done) | (go_simp; with_reducible rfl))
            simp only [List.getElem_toArray, List.getElem_cons_zero, Act.put, List.setIfInBounds_toArray, List.set_cons_zero, List.set_cons_succ]
            refine wpAnyH_take (i := 1) (v := ?_) rfl (by kernel_rfl) (by kernel_rfl) (by kernel_rfl) (fun _ _ _ h => h) (Or.inl ⟨by rfl, ?_⟩) hH ?_
            rotate_left
            · (intro w hSw; simp only [List.getElem_toArray, List.getElem_cons_succ, List.getElem_cons_zero]; first | (go_simp; done) | (go_simp; with_reducible rfl))
            simp only [List.getElem_toArray, List.getElem_cons_succ, List.getElem_cons_zero, Act.put, List.setIfInBounds_toArray, List.set_cons_zero, List.set_cons_succ]
            refine wpAnyH_take (i := 2) (v := ?_) rfl (by kernel_rfl) (by kernel_rfl) (by kernel_rfl) (fun _ _ _ h => h) (Or.inl ⟨by rfl, ?_⟩) hH ?_
            rotate_left
            · (intro w hSw; simp only [List.getElem_toArray, List.getElem_cons_succ, List.getElem_cons_zero]; first | (go_simp; done) | (go_simp; with_reducible rfl))
            simp only [List.getElem_toArray, List.getElem_cons_succ, List.getElem_cons_zero, Act.put, List.setIfInBounds_toArray, List.set_cons_zero, List.set_cons_succ]
            refine wpAnyH_take (i := 3) (v := ?_) rfl (by kernel_rfl) (by kernel_rfl) (by kernel_rfl) (fun _ _ _ h => h) (Or.inl ⟨by rfl, ?_⟩) hH ?_
            rotate_left
            · (intro w hSw; simp only [List.getElem_toArray, List.getElem_cons_succ, List.getElem_cons_zero]; first | (go_simp; done) | (go_simp; with_reducible rfl))
            simp only [List.getElem_toArray, List.getElem_cons_succ, List.getElem_cons_zero, Act.put, List.setIfInBounds_toArray, List.set_cons_zero, List.set_cons_succ]
            refine wpAnyH_take (i := 4) (v := ?_) rfl (by kernel_rfl) (by kernel_rfl) (by kernel_rfl) (fun _ _ _ h => h) (Or.inl ⟨by rfl, ?_⟩) hH ?_
            rotate_left
            · (intro w hSw; simp only [List.getElem_toArray, List.getElem_cons_succ, List.getElem_cons_zero]; first | (go_simp; done) | (go_simp; with_reducible rfl))
            simp only [List.getElem_toArray, List.getElem_cons_succ, List.getElem_cons_zero, Act.put, List.setIfInBounds_toArray, List.set_cons_zero, List.set_cons_succ]
            refine wpAnyH_take (i := 5) (v := ?_) rfl (by kernel_rfl) (by kernel_rfl) (by kernel_rfl) (fun _ _ _ h => h) (Or.inl ⟨by rfl, ?_⟩) hH ?_
            rotate_left
            · (intro w hSw; simp only [List.getElem_toArray, List.getElem_cons_succ, List.getElem_cons_zero]; first | (go_simp; done) | (go_simp; with_reducible rfl))
            simp only [List.getElem_toArray, List.getElem_cons_succ, List.getElem_cons_zero, Act.put, List.setIfInBounds_toArray, List.set_cons_zero, List.set_cons_succ]
            refine wpAnyH_take (i := 6) rfl (by kernel_rfl) (by kernel_rfl) (by kernel_rfl) (fun _ _ _ h => h) (yieldsIf_load_mid (by rfl) _ _ rfl w2.heap.size 0 rfl (r.map u8) _ (fun w h => Sx.get h (k := 0) rfl) under28 rfl (info16 r HR16.out)) hH ?_
            simp only [List.getElem_toArray, List.getElem_cons_succ, List.getElem_cons_zero, Act.put, List.setIfInBounds_toArray, List.set_cons_zero, List.set_cons_succ]
            refine wpAnyH_take (i := 7) (v := ?_) rfl (by kernel_rfl) (by kernel_rfl) (by kernel_rfl) (fun _ _ _ h => h) (Or.inl ⟨by rfl, ?_⟩) hH ?_
            rotate_left
            · (intro w hSw; simp only [List.getElem_toArray, List.getElem_cons_succ, List.getElem_cons_zero]; first | (go_simp; done) | (go_simp; with_reducible rfl))
            simp only [List.getElem_toArray, List.getElem_cons_succ, List.getElem_cons_zero, Act.put, List.setIfInBounds_toArray, List.set_cons_zero, List.set_cons_succ]
            refine wpAnyH_take (i := 8) (v := ?_) rfl (by kernel_rfl) (by kernel_rfl) (by kernel_rfl) (fun _ _ _ h => h) (Or.inl ⟨by rfl, ?_⟩) hH ?_
            rotate_left
            · (intro w hSw; simp only [List.getElem_toArray, List.getElem_cons_succ, List.getElem_cons_zero]; first | (go_simp; done) | (go_simp; with_reducible rfl))
            simp only [List.getElem_toArray, List.getElem_cons_succ, List.getElem_cons_zero, Act.put, List.setIfInBounds_toArray, List.set_cons_zero, List.set_cons_succ]
            refine wpAnyH_take (i := 9) (v := ?_) rfl (by kernel_rfl) (by kernel_rfl) (by kernel_rfl) (fun _ _ _ h => h) (Or.inl ⟨by rfl, ?_⟩) hH ?_
            rotate_left
            · (intro w hSw; simp only [List.getElem_toArray, List.getElem_cons_succ, List.getElem_cons_zero]; first | (go_simp; done) | (go_simp; with_reducible rfl))
            simp only [List.getElem_toArray, List.getElem_cons_succ, List.getElem_cons_zero, Act.put, List.setIfInBounds_toArray, List.set_cons_zero, List.set_cons_succ]
            refine wpAnyH_take (i := 10) (v := ?_) rfl (by kernel_rfl) (by kernel_rfl) (by kernel_rfl) (fun _ _ _ h => h) (Or.inl ⟨by rfl, ?_⟩) hH ?_
            rotate_left
            · (intro w hSw; simp only [List.getElem_toArray, List.getElem_cons_succ, List.getElem_cons_zero]; first | (go_simp; done) | (go_simp; with_reducible rfl))
            simp only [List.getElem_toArray, List.getElem_cons_succ, List.getElem_cons_zero, Act.put, List.setIfInBounds_toArray, List.set_cons_zero, List.set_cons_succ]
            refine wpAnyH_take (i := 11) (v := ?_) rfl (by kernel_rfl) (by kernel_rfl) (by kernel_rfl) (fun _ _ _ h => h) (Or.inl ⟨by rfl, ?_⟩) hH ?_
            rotate_left
            · (intro w hSw; simp only [List.getElem_toArray, List.getElem_cons_succ, List.getElem_cons_zero]; first | (go_simp; done) | (go_simp; with_reducible rfl))
            simp only [List.getElem_toArray, List.getElem_cons_succ, List.getElem_cons_zero, Act.put, List.setIfInBounds_toArray, List.set_cons_zero, List.set_cons_succ]
            refine wpAnyH_take (i := 12) rfl (by kernel_rfl) (by kernel_rfl) (by kernel_rfl) (fun _ _ _ h => h) (yieldsIf_load_mid (by rfl) _ _ rfl b (off + k * 16) rfl (x.map u8) _ (fun w h => Sx.get h (k := 1) rfl) under28 rfl (info16 x hx16)) hH ?_
            simp only [List.getElem_toArray, List.getElem_cons_succ, List.getElem_cons_zero, Act.put, List.setIfInBounds_toArray, List.set_cons_zero, List.set_cons_succ]
            refine wpAnyH_take (i := 13) (v := ?_) rfl (by kernel_rfl) (by kernel_rfl) (by kernel_rfl) (fun _ _ _ h => h) (Or.inl ⟨by rfl, ?_⟩) hH ?_
            rotate_left
            · (intro w hSw; simp only [List.getElem_toArray, List.getElem_cons_succ, List.getElem_cons_zero]; first | (go_simp; done) | (go_simp; with_reducible rfl))
            simp only [List.getElem_toArray, List.getElem_cons_succ, List.getElem_cons_zero, Act.put, List.setIfInBounds_toArray, List.set_cons_zero, List.set_cons_succ]
            refine wpAnyH_take (i := 14) (v := ?_) rfl (by kernel_rfl) (by kernel_rfl) (by kernel_rfl) (fun _ _ _ h => h) (Or.inl ⟨by rfl, ?_⟩) hH ?_
            rotate_left
            · (intro w hSw; simp only [List.getElem_toArray, List.getElem_cons_succ, List.getElem_cons_zero]; first | (go_simp; done) | (go_simp; with_reducible rfl))
            simp only [List.getElem_toArray, List.getElem_cons_succ, List.getElem_cons_zero, Act.put, List.setIfInBounds_toArray, List.set_cons_zero, List.set_cons_succ]
            refine wpAnyH_ready (rs := [15]) (by kernel_rfl) (by simp) ?_
            refine AllReadyH.cons rfl (fun K hK => ?_) AllReadyH.nil
            simp only [List.getElem_toArray, List.getElem_cons_succ, List.getElem_cons_zero]
            go_simp
            refine (HC5.out _ hH.below).mono ?_
            rintro e z10 ⟨rfl, hb5⟩
            have HBS := hid hb5
            clear hb5
            go_wp2_with fail
            refine hK.out _ _ ?_ (fun hH => ?_)
            · exact hH.call HBS.out HB0S.out
            clear hK K
            try simp only [Act.put, List.setIfInBounds_toArray, List.set_cons_zero, List.set_cons_succ]
            refine wpAnyH_take (i := 16) (v := ?_) rfl (by kernel_rfl) (by kernel_rfl) (by kernel_rfl) (fun _ _ _ h => h) (Or.inl ⟨by rfl, ?_⟩) hH ?_
            rotate_left
            · (intro w hSw; simp only [List.getElem_toArray, List.getElem_cons_succ, List.getElem_cons_zero]; first | (go_simp; done) | (go_simp; with_reducible rfl))
            simp only [List.getElem_toArray, List.getElem_cons_succ, List.getElem_cons_zero, Act.put, List.setIfInBounds_toArray, List.set_cons_zero, List.set_cons_succ]
            refine wpAnyH_take (i := 17) (v := ?_) rfl (by kernel_rfl) (by kernel_rfl) (by kernel_rfl) (fun _ _ _ h => h) (Or.inl ⟨by rfl, ?_⟩) hH ?_
            rotate_left
            · (intro w hSw; simp only [List.getElem_toArray, List.getElem_cons_succ, List.getElem_cons_zero]; first | (go_simp; done) | (go_simp; with_reducible rfl))
            simp only [List.getElem_toArray, List.getElem_cons_succ, List.getElem_cons_zero, Act.put, List.setIfInBounds_toArray, List.set_cons_zero, List.set_cons_succ]
            refine wpAnyH_take (i := 18) (v := ?_) rfl (by kernel_rfl) (by kernel_rfl) (by kernel_rfl) (fun _ _ _ h => h) (Or.inl ⟨by rfl, ?_⟩) hH ?_
            rotate_left
            · (intro w hSw; simp only [List.getElem_toArray, List.getElem_cons_succ, List.getElem_cons_zero]; first | (go_simp; done) | (go_simp; with_reducible rfl))
            simp only [List.getElem_toArray, List.getElem_cons_succ, List.getElem_cons_zero, Act.put, List.setIfInBounds_toArray, List.set_cons_zero, List.set_cons_succ]
            refine wpAnyH_take (i := 19) (v := ?_) rfl (by kernel_rfl) (by kernel_rfl) (by kernel_rfl) (fun _ _ _ h => h) (Or.inl ⟨by rfl, ?_⟩) hH ?_
            rotate_left
            · (intro w hSw; simp only [List.getElem_toArray, List.getElem_cons_succ, List.getElem_cons_zero]; first | (go_simp; done) | (go_simp; with_reducible rfl))
            simp only [List.getElem_toArray, List.getElem_cons_succ, List.getElem_cons_zero, Act.put, List.setIfInBounds_toArray, List.set_cons_zero, List.set_cons_succ]
            refine wpAnyH_done (by kernel_rfl) ?_ _
            refine NoPanic.normal ?_
            go_wp2_with fail
            go_ret
            exact ⟨rfl, HFIN.out _ hH.below⟩
end Go.Proofs.YtbjfkliijhnloaaDoor
