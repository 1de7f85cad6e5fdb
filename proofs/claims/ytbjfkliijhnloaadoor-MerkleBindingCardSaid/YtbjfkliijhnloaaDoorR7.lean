/- The reference's way up and its Verify: bootchainref03's combine and Verify. -/
import Derived.Test.YtbjfkliijhnloaaDoorR6
import Derived.Test.YtbjfkliijhnloaaDoorS1
import Derived.Test.YtbjfkliijhnloaaDoorP0
namespace Go.Proofs.YtbjfkliijhnloaaDoor
open Go.RowKit
set_option linter.unusedVariables false

theorem DigB.init {n₀ : Nat} {w : World} {a : Option Addr} {ds : List (List UInt8)} (h : DigB n₀ w a ds) : DigB n₀ w a ds.dropLast := by rw [List.dropLast_eq_take]; exact h.take _
theorem All16.init {ds : List (List UInt8)} (h : All16 ds) : All16 ds.dropLast := fun d hd => h d (List.dropLast_subset _ hd)
def Combined (w : World) (r : List UInt8 × Bool) (e : Ending) (w' : World) : Prop := e = .returned (.tuple #[dv r.1, .bool r.2]) ∧ Below w.heap.size w w'
theorem two_boxes (w : World) (x : List UInt8) (Z : Array Value) (t t' : TypeId) (hZ : Z.size = 16) : ∃ W0, (w.alloc (.cells (x.map u8).toArray t)).alloc (.cells Z t') = W0 ∧ Below w.heap.size w W0 ∧ w.heap.size + 1 < W0.heap.size ∧ W0.rangeAt w.heap.size 0 (x.map u8) ∧ W0.there (w.heap.size + 1) 0 16 := by
  refine ⟨_, rfl, (below_alloc w _).alloc (by simp) _, by simp, range_keep (dig_range w x _) (below_alloc _ _) (by simp), ?_⟩
  have := alloc_there (w.alloc (.cells (x.map u8).toArray t)) Z t' 16 hZ
  rwa [World.size_alloc] at this

set_option maxRecDepth 100000 in
set_option maxHeartbeats 4000000 in
theorem comb_any (f : Nat) : ∀ (n i : Nat) (leaf : List UInt8) (proof : List (List UInt8)) (a : Option Addr) (m c : Nat) (w : World), n < f → i < n → n ≤ 100000 → leaf.length = 16 → All16 proof → Tab w → m = proof.length → m ≤ c → m ≤ 1000000 → DigB w.heap.size w a proof →
    Calls Tryd.prog 48 #[.int .i64 n, .int .i64 i, .agg (leaf.map u8).toArray, .slice a m c] w (Combined w (combF n i leaf proof)) := by
  induction f with
  | zero => intro n i leaf proof a m c w h; omega
  | succ f ih =>
    intro n i leaf proof a m c w hf hin hn2 hl16 hp16 hT hm hmc hm2 hpr
    subst hm
    have hs1 : (List.map u8 leaf).toArray.size = 16 := by simp [hl16]
    obtain ⟨W0, hW0, hb0, hz0, hrl, hth⟩ := two_boxes w leaf #[.int .u8 0, .int .u8 0, .int .u8 0, .int .u8 0, .int .u8 0, .int .u8 0, .int .u8 0, .int .u8 0, .int .u8 0, .int .u8 0, .int .u8 0, .int .u8 0, .int .u8 0, .int .u8 0, .int .u8 0, .int .u8 0] 28 28 rfl
    have HIH := hid ih
    have HB1 := hid hT.lt
    have HT := hid (hT.keep hb0)
    have HPR := hid ((hpr.keep hb0).mono hb0.size)
    have HB0 := hid hb0; have HRL := hid hrl; have HTH := hid hth; have H16 := hid hp16; have HW0 := hid hW0
    have HBL := hid (show ∀ b off, a = some ⟨b, off, none⟩ → proof.length ≠ 0 → b < w.heap.size from fun b off e h => by obtain ⟨b', o', e', hlt, -, -⟩ := hpr 0 (by omega); rw [e] at e'; cases e'; exact hlt)
    clear ih hT hpr hb0 hrl hth hp16 hW0
    by_cases h1 : n = 1
    · subst h1
      obtain rfl : i = 0 := by omega
      have HL := hid (leafD_length leaf)
      have HC := hid (fun (W : World) hT => leaf1_any leaf hl16 W hT)
      obtain ⟨L, hL⟩ : ∃ L, leafD leaf = L := ⟨_, rfl⟩
      have HE := hid (show combF 1 0 leaf proof = (L, decide (proof.length = 0)) by rw [combF_one, hL])
      rw [hL] at HL HC
      have HI := hid (info16 leaf hl16)
      have HI2 := hid (info16a L HL.out)
      have e1 : ((1 : Nat) : Int) = 1 := rfl
      have e0 : ((0 : Nat) : Int) = 0 := rfl
      rw [e1, e0]
      clear hL e1 e0
      by_cases hp0 : proof.length = 0
      ·
        --[A
        have q2 : ((proof.length : Int) == 0) = true := beq_iff_eq.2 (by omega)
        have HD := hid (show decide (proof.length = 0) = true from decide_eq_true hp0)
        go_enter Tryd.func48, Tryd.ntmps48
        go_upto_region 1 with (fail)
        rw [HW0.out]
        go_wp2_with (first
          | (refine wpList_load_mid rfl _ _ rfl w.heap.size 0 rfl _ _ HRL.out rfl rfl HI.out ?_)
          | (go_at_call 46; (with_reducible refine (HC.out _ HT.out).mono ?_); rintro e w3 ⟨rfl, hb3⟩; have HB3 := hid hb3; have HTH3 := hid (there_keep HTH.out hb3 hz0); clear hb3)
          | (refine wpList_store_mid rfl _ _ _ rfl (w.heap.size + 1) 0 _ rfl rfl (there16 HTH3.out _ HL.out) HI2.out (all_u8 L) ?_))
        refine bodyPost_ret (ret_dig2 rfl _ _ (w.heap.size + 1) _ HL.out rfl HTH3.out) rfl ?_
        rw [HE.out, HD.out]
        exact ⟨rfl, below_setCells (Nat.le_succ _) _ _ _ (HB0.out.trans (HB3.out.mono HB0.out.size))⟩
        --]A
      ·
        --[B
        have q2 : ((proof.length : Int) == 0) = false := beq_eq_false_iff_ne.2 (by omega)
        have HD := hid (show decide (proof.length = 0) = false from decide_eq_false hp0)
        go_enter Tryd.func48, Tryd.ntmps48
        go_upto_region 1 with (fail)
        rw [HW0.out]
        go_wp2_with (first
          | (refine wpList_load_mid rfl _ _ rfl w.heap.size 0 rfl _ _ HRL.out rfl rfl HI.out ?_)
          | (go_at_call 46; (with_reducible refine (HC.out _ HT.out).mono ?_); rintro e w3 ⟨rfl, hb3⟩; have HB3 := hid hb3; have HTH3 := hid (there_keep HTH.out hb3 hz0); clear hb3)
          | (refine wpList_store_mid rfl _ _ _ rfl (w.heap.size + 1) 0 _ rfl rfl (there16 HTH3.out _ HL.out) HI2.out (all_u8 L) ?_))
        refine bodyPost_ret (ret_dig2 rfl _ _ (w.heap.size + 1) _ HL.out rfl HTH3.out) rfl ?_
        rw [HE.out, HD.out]
        exact ⟨rfl, below_setCells (Nat.le_succ _) _ _ _ (HB0.out.trans (HB3.out.mono HB0.out.size))⟩
        --]B
    · by_cases hp0 : proof.length = 0
      ·
        --[C
        have HE := hid (combF_nil (show 1 < n by omega) i leaf proof hp0)
        have q1 : ¬ ((n : Int) = 1) := by omega
        have q2 : ((proof.length : Int) == 0) = true := beq_iff_eq.2 (by omega)
        have q3 : (proof.length : Int) = 0 := by omega
        go_enter Tryd.func48, Tryd.ntmps48
        go_upto_region 1 with (fail)
        rw [HW0.out]
        go_wp2_with (refine wpList_store_mid rfl _ _ _ rfl (w.heap.size + 1) 0 (zero16.map u8).toArray rfl rfl (there16 HTH.out zero16 rfl) (info16a zero16 rfl) (all_u8 zero16) ?_)
        refine bodyPost_ret (ret_dig2 rfl _ _ (w.heap.size + 1) zero16 rfl rfl HTH.out) rfl ?_
        rw [HE.out]
        exact ⟨rfl, below_setCells (Nat.le_succ _) _ _ _ HB0.out⟩
        --]C
      · have hk := splitF_spec (show 1 < n by omega)
        obtain ⟨k, hke⟩ : ∃ k, splitF n = k := ⟨_, rfl⟩
        have hcl := HPR.out (proof.length - 1) (by omega)
        obtain ⟨b, off, rfl, hbl, -, hrg⟩ := hcl
        have HBO := hid (show b < w.heap.size from HBL.out b off rfl hp0)
        have hx16 := H16.out _ (List.getElem_mem (show proof.length - 1 < proof.length by omega))
        have hxe : proof.getD (proof.length - 1) [] = proof[proof.length - 1]'(by omega) := by rw [List.getD, List.getElem?_eq_getElem (by omega)]; rfl
        obtain ⟨x, hx⟩ : ∃ x, proof[proof.length - 1]'(by omega) = x := ⟨_, rfl⟩
        rw [hx] at hrg hx16 hxe
        rw [Nat.mul_comm] at hrg
        have HX := hid hrg
        have HXE := hid hxe
        have HSP := hid (split3_any n · (by omega) (by omega))
        rw [hke] at hk HSP
        have HKE := hid hke
        have HDL := hid (show proof.dropLast.length = proof.length - 1 from List.length_dropLast)
        have q1 : ¬ ((n : Int) = 1) := by omega
        have q2 : ¬ ((proof.length : Int) = 0) := by omega
        have q3 : IntKind.i64.wrap ((proof.length : Int) - 1) = ((proof.length - 1 : Nat) : Int) := by rw [IntWalk.i64_in _ (by omega)]; omega
        have q4 : ((proof.length - 1 : Nat) : Int) ≤ (c : Int) := by omega
        have q5 : (0 : Int) ≤ ((proof.length - 1 : Nat) : Int) := by omega
        have q6 : ((proof.length - 1 : Nat) : Int) < (proof.length : Int) := by omega
        have q7 : (proof.length : Int) - 1 = ((proof.length - 1 : Nat) : Int) := by omega
        clear hke hx hrg hxe
        by_cases hlt : i < k
        ·
          --[D
          have d1 : (i : Int) < (k : Int) := by omega
          obtain ⟨⟨d, okb⟩, hcd⟩ : ∃ r, combF k i leaf proof.dropLast = r := ⟨_, rfl⟩
          have HD16 := hid (show d.length = 16 by have := comb_length (k + 1) k i leaf proof.dropLast (Nat.lt_succ_self _) hlt; rw [hcd] at this; exact this)
          have HE0 := hid (show combF n i leaf proof = (nodeD d x, okb) by
            rw [combF_left (show 1 < n by omega) (by rw [HKE.out]; exact hlt) leaf proof hp0, HKE.out, HXE.out, hcd])
          have HW := hid (fun (W : World) (hb : Below W0.heap.size W0 W) => (show Calls Tryd.prog 48 #[.int .i64 k, .int .i64 i, .agg (leaf.map u8).toArray, .slice (some ⟨b, off, none⟩) (proof.length - 1) c] W fun e w' => e = .returned (.tuple #[dv d, .bool okb]) ∧ Below W.heap.size W w' by
            have := HIH.out k i leaf proof.dropLast (some ⟨b, off, none⟩) (proof.length - 1) c W (by omega) hlt (by omega) hl16 H16.out.init (HT.out.keep hb) HDL.out.symm (by omega) (by omega) ((HPR.out.init.keep hb).mono hb.size)
            rw [hcd] at this; exact this))
          obtain ⟨dn, hdn⟩ : ∃ dn, nodeD d x = dn := ⟨_, rfl⟩
          have HDN := hid (show dn.length = 16 by rw [← hdn]; exact nodeD_length _ _)
          have HN := hid (fun (W : World) (hT : Tab W) => (show Calls Tryd.prog 47 #[.agg (d.map u8).toArray, .agg (x.map u8).toArray] W fun e w' => e = .returned (dv dn) ∧ Below W.heap.size W w' by rw [← hdn]; exact node1_any d x HD16.out hx16 W hT))
          rw [hdn] at HE0
          have HE := hid HE0.out
          clear hcd hdn HE0
          have HL8 := hid (show ∀ p ∈ [(w.heap.size, 0, leaf)], W0.rangeAt p.1 p.2.1 (p.2.2.map u8) ∧ p.1 < W0.heap.size from fun p hp => by rw [List.mem_singleton.1 hp]; exact ⟨HRL.out, by simp only; omega⟩)
          go_enter Tryd.func48, Tryd.ntmps48
          go_upto_region 1 with (fail)
          rw [HW0.out]
          go_upto_region 8 with ((with_reducible refine (HSP.out _).mono ?_); rintro e w2 ⟨rfl, rfl⟩)
          go_cut [12, 13] (fun u v wx => ∃ q, u = .pointer (some ⟨q, 0, none⟩) ∧ v = .bool okb ∧ W0.heap.size ≤ q ∧ q < wx.heap.size ∧ wx.rangeAt q 0 (d.map u8) ∧ Below W0.heap.size W0 wx)
          case first =>
            go_wp2_with fail
            have HB0S := hid (show W0.heap.size ≤ W0.heap.size from Nat.le_refl _)
            refine wp_region_noPanic ?_
            refine wp_region_held_drew (S := Sx (W0.heap.size) W0 [(w.heap.size, 0, leaf)]) (by kernel_rfl) (Sx.start (HL8.out)) (fun hH => ?_)
            refine wpAnyH_take (i := 0) (v := ?_) rfl (by kernel_rfl) (by kernel_rfl) (by kernel_rfl) (fun _ _ _ h => h) (Or.inl ⟨by rfl, ?_⟩) hH ?_
            rotate_left
            · (intro w hSw; simp only [List.getElem_toArray, List.getElem_cons_zero]; first | (go_simp; done) | (go_simp; with_reducible rfl))
            simp only [List.getElem_toArray, List.getElem_cons_zero, Act.put, List.setIfInBounds_toArray, List.set_cons_zero, List.set_cons_succ]
            refine wpAnyH_take (i := 1) (v := ?_) rfl (by kernel_rfl) (by kernel_rfl) (by kernel_rfl) (fun _ _ _ h => h) (Or.inl ⟨by rfl, ?_⟩) hH ?_
            rotate_left
            · (intro w hSw; simp only [List.getElem_toArray, List.getElem_cons_succ, List.getElem_cons_zero]; first | (go_simp; done) | (go_simp; with_reducible rfl))
            simp only [List.getElem_toArray, List.getElem_cons_succ, List.getElem_cons_zero, Act.put, List.setIfInBounds_toArray, List.set_cons_zero, List.set_cons_succ]
            refine wpAnyH_take (i := 2) rfl (by kernel_rfl) (by kernel_rfl) (by kernel_rfl) (fun _ _ _ h => h) (yieldsIf_load_mid (by rfl) _ _ rfl w.heap.size 0 rfl (leaf.map u8) _ (fun w h => Sx.get h (k := 0) rfl) under28 rfl (info16 leaf hl16)) hH ?_
            simp only [List.getElem_toArray, List.getElem_cons_succ, List.getElem_cons_zero, Act.put, List.setIfInBounds_toArray, List.set_cons_zero, List.set_cons_succ]
            refine wpAnyH_take (i := 3) (v := ?_) rfl (by kernel_rfl) (by kernel_rfl) (by kernel_rfl) (fun _ _ _ h => h) (Or.inl ⟨by rfl, ?_⟩) hH ?_
            rotate_left
            · (intro w hSw; simp only [List.getElem_toArray, List.getElem_cons_succ, List.getElem_cons_zero]; first | (go_simp; done) | (go_simp; with_reducible rfl))
            simp only [List.getElem_toArray, List.getElem_cons_succ, List.getElem_cons_zero, Act.put, List.setIfInBounds_toArray, List.set_cons_zero, List.set_cons_succ]
            refine wpAnyH_take (i := 4) (v := ?_) rfl (by kernel_rfl) (by kernel_rfl) (by kernel_rfl) (fun _ _ _ h => h) (Or.inl ⟨by rfl, ?_⟩) hH ?_
            rotate_left
            · (intro w hSw; simp only [List.getElem_toArray, List.getElem_cons_succ, List.getElem_cons_zero]; first | (go_simp; done) | (go_simp; with_reducible rfl))
            simp only [List.getElem_toArray, List.getElem_cons_succ, List.getElem_cons_zero, Act.put, List.setIfInBounds_toArray, List.set_cons_zero, List.set_cons_succ]
            refine wpAnyH_take (i := 5) (v := ?_) rfl (by kernel_rfl) (by kernel_rfl) (by kernel_rfl) (fun _ _ _ h => h) (Or.inl ⟨by rfl, ?_⟩) hH ?_
            rotate_left
            · (intro w hSw; simp only [List.getElem_toArray, List.getElem_cons_succ, List.getElem_cons_zero]; first | (go_simp; done) | (go_simp; with_reducible rfl))
            simp only [List.getElem_toArray, List.getElem_cons_succ, List.getElem_cons_zero, Act.put, List.setIfInBounds_toArray, List.set_cons_zero, List.set_cons_succ]
            refine wpAnyH_ready (rs := [6, 10]) (by kernel_rfl) (by simp) ?_
            refine AllReadyH.cons rfl (fun K hK => ?_) (AllReadyH.cons rfl (fun K hK => ?_) AllReadyH.nil)
            · simp only [List.getElem_toArray, List.getElem_cons_succ, List.getElem_cons_zero]
              go_simp
              (with_reducible refine (HW.out _ hH.below).mono ?_)
              rintro e z1 ⟨rfl, hb5⟩
              have HBS := hid hb5
              clear hb5
              go_wp2_with fail
              refine hK.out _ _ ?_ (fun hH => ?_)
              · exact hH.call HBS.out HB0S.out
              clear hK K
              try simp only [Act.put, List.setIfInBounds_toArray, List.set_cons_zero, List.set_cons_succ]
              refine wpAnyH_take (i := 7) (v := ?_) rfl (by kernel_rfl) (by kernel_rfl) (by kernel_rfl) (fun _ _ _ h => h) (Or.inl ⟨by rfl, ?_⟩) hH ?_
              rotate_left
              · (intro w hSw; simp only [List.getElem_toArray, List.getElem_cons_succ, List.getElem_cons_zero]; first | (go_simp; done) | (go_simp; with_reducible rfl))
              simp only [List.getElem_toArray, List.getElem_cons_succ, List.getElem_cons_zero, Act.put, List.setIfInBounds_toArray, List.set_cons_zero, List.set_cons_succ]
              refine wpAnyH_take (i := 8) (v := ?_) rfl (by kernel_rfl) (by kernel_rfl) (by kernel_rfl) (fun _ _ _ h => h) (Or.inl ⟨by rfl, ?_⟩) hH ?_
              rotate_left
              · (intro w hSw; simp only [List.getElem_toArray, List.getElem_cons_succ, List.getElem_cons_zero]; first | (go_simp; done) | (go_simp; with_reducible rfl))
              simp only [List.getElem_toArray, List.getElem_cons_succ, List.getElem_cons_zero, Act.put, List.setIfInBounds_toArray, List.set_cons_zero, List.set_cons_succ]
              refine wpAnyH_take (i := 9) (v := ?_) rfl (by kernel_rfl) (by kernel_rfl) (by kernel_rfl) (fun _ _ _ h => h) (Or.inl ⟨by rfl, ?_⟩) hH ?_
              rotate_left
              · (intro w hSw; simp only [List.getElem_toArray, List.getElem_cons_succ, List.getElem_cons_zero]; first | (go_simp; done) | (go_simp; with_reducible rfl))
              simp only [List.getElem_toArray, List.getElem_cons_succ, List.getElem_cons_zero, Act.put, List.setIfInBounds_toArray, List.set_cons_zero, List.set_cons_succ]
              refine wpAnyH_ready (rs := [10]) (by kernel_rfl) (by simp) ?_
              refine AllReadyH.cons rfl (fun K hK => ?_) AllReadyH.nil
              simp only [List.getElem_toArray, List.getElem_cons_succ, List.getElem_cons_zero]
              obtain ⟨q, hq⟩ : ∃ q, z1.heap.size = q := ⟨_, rfl⟩
              have HTq := hid (show (z1.alloc (.cells #[.int .u8 0, .int .u8 0, .int .u8 0, .int .u8 0, .int .u8 0, .int .u8 0, .int .u8 0, .int .u8 0, .int .u8 0, .int .u8 0, .int .u8 0, .int .u8 0, .int .u8 0, .int .u8 0, .int .u8 0, .int .u8 0] 28)).there q 0 16 ∧ q < (z1.alloc (.cells #[.int .u8 0, .int .u8 0, .int .u8 0, .int .u8 0, .int .u8 0, .int .u8 0, .int .u8 0, .int .u8 0, .int .u8 0, .int .u8 0, .int .u8 0, .int .u8 0, .int .u8 0, .int .u8 0, .int .u8 0, .int .u8 0] 28)).heap.size by rw [← hq]; exact ⟨alloc_there z1 #[.int .u8 0, .int .u8 0, .int .u8 0, .int .u8 0, .int .u8 0, .int .u8 0, .int .u8 0, .int .u8 0, .int .u8 0, .int .u8 0, .int .u8 0, .int .u8 0, .int .u8 0, .int .u8 0, .int .u8 0, .int .u8 0] 28 16 rfl, by simp⟩)
              have HNq := hid (show _ ≤ q by rw [← hq]; exact hH.below.size)
              have hb5 := below_alloc z1 (.cells #[.int .u8 0, .int .u8 0, .int .u8 0, .int .u8 0, .int .u8 0, .int .u8 0, .int .u8 0, .int .u8 0, .int .u8 0, .int .u8 0, .int .u8 0, .int .u8 0, .int .u8 0, .int .u8 0, .int .u8 0, .int .u8 0] 28)
              clear hb5
              go_simp
              first | rw [hq] | (simp at hq; rw [hq]) | skip
              refine hK.out _ _ ?_ (fun hH => ?_)
              · exact hH.alloc HB0S.out _
              clear hK K
              try simp only [Act.put, List.setIfInBounds_toArray, List.set_cons_zero, List.set_cons_succ]
              refine wpAnyH_ready (rs := [11]) (by kernel_rfl) (by simp) ?_
              refine AllReadyH.cons rfl (fun K hK => ?_) AllReadyH.nil
              simp only [List.getElem_toArray, List.getElem_cons_succ, List.getElem_cons_zero]
              rw [if_pos (by rfl)]
              refine wp_store_mid _ _ _ rfl q 0 _ rfl rfl (there16 HTq.out.1 d HD16.out) (info16a d HD16.out) (all_u8 d) ?_
              refine hK.out _ _ ?_ (fun hH => ?_)
              · exact hH.store (Nat.le_trans HB0S.out HNq.out) (fun p hp => by rw [List.mem_singleton.1 hp]; have := HNq.out; simp only; omega) _ _
              clear hK K
              try simp only [Act.put]
              refine wpAnyH_take (i := 12) (v := ?_) rfl (by kernel_rfl) (by kernel_rfl) (by kernel_rfl) (fun _ _ _ h => h) (Or.inl ⟨by rfl, ?_⟩) hH ?_
              rotate_left
              · (intro w hSw; simp only [List.getElem_toArray, List.getElem_cons_succ, List.getElem_cons_zero]; first | (go_simp; done) | (go_simp; with_reducible rfl))
              simp only [List.getElem_toArray, List.getElem_cons_succ, List.getElem_cons_zero, Act.put, List.setIfInBounds_toArray, List.set_cons_zero, List.set_cons_succ]
              refine wpAnyH_done (by kernel_rfl) ?_ _
              refine NoPanic.normal ?_
              go_wp2_with fail
              go_meet
              case rel => exact ⟨q, by first | rfl | (rw [hq]), rfl, HNq.out, by rw [size_setCells]; exact HTq.out.2, World.rangeAt_setCells_same _ _ _ _ (there16 HTq.out.1 d HD16.out), hH.below⟩
            · simp only [List.getElem_toArray, List.getElem_cons_succ, List.getElem_cons_zero]
              obtain ⟨q, hq⟩ : ∃ q, W0.drew.heap.size = q := ⟨_, rfl⟩
              have HTq := hid (show (W0.drew.alloc (.cells #[.int .u8 0, .int .u8 0, .int .u8 0, .int .u8 0, .int .u8 0, .int .u8 0, .int .u8 0, .int .u8 0, .int .u8 0, .int .u8 0, .int .u8 0, .int .u8 0, .int .u8 0, .int .u8 0, .int .u8 0, .int .u8 0] 28)).there q 0 16 ∧ q < (W0.drew.alloc (.cells #[.int .u8 0, .int .u8 0, .int .u8 0, .int .u8 0, .int .u8 0, .int .u8 0, .int .u8 0, .int .u8 0, .int .u8 0, .int .u8 0, .int .u8 0, .int .u8 0, .int .u8 0, .int .u8 0, .int .u8 0, .int .u8 0] 28)).heap.size by rw [← hq]; exact ⟨alloc_there W0.drew #[.int .u8 0, .int .u8 0, .int .u8 0, .int .u8 0, .int .u8 0, .int .u8 0, .int .u8 0, .int .u8 0, .int .u8 0, .int .u8 0, .int .u8 0, .int .u8 0, .int .u8 0, .int .u8 0, .int .u8 0, .int .u8 0] 28 16 rfl, by simp⟩)
              have HNq := hid (show _ ≤ q by rw [← hq]; exact hH.below.size)
              have hb5 := below_alloc W0.drew (.cells #[.int .u8 0, .int .u8 0, .int .u8 0, .int .u8 0, .int .u8 0, .int .u8 0, .int .u8 0, .int .u8 0, .int .u8 0, .int .u8 0, .int .u8 0, .int .u8 0, .int .u8 0, .int .u8 0, .int .u8 0, .int .u8 0] 28)
              clear hb5
              go_simp
              first | rw [hq] | (simp at hq; rw [hq]) | skip
              refine hK.out _ _ ?_ (fun hH => ?_)
              · exact hH.alloc HB0S.out _
              clear hK K
              try simp only [Act.put, List.setIfInBounds_toArray, List.set_cons_zero, List.set_cons_succ]
              refine wpAnyH_ready (rs := [6]) (by kernel_rfl) (by simp) ?_
              refine AllReadyH.cons rfl (fun K hK => ?_) AllReadyH.nil
              simp only [List.getElem_toArray, List.getElem_cons_succ, List.getElem_cons_zero]
              go_simp
              (with_reducible refine (HW.out _ hH.below).mono ?_)
              rintro e z2 ⟨rfl, hb5⟩
              have HTq := hid (keepT2 HTq.out hb5)
              have HBS := hid hb5
              clear hb5
              go_wp2_with fail
              refine hK.out _ _ ?_ (fun hH => ?_)
              · exact hH.call HBS.out HB0S.out
              clear hK K
              try simp only [Act.put, List.setIfInBounds_toArray, List.set_cons_zero, List.set_cons_succ]
              refine wpAnyH_take (i := 7) (v := ?_) rfl (by kernel_rfl) (by kernel_rfl) (by kernel_rfl) (fun _ _ _ h => h) (Or.inl ⟨by rfl, ?_⟩) hH ?_
              rotate_left
              · (intro w hSw; simp only [List.getElem_toArray, List.getElem_cons_succ, List.getElem_cons_zero]; first | (go_simp; done) | (go_simp; with_reducible rfl))
              simp only [List.getElem_toArray, List.getElem_cons_succ, List.getElem_cons_zero, Act.put, List.setIfInBounds_toArray, List.set_cons_zero, List.set_cons_succ]
              refine wpAnyH_take (i := 8) (v := ?_) rfl (by kernel_rfl) (by kernel_rfl) (by kernel_rfl) (fun _ _ _ h => h) (Or.inl ⟨by rfl, ?_⟩) hH ?_
              rotate_left
              · (intro w hSw; simp only [List.getElem_toArray, List.getElem_cons_succ, List.getElem_cons_zero]; first | (go_simp; done) | (go_simp; with_reducible rfl))
              simp only [List.getElem_toArray, List.getElem_cons_succ, List.getElem_cons_zero, Act.put, List.setIfInBounds_toArray, List.set_cons_zero, List.set_cons_succ]
              refine wpAnyH_take (i := 9) (v := ?_) rfl (by kernel_rfl) (by kernel_rfl) (by kernel_rfl) (fun _ _ _ h => h) (Or.inl ⟨by rfl, ?_⟩) hH ?_
              rotate_left
              · (intro w hSw; simp only [List.getElem_toArray, List.getElem_cons_succ, List.getElem_cons_zero]; first | (go_simp; done) | (go_simp; with_reducible rfl))
              simp only [List.getElem_toArray, List.getElem_cons_succ, List.getElem_cons_zero, Act.put, List.setIfInBounds_toArray, List.set_cons_zero, List.set_cons_succ]
              refine wpAnyH_ready (rs := [11]) (by kernel_rfl) (by simp) ?_
              refine AllReadyH.cons rfl (fun K hK => ?_) AllReadyH.nil
              simp only [List.getElem_toArray, List.getElem_cons_succ, List.getElem_cons_zero]
              rw [if_pos (by rfl)]
              refine wp_store_mid _ _ _ rfl q 0 _ rfl rfl (there16 HTq.out.1 d HD16.out) (info16a d HD16.out) (all_u8 d) ?_
              refine hK.out _ _ ?_ (fun hH => ?_)
              · exact hH.store (Nat.le_trans HB0S.out HNq.out) (fun p hp => by rw [List.mem_singleton.1 hp]; have := HNq.out; simp only; omega) _ _
              clear hK K
              try simp only [Act.put]
              refine wpAnyH_take (i := 12) (v := ?_) rfl (by kernel_rfl) (by kernel_rfl) (by kernel_rfl) (fun _ _ _ h => h) (Or.inl ⟨by rfl, ?_⟩) hH ?_
              rotate_left
              · (intro w hSw; simp only [List.getElem_toArray, List.getElem_cons_succ, List.getElem_cons_zero]; first | (go_simp; done) | (go_simp; with_reducible rfl))
              simp only [List.getElem_toArray, List.getElem_cons_succ, List.getElem_cons_zero, Act.put, List.setIfInBounds_toArray, List.set_cons_zero, List.set_cons_succ]
              refine wpAnyH_done (by kernel_rfl) ?_ _
              refine NoPanic.normal ?_
              go_wp2_with fail
              go_meet
              case rel => exact ⟨q, by first | rfl | (rw [hq]), rfl, HNq.out, by rw [size_setCells]; exact HTq.out.2, World.rangeAt_setCells_same _ _ _ _ (there16 HTq.out.1 d HD16.out), hH.below⟩
          case rest =>
            rename World => W2
            obtain ⟨q, rfl, rfl, hq1, hq2, hq3, hb2⟩ := hcut
            have HB2 := hid hb2
            have HT2 := hid (HT.out.keep hb2)
            have hB1 := HB1.out
            have HTH2 := hid (there_keep HTH.out hb2 (by omega))
            have HTH9 := hid (show W2.drew.there (w.heap.size + 1) 0 16 ∧ w.heap.size + 1 < W2.drew.heap.size from ⟨HTH2.out, by have := hb2.size; simp; omega⟩)
            have HL9 := hid (show ∀ p ∈ [(q, 0, d), (b, off + (proof.length - 1) * 16, x)], W2.rangeAt p.1 p.2.1 (p.2.2.map u8) ∧ p.1 < W2.heap.size from fun p hp => by
              simp only [List.mem_cons, List.not_mem_nil, or_false] at hp
              rcases hp with rfl | rfl
              · exact ⟨hq3, hq2⟩
              · exact ⟨range_keep HX.out hb2 hbl, by have := hb2.size; simp only; omega⟩)
            have HNE := hid (show ∀ p ∈ [(q, 0, d), (b, off + (proof.length - 1) * 16, x)], p.1 ≠ w.heap.size + 1 from fun p hp => by
              simp only [List.mem_cons, List.not_mem_nil, or_false] at hp
              rcases hp with rfl | rfl
              · simp only; omega
              · have := HBO.out; simp only; omega)
            clear hq3 hb2
            go_wp2_with fail
            have HB0S := hid (show w.heap.size + 1 ≤ W2.heap.size from (by have := HB2.out.size; omega))
            refine wp_region_noPanic ?_
            refine wp_region_held_drew (S := Sx (w.heap.size + 1) W2 [(q, 0, d), (b, off + (proof.length - 1) * 16, x)]) (by kernel_rfl) (Sx.start (HL9.out)) (fun hH => ?_)
            refine wpAnyH_take (i := 0) rfl (by kernel_rfl) (by kernel_rfl) (by kernel_rfl) (fun _ _ _ h => h) (yieldsIf_load_mid (by rfl) _ _ rfl q 0 rfl (d.map u8) _ (fun w h => Sx.get h (k := 0) rfl) under28 rfl (info16 d HD16.out)) hH ?_
            simp only [List.getElem_toArray, List.getElem_cons_zero, Act.put, List.setIfInBounds_toArray, List.set_cons_zero, List.set_cons_succ]
            refine wpAnyH_take (i := 1) (v := ?_) rfl (by kernel_rfl) (by kernel_rfl) (by kernel_rfl) (fun _ _ _ h => h) (Or.inl ⟨by rfl, ?_⟩) hH ?_
            rotate_left
            · (intro w hSw; simp only [List.getElem_toArray, List.getElem_cons_succ, List.getElem_cons_zero]; first | (go_simp; done) | (go_simp; with_reducible rfl))
            simp only [List.getElem_toArray, List.getElem_cons_succ, List.getElem_cons_zero, Act.put, List.setIfInBounds_toArray, List.set_cons_zero, List.set_cons_succ]
            refine wpAnyH_take (i := 2) (v := ?_) rfl (by kernel_rfl) (by kernel_rfl) (by kernel_rfl) (fun _ _ _ h => h) (Or.inl ⟨by rfl, ?_⟩) hH ?_
            rotate_left
            · (intro w hSw; simp only [List.getElem_toArray, List.getElem_cons_succ, List.getElem_cons_zero]; first | (go_simp; done) | (go_simp; with_reducible rfl))
            simp only [List.getElem_toArray, List.getElem_cons_succ, List.getElem_cons_zero, Act.put, List.setIfInBounds_toArray, List.set_cons_zero, List.set_cons_succ]
            refine wpAnyH_take (i := 3) (v := ?_) rfl (by kernel_rfl) (by kernel_rfl) (by kernel_rfl) (fun _ _ _ h => h) (Or.inl ⟨by rfl, ?_⟩) hH ?_
            rotate_left
            · (intro w hSw; simp only [List.getElem_toArray, List.getElem_cons_succ, List.getElem_cons_zero]; first | (go_simp; done) | (go_simp; with_reducible rfl))
            simp only [List.getElem_toArray, List.getElem_cons_succ, List.getElem_cons_zero, Act.put, List.setIfInBounds_toArray, List.set_cons_zero, List.set_cons_succ]
            refine wpAnyH_take (i := 4) rfl (by kernel_rfl) (by kernel_rfl) (by kernel_rfl) (fun _ _ _ h => h) (yieldsIf_load_mid (by rfl) _ _ rfl b (off + (proof.length - 1) * 16) rfl (x.map u8) _ (fun w h => Sx.get h (k := 1) rfl) under28 rfl (info16 x hx16)) hH ?_
            simp only [List.getElem_toArray, List.getElem_cons_succ, List.getElem_cons_zero, Act.put, List.setIfInBounds_toArray, List.set_cons_zero, List.set_cons_succ]
            refine wpAnyH_take (i := 6) (v := ?_) rfl (by kernel_rfl) (by kernel_rfl) (by kernel_rfl) (fun _ _ _ h => h) (Or.inl ⟨by rfl, ?_⟩) hH ?_
            rotate_left
            · (intro w hSw; simp only [List.getElem_toArray, List.getElem_cons_succ, List.getElem_cons_zero]; first | (go_simp; done) | (go_simp; with_reducible rfl))
            simp only [List.getElem_toArray, List.getElem_cons_succ, List.getElem_cons_zero, Act.put, List.setIfInBounds_toArray, List.set_cons_zero, List.set_cons_succ]
            refine wpAnyH_ready (rs := [5]) (by kernel_rfl) (by simp) ?_
            refine AllReadyH.cons rfl (fun K hK => ?_) AllReadyH.nil
            simp only [List.getElem_toArray, List.getElem_cons_succ, List.getElem_cons_zero]
            go_simp
            (with_reducible refine (HN.out _ (HT2.out.keepN (show 1 < w.heap.size + 1 by have := HB1.out; omega) hH.below)).mono ?_)
            rintro e z3 ⟨rfl, hb5⟩
            have HTH9 := hid (keepT2 HTH9.out hb5)
            have HBS := hid hb5
            clear hb5
            go_wp2_with fail
            refine hK.out _ _ ?_ (fun hH => ?_)
            · exact hH.call HBS.out HB0S.out
            clear hK K
            try simp only [Act.put, List.setIfInBounds_toArray, List.set_cons_zero, List.set_cons_succ]
            refine wpAnyH_ready (rs := [7]) (by kernel_rfl) (by simp) ?_
            refine AllReadyH.cons rfl (fun K hK => ?_) AllReadyH.nil
            simp only [List.getElem_toArray, List.getElem_cons_succ, List.getElem_cons_zero]
            rw [if_pos (by rfl)]
            refine wp_store_mid _ _ _ rfl (w.heap.size + 1) 0 _ rfl rfl (there16 HTH9.out.1 dn HDN.out) (info16a dn HDN.out) (all_u8 dn) ?_
            refine hK.out _ _ ?_ (fun hH => ?_)
            · exact hH.store (Nat.le_refl _) (HNE.out) _ _
            clear hK K
            try simp only [Act.put]
            refine wpAnyH_take (i := 8) (v := ?_) rfl (by kernel_rfl) (by kernel_rfl) (by kernel_rfl) (fun _ _ _ h => h) (Or.inl ⟨by rfl, ?_⟩) hH ?_
            rotate_left
            · (intro w hSw; simp only [List.getElem_toArray, List.getElem_cons_succ, List.getElem_cons_zero]; first | (go_simp; done) | (go_simp; with_reducible rfl))
            simp only [List.getElem_toArray, List.getElem_cons_succ, List.getElem_cons_zero, Act.put, List.setIfInBounds_toArray, List.set_cons_zero, List.set_cons_succ]
            refine wpAnyH_done (by kernel_rfl) ?_ _
            refine NoPanic.normal ?_
            go_wp2_with fail
            refine bodyPost_ret (ret_dig2 rfl _ _ (w.heap.size + 1) _ HDN.out rfl HTH9.out.1) rfl ?_
            rw [HE.out]
            exact ⟨rfl, HB0.out.trans ((HB2.out.mono HB0.out.size).trans (hH.below.mono (Nat.le_succ _)))⟩
          --]D
        ·
          --[E
          have d1 : ¬ ((i : Int) < (k : Int)) := by omega
          have ew1 : IntKind.i64.wrap ((n : Int) - (k : Int)) = ((n - k : Nat) : Int) := by rw [IntWalk.i64_in _ (by omega)]; omega
          have ew2 : IntKind.i64.wrap ((i : Int) - (k : Int)) = ((i - k : Nat) : Int) := by rw [IntWalk.i64_in _ (by omega)]; omega
          obtain ⟨⟨d, okb⟩, hcd⟩ : ∃ r, combF (n - k) (i - k) leaf proof.dropLast = r := ⟨_, rfl⟩
          have HD16 := hid (show d.length = 16 by have := comb_length (n - k + 1) (n - k) (i - k) leaf proof.dropLast (Nat.lt_succ_self _) (by omega); rw [hcd] at this; exact this)
          have HE0 := hid (show combF n i leaf proof = (nodeD x d, okb) by
            rw [combF_right (show 1 < n by omega) (by rw [HKE.out]; exact hlt) hin leaf proof hp0, HKE.out, HXE.out, hcd])
          have HW := hid (fun (W : World) (hb : Below W0.heap.size W0 W) => (show Calls Tryd.prog 48 #[.int .i64 ((n - k : Nat) : Int), .int .i64 ((i - k : Nat) : Int), .agg (leaf.map u8).toArray, .slice (some ⟨b, off, none⟩) (proof.length - 1) c] W fun e w' => e = .returned (.tuple #[dv d, .bool okb]) ∧ Below W.heap.size W w' by
            have := HIH.out (n - k) (i - k) leaf proof.dropLast (some ⟨b, off, none⟩) (proof.length - 1) c W (by omega) (by omega) (by omega) hl16 H16.out.init (HT.out.keep hb) HDL.out.symm (by omega) (by omega) ((HPR.out.init.keep hb).mono hb.size)
            rw [hcd] at this; exact this))
          obtain ⟨dn, hdn⟩ : ∃ dn, nodeD x d = dn := ⟨_, rfl⟩
          have HDN := hid (show dn.length = 16 by rw [← hdn]; exact nodeD_length _ _)
          have HN := hid (fun (W : World) (hT : Tab W) => (show Calls Tryd.prog 47 #[.agg (x.map u8).toArray, .agg (d.map u8).toArray] W fun e w' => e = .returned (dv dn) ∧ Below W.heap.size W w' by rw [← hdn]; exact node1_any x d hx16 HD16.out W hT))
          rw [hdn] at HE0
          have HE := hid HE0.out
          clear hcd hdn HE0
          have HL8 := hid (show ∀ p ∈ [(w.heap.size, 0, leaf)], W0.rangeAt p.1 p.2.1 (p.2.2.map u8) ∧ p.1 < W0.heap.size from fun p hp => by rw [List.mem_singleton.1 hp]; exact ⟨HRL.out, by simp only; omega⟩)
          go_enter Tryd.func48, Tryd.ntmps48
          go_upto_region 1 with (fail)
          rw [HW0.out]
          go_upto_region 10 with ((with_reducible refine (HSP.out _).mono ?_); rintro e w2 ⟨rfl, rfl⟩)
          go_cut [14, 15] (fun u v wx => ∃ q, u = .pointer (some ⟨q, 0, none⟩) ∧ v = .bool okb ∧ W0.heap.size ≤ q ∧ q < wx.heap.size ∧ wx.rangeAt q 0 (d.map u8) ∧ Below W0.heap.size W0 wx)
          case first =>
            go_wp2_with fail
            have HB0S := hid (show W0.heap.size ≤ W0.heap.size from Nat.le_refl _)
            refine wp_region_noPanic ?_
            refine wp_region_held_drew (S := Sx (W0.heap.size) W0 [(w.heap.size, 0, leaf)]) (by kernel_rfl) (Sx.start (HL8.out)) (fun hH => ?_)
            refine wpAnyH_take (i := 0) (v := ?_) rfl (by kernel_rfl) (by kernel_rfl) (by kernel_rfl) (fun _ _ _ h => h) (Or.inl ⟨by rfl, ?_⟩) hH ?_
            rotate_left
            · (intro w hSw; simp only [List.getElem_toArray, List.getElem_cons_zero]; first | (go_simp; done) | (go_simp; with_reducible rfl))
            simp only [List.getElem_toArray, List.getElem_cons_zero, Act.put, List.setIfInBounds_toArray, List.set_cons_zero, List.set_cons_succ]
            refine wpAnyH_take (i := 1) (v := ?_) rfl (by kernel_rfl) (by kernel_rfl) (by kernel_rfl) (fun _ _ _ h => h) (Or.inl ⟨by rfl, ?_⟩) hH ?_
            rotate_left
            · (intro w hSw; simp only [List.getElem_toArray, List.getElem_cons_succ, List.getElem_cons_zero]; first | (go_simp; done) | (go_simp; with_reducible rfl))
            simp only [List.getElem_toArray, List.getElem_cons_succ, List.getElem_cons_zero, Act.put, List.setIfInBounds_toArray, List.set_cons_zero, List.set_cons_succ]
            refine wpAnyH_take (i := 2) (v := ?_) rfl (by kernel_rfl) (by kernel_rfl) (by kernel_rfl) (fun _ _ _ h => h) (Or.inl ⟨by rfl, ?_⟩) hH ?_
            rotate_left
            · (intro w hSw; simp only [List.getElem_toArray, List.getElem_cons_succ, List.getElem_cons_zero]; first | (go_simp; done) | (go_simp; with_reducible rfl))
            simp only [List.getElem_toArray, List.getElem_cons_succ, List.getElem_cons_zero, Act.put, List.setIfInBounds_toArray, List.set_cons_zero, List.set_cons_succ]
            refine wpAnyH_take (i := 3) (v := ?_) rfl (by kernel_rfl) (by kernel_rfl) (by kernel_rfl) (fun _ _ _ h => h) (Or.inl ⟨by rfl, ?_⟩) hH ?_
            rotate_left
            · (intro w hSw; simp only [List.getElem_toArray, List.getElem_cons_succ, List.getElem_cons_zero]; first | (go_simp; done) | (go_simp; with_reducible rfl))
            simp only [List.getElem_toArray, List.getElem_cons_succ, List.getElem_cons_zero, Act.put, List.setIfInBounds_toArray, List.set_cons_zero, List.set_cons_succ]
            refine wpAnyH_take (i := 4) (v := ?_) rfl (by kernel_rfl) (by kernel_rfl) (by kernel_rfl) (fun _ _ _ h => h) (Or.inl ⟨by rfl, ?_⟩) hH ?_
            rotate_left
            · (intro w hSw; simp only [List.getElem_toArray, List.getElem_cons_succ, List.getElem_cons_zero]; first | (go_simp; done) | (go_simp; with_reducible rfl))
            simp only [List.getElem_toArray, List.getElem_cons_succ, List.getElem_cons_zero, Act.put, List.setIfInBounds_toArray, List.set_cons_zero, List.set_cons_succ]
            refine wpAnyH_take (i := 5) (v := ?_) rfl (by kernel_rfl) (by kernel_rfl) (by kernel_rfl) (fun _ _ _ h => h) (Or.inl ⟨by rfl, ?_⟩) hH ?_
            rotate_left
            · (intro w hSw; simp only [List.getElem_toArray, List.getElem_cons_succ, List.getElem_cons_zero]; first | (go_simp; done) | (go_simp; with_reducible rfl))
            simp only [List.getElem_toArray, List.getElem_cons_succ, List.getElem_cons_zero, Act.put, List.setIfInBounds_toArray, List.set_cons_zero, List.set_cons_succ]
            refine wpAnyH_take (i := 6) rfl (by kernel_rfl) (by kernel_rfl) (by kernel_rfl) (fun _ _ _ h => h) (yieldsIf_load_mid (by rfl) _ _ rfl w.heap.size 0 rfl (leaf.map u8) _ (fun w h => Sx.get h (k := 0) rfl) under28 rfl (info16 leaf hl16)) hH ?_
            simp only [List.getElem_toArray, List.getElem_cons_succ, List.getElem_cons_zero, Act.put, List.setIfInBounds_toArray, List.set_cons_zero, List.set_cons_succ]
            refine wpAnyH_take (i := 7) (v := ?_) rfl (by kernel_rfl) (by kernel_rfl) (by kernel_rfl) (fun _ _ _ h => h) (Or.inl ⟨by rfl, ?_⟩) hH ?_
            rotate_left
            · (intro w hSw; simp only [List.getElem_toArray, List.getElem_cons_succ, List.getElem_cons_zero]; first | (go_simp; done) | (go_simp; with_reducible rfl))
            simp only [List.getElem_toArray, List.getElem_cons_succ, List.getElem_cons_zero, Act.put, List.setIfInBounds_toArray, List.set_cons_zero, List.set_cons_succ]
            refine wpAnyH_take (i := 8) (v := ?_) rfl (by kernel_rfl) (by kernel_rfl) (by kernel_rfl) (fun _ _ _ h => h) (Or.inl ⟨by rfl, ?_⟩) hH ?_
            rotate_left
            · (intro w hSw; simp only [List.getElem_toArray, List.getElem_cons_succ, List.getElem_cons_zero]; first | (go_simp; done) | (go_simp; with_reducible rfl))
            simp only [List.getElem_toArray, List.getElem_cons_succ, List.getElem_cons_zero, Act.put, List.setIfInBounds_toArray, List.set_cons_zero, List.set_cons_succ]
            refine wpAnyH_take (i := 9) (v := ?_) rfl (by kernel_rfl) (by kernel_rfl) (by kernel_rfl) (fun _ _ _ h => h) (Or.inl ⟨by rfl, ?_⟩) hH ?_
            rotate_left
            · (intro w hSw; simp only [List.getElem_toArray, List.getElem_cons_succ, List.getElem_cons_zero]; first | (go_simp; done) | (go_simp; with_reducible rfl))
            simp only [List.getElem_toArray, List.getElem_cons_succ, List.getElem_cons_zero, Act.put, List.setIfInBounds_toArray, List.set_cons_zero, List.set_cons_succ]
            refine wpAnyH_ready (rs := [10, 14]) (by kernel_rfl) (by simp) ?_
            refine AllReadyH.cons rfl (fun K hK => ?_) (AllReadyH.cons rfl (fun K hK => ?_) AllReadyH.nil)
            · simp only [List.getElem_toArray, List.getElem_cons_succ, List.getElem_cons_zero]
              go_simp
              (with_reducible refine (HW.out _ hH.below).mono ?_)
              rintro e z4 ⟨rfl, hb5⟩
              have HBS := hid hb5
              clear hb5
              go_wp2_with fail
              refine hK.out _ _ ?_ (fun hH => ?_)
              · exact hH.call HBS.out HB0S.out
              clear hK K
              try simp only [Act.put, List.setIfInBounds_toArray, List.set_cons_zero, List.set_cons_succ]
              refine wpAnyH_take (i := 11) (v := ?_) rfl (by kernel_rfl) (by kernel_rfl) (by kernel_rfl) (fun _ _ _ h => h) (Or.inl ⟨by rfl, ?_⟩) hH ?_
              rotate_left
              · (intro w hSw; simp only [List.getElem_toArray, List.getElem_cons_succ, List.getElem_cons_zero]; first | (go_simp; done) | (go_simp; with_reducible rfl))
              simp only [List.getElem_toArray, List.getElem_cons_succ, List.getElem_cons_zero, Act.put, List.setIfInBounds_toArray, List.set_cons_zero, List.set_cons_succ]
              refine wpAnyH_take (i := 12) (v := ?_) rfl (by kernel_rfl) (by kernel_rfl) (by kernel_rfl) (fun _ _ _ h => h) (Or.inl ⟨by rfl, ?_⟩) hH ?_
              rotate_left
              · (intro w hSw; simp only [List.getElem_toArray, List.getElem_cons_succ, List.getElem_cons_zero]; first | (go_simp; done) | (go_simp; with_reducible rfl))
              simp only [List.getElem_toArray, List.getElem_cons_succ, List.getElem_cons_zero, Act.put, List.setIfInBounds_toArray, List.set_cons_zero, List.set_cons_succ]
              refine wpAnyH_take (i := 13) (v := ?_) rfl (by kernel_rfl) (by kernel_rfl) (by kernel_rfl) (fun _ _ _ h => h) (Or.inl ⟨by rfl, ?_⟩) hH ?_
              rotate_left
              · (intro w hSw; simp only [List.getElem_toArray, List.getElem_cons_succ, List.getElem_cons_zero]; first | (go_simp; done) | (go_simp; with_reducible rfl))
              simp only [List.getElem_toArray, List.getElem_cons_succ, List.getElem_cons_zero, Act.put, List.setIfInBounds_toArray, List.set_cons_zero, List.set_cons_succ]
              refine wpAnyH_ready (rs := [14]) (by kernel_rfl) (by simp) ?_
              refine AllReadyH.cons rfl (fun K hK => ?_) AllReadyH.nil
              simp only [List.getElem_toArray, List.getElem_cons_succ, List.getElem_cons_zero]
              obtain ⟨q, hq⟩ : ∃ q, z4.heap.size = q := ⟨_, rfl⟩
              have HTq := hid (show (z4.alloc (.cells #[.int .u8 0, .int .u8 0, .int .u8 0, .int .u8 0, .int .u8 0, .int .u8 0, .int .u8 0, .int .u8 0, .int .u8 0, .int .u8 0, .int .u8 0, .int .u8 0, .int .u8 0, .int .u8 0, .int .u8 0, .int .u8 0] 28)).there q 0 16 ∧ q < (z4.alloc (.cells #[.int .u8 0, .int .u8 0, .int .u8 0, .int .u8 0, .int .u8 0, .int .u8 0, .int .u8 0, .int .u8 0, .int .u8 0, .int .u8 0, .int .u8 0, .int .u8 0, .int .u8 0, .int .u8 0, .int .u8 0, .int .u8 0] 28)).heap.size by rw [← hq]; exact ⟨alloc_there z4 #[.int .u8 0, .int .u8 0, .int .u8 0, .int .u8 0, .int .u8 0, .int .u8 0, .int .u8 0, .int .u8 0, .int .u8 0, .int .u8 0, .int .u8 0, .int .u8 0, .int .u8 0, .int .u8 0, .int .u8 0, .int .u8 0] 28 16 rfl, by simp⟩)
              have HNq := hid (show _ ≤ q by rw [← hq]; exact hH.below.size)
              have hb5 := below_alloc z4 (.cells #[.int .u8 0, .int .u8 0, .int .u8 0, .int .u8 0, .int .u8 0, .int .u8 0, .int .u8 0, .int .u8 0, .int .u8 0, .int .u8 0, .int .u8 0, .int .u8 0, .int .u8 0, .int .u8 0, .int .u8 0, .int .u8 0] 28)
              clear hb5
              go_simp
              first | rw [hq] | (simp at hq; rw [hq]) | skip
              refine hK.out _ _ ?_ (fun hH => ?_)
              · exact hH.alloc HB0S.out _
              clear hK K
              try simp only [Act.put, List.setIfInBounds_toArray, List.set_cons_zero, List.set_cons_succ]
              refine wpAnyH_ready (rs := [15]) (by kernel_rfl) (by simp) ?_
              refine AllReadyH.cons rfl (fun K hK => ?_) AllReadyH.nil
              simp only [List.getElem_toArray, List.getElem_cons_succ, List.getElem_cons_zero]
              rw [if_pos (by rfl)]
              refine wp_store_mid _ _ _ rfl q 0 _ rfl rfl (there16 HTq.out.1 d HD16.out) (info16a d HD16.out) (all_u8 d) ?_
              refine hK.out _ _ ?_ (fun hH => ?_)
              · exact hH.store (Nat.le_trans HB0S.out HNq.out) (fun p hp => by rw [List.mem_singleton.1 hp]; have := HNq.out; simp only; omega) _ _
              clear hK K
              try simp only [Act.put]
              refine wpAnyH_take (i := 16) (v := ?_) rfl (by kernel_rfl) (by kernel_rfl) (by kernel_rfl) (fun _ _ _ h => h) (Or.inl ⟨by rfl, ?_⟩) hH ?_
              rotate_left
              · (intro w hSw; simp only [List.getElem_toArray, List.getElem_cons_succ, List.getElem_cons_zero]; first | (go_simp; done) | (go_simp; with_reducible rfl))
              simp only [List.getElem_toArray, List.getElem_cons_succ, List.getElem_cons_zero, Act.put, List.setIfInBounds_toArray, List.set_cons_zero, List.set_cons_succ]
              refine wpAnyH_done (by kernel_rfl) ?_ _
              refine NoPanic.normal ?_
              go_wp2_with fail
              go_meet
              case rel => exact ⟨q, by first | rfl | (rw [hq]), rfl, HNq.out, by rw [size_setCells]; exact HTq.out.2, World.rangeAt_setCells_same _ _ _ _ (there16 HTq.out.1 d HD16.out), hH.below⟩
            · simp only [List.getElem_toArray, List.getElem_cons_succ, List.getElem_cons_zero]
              obtain ⟨q, hq⟩ : ∃ q, W0.drew.heap.size = q := ⟨_, rfl⟩
              have HTq := hid (show (W0.drew.alloc (.cells #[.int .u8 0, .int .u8 0, .int .u8 0, .int .u8 0, .int .u8 0, .int .u8 0, .int .u8 0, .int .u8 0, .int .u8 0, .int .u8 0, .int .u8 0, .int .u8 0, .int .u8 0, .int .u8 0, .int .u8 0, .int .u8 0] 28)).there q 0 16 ∧ q < (W0.drew.alloc (.cells #[.int .u8 0, .int .u8 0, .int .u8 0, .int .u8 0, .int .u8 0, .int .u8 0, .int .u8 0, .int .u8 0, .int .u8 0, .int .u8 0, .int .u8 0, .int .u8 0, .int .u8 0, .int .u8 0, .int .u8 0, .int .u8 0] 28)).heap.size by rw [← hq]; exact ⟨alloc_there W0.drew #[.int .u8 0, .int .u8 0, .int .u8 0, .int .u8 0, .int .u8 0, .int .u8 0, .int .u8 0, .int .u8 0, .int .u8 0, .int .u8 0, .int .u8 0, .int .u8 0, .int .u8 0, .int .u8 0, .int .u8 0, .int .u8 0] 28 16 rfl, by simp⟩)
              have HNq := hid (show _ ≤ q by rw [← hq]; exact hH.below.size)
              have hb5 := below_alloc W0.drew (.cells #[.int .u8 0, .int .u8 0, .int .u8 0, .int .u8 0, .int .u8 0, .int .u8 0, .int .u8 0, .int .u8 0, .int .u8 0, .int .u8 0, .int .u8 0, .int .u8 0, .int .u8 0, .int .u8 0, .int .u8 0, .int .u8 0] 28)
              clear hb5
              go_simp
              first | rw [hq] | (simp at hq; rw [hq]) | skip
              refine hK.out _ _ ?_ (fun hH => ?_)
              · exact hH.alloc HB0S.out _
              clear hK K
              try simp only [Act.put, List.setIfInBounds_toArray, List.set_cons_zero, List.set_cons_succ]
              refine wpAnyH_ready (rs := [10]) (by kernel_rfl) (by simp) ?_
              refine AllReadyH.cons rfl (fun K hK => ?_) AllReadyH.nil
              simp only [List.getElem_toArray, List.getElem_cons_succ, List.getElem_cons_zero]
              go_simp
              (with_reducible refine (HW.out _ hH.below).mono ?_)
              rintro e z5 ⟨rfl, hb5⟩
              have HTq := hid (keepT2 HTq.out hb5)
              have HBS := hid hb5
              clear hb5
              go_wp2_with fail
              refine hK.out _ _ ?_ (fun hH => ?_)
              · exact hH.call HBS.out HB0S.out
              clear hK K
              try simp only [Act.put, List.setIfInBounds_toArray, List.set_cons_zero, List.set_cons_succ]
              refine wpAnyH_take (i := 11) (v := ?_) rfl (by kernel_rfl) (by kernel_rfl) (by kernel_rfl) (fun _ _ _ h => h) (Or.inl ⟨by rfl, ?_⟩) hH ?_
              rotate_left
              · (intro w hSw; simp only [List.getElem_toArray, List.getElem_cons_succ, List.getElem_cons_zero]; first | (go_simp; done) | (go_simp; with_reducible rfl))
              simp only [List.getElem_toArray, List.getElem_cons_succ, List.getElem_cons_zero, Act.put, List.setIfInBounds_toArray, List.set_cons_zero, List.set_cons_succ]
              refine wpAnyH_take (i := 12) (v := ?_) rfl (by kernel_rfl) (by kernel_rfl) (by kernel_rfl) (fun _ _ _ h => h) (Or.inl ⟨by rfl, ?_⟩) hH ?_
              rotate_left
              · (intro w hSw; simp only [List.getElem_toArray, List.getElem_cons_succ, List.getElem_cons_zero]; first | (go_simp; done) | (go_simp; with_reducible rfl))
              simp only [List.getElem_toArray, List.getElem_cons_succ, List.getElem_cons_zero, Act.put, List.setIfInBounds_toArray, List.set_cons_zero, List.set_cons_succ]
              refine wpAnyH_take (i := 13) (v := ?_) rfl (by kernel_rfl) (by kernel_rfl) (by kernel_rfl) (fun _ _ _ h => h) (Or.inl ⟨by rfl, ?_⟩) hH ?_
              rotate_left
              · (intro w hSw; simp only [List.getElem_toArray, List.getElem_cons_succ, List.getElem_cons_zero]; first | (go_simp; done) | (go_simp; with_reducible rfl))
              simp only [List.getElem_toArray, List.getElem_cons_succ, List.getElem_cons_zero, Act.put, List.setIfInBounds_toArray, List.set_cons_zero, List.set_cons_succ]
              refine wpAnyH_ready (rs := [15]) (by kernel_rfl) (by simp) ?_
              refine AllReadyH.cons rfl (fun K hK => ?_) AllReadyH.nil
              simp only [List.getElem_toArray, List.getElem_cons_succ, List.getElem_cons_zero]
              rw [if_pos (by rfl)]
              refine wp_store_mid _ _ _ rfl q 0 _ rfl rfl (there16 HTq.out.1 d HD16.out) (info16a d HD16.out) (all_u8 d) ?_
              refine hK.out _ _ ?_ (fun hH => ?_)
              · exact hH.store (Nat.le_trans HB0S.out HNq.out) (fun p hp => by rw [List.mem_singleton.1 hp]; have := HNq.out; simp only; omega) _ _
              clear hK K
              try simp only [Act.put]
              refine wpAnyH_take (i := 16) (v := ?_) rfl (by kernel_rfl) (by kernel_rfl) (by kernel_rfl) (fun _ _ _ h => h) (Or.inl ⟨by rfl, ?_⟩) hH ?_
              rotate_left
              · (intro w hSw; simp only [List.getElem_toArray, List.getElem_cons_succ, List.getElem_cons_zero]; first | (go_simp; done) | (go_simp; with_reducible rfl))
              simp only [List.getElem_toArray, List.getElem_cons_succ, List.getElem_cons_zero, Act.put, List.setIfInBounds_toArray, List.set_cons_zero, List.set_cons_succ]
              refine wpAnyH_done (by kernel_rfl) ?_ _
              refine NoPanic.normal ?_
              go_wp2_with fail
              go_meet
              case rel => exact ⟨q, by first | rfl | (rw [hq]), rfl, HNq.out, by rw [size_setCells]; exact HTq.out.2, World.rangeAt_setCells_same _ _ _ _ (there16 HTq.out.1 d HD16.out), hH.below⟩
          case rest =>
            rename World => W2
            obtain ⟨q, rfl, rfl, hq1, hq2, hq3, hb2⟩ := hcut
            have HB2 := hid hb2
            have HT2 := hid (HT.out.keep hb2)
            have hB1 := HB1.out
            have HTH2 := hid (there_keep HTH.out hb2 (by omega))
            have HTH9 := hid (show W2.drew.there (w.heap.size + 1) 0 16 ∧ w.heap.size + 1 < W2.drew.heap.size from ⟨HTH2.out, by have := hb2.size; simp; omega⟩)
            have HL9 := hid (show ∀ p ∈ [(q, 0, d), (b, off + (proof.length - 1) * 16, x)], W2.rangeAt p.1 p.2.1 (p.2.2.map u8) ∧ p.1 < W2.heap.size from fun p hp => by
              simp only [List.mem_cons, List.not_mem_nil, or_false] at hp
              rcases hp with rfl | rfl
              · exact ⟨hq3, hq2⟩
              · exact ⟨range_keep HX.out hb2 hbl, by have := hb2.size; simp only; omega⟩)
            have HNE := hid (show ∀ p ∈ [(q, 0, d), (b, off + (proof.length - 1) * 16, x)], p.1 ≠ w.heap.size + 1 from fun p hp => by
              simp only [List.mem_cons, List.not_mem_nil, or_false] at hp
              rcases hp with rfl | rfl
              · simp only; omega
              · have := HBO.out; simp only; omega)
            clear hq3 hb2
            go_wp2_with fail
            have HB0S := hid (show w.heap.size + 1 ≤ W2.heap.size from (by have := HB2.out.size; omega))
            refine wp_region_noPanic ?_
            refine wp_region_held_drew (S := Sx (w.heap.size + 1) W2 [(q, 0, d), (b, off + (proof.length - 1) * 16, x)]) (by kernel_rfl) (Sx.start (HL9.out)) (fun hH => ?_)
            refine wpAnyH_take (i := 0) (v := ?_) rfl (by kernel_rfl) (by kernel_rfl) (by kernel_rfl) (fun _ _ _ h => h) (Or.inl ⟨by rfl, ?_⟩) hH ?_
            rotate_left
            · (intro w hSw; simp only [List.getElem_toArray, List.getElem_cons_zero]; first | (go_simp; done) | (go_simp; with_reducible rfl))
            simp only [List.getElem_toArray, List.getElem_cons_zero, Act.put, List.setIfInBounds_toArray, List.set_cons_zero, List.set_cons_succ]
            refine wpAnyH_take (i := 1) (v := ?_) rfl (by kernel_rfl) (by kernel_rfl) (by kernel_rfl) (fun _ _ _ h => h) (Or.inl ⟨by rfl, ?_⟩) hH ?_
            rotate_left
            · (intro w hSw; simp only [List.getElem_toArray, List.getElem_cons_succ, List.getElem_cons_zero]; first | (go_simp; done) | (go_simp; with_reducible rfl))
            simp only [List.getElem_toArray, List.getElem_cons_succ, List.getElem_cons_zero, Act.put, List.setIfInBounds_toArray, List.set_cons_zero, List.set_cons_succ]
            refine wpAnyH_take (i := 2) (v := ?_) rfl (by kernel_rfl) (by kernel_rfl) (by kernel_rfl) (fun _ _ _ h => h) (Or.inl ⟨by rfl, ?_⟩) hH ?_
            rotate_left
            · (intro w hSw; simp only [List.getElem_toArray, List.getElem_cons_succ, List.getElem_cons_zero]; first | (go_simp; done) | (go_simp; with_reducible rfl))
            simp only [List.getElem_toArray, List.getElem_cons_succ, List.getElem_cons_zero, Act.put, List.setIfInBounds_toArray, List.set_cons_zero, List.set_cons_succ]
            refine wpAnyH_take (i := 3) rfl (by kernel_rfl) (by kernel_rfl) (by kernel_rfl) (fun _ _ _ h => h) (yieldsIf_load_mid (by rfl) _ _ rfl b (off + (proof.length - 1) * 16) rfl (x.map u8) _ (fun w h => Sx.get h (k := 1) rfl) under28 rfl (info16 x hx16)) hH ?_
            simp only [List.getElem_toArray, List.getElem_cons_succ, List.getElem_cons_zero, Act.put, List.setIfInBounds_toArray, List.set_cons_zero, List.set_cons_succ]
            refine wpAnyH_take (i := 4) rfl (by kernel_rfl) (by kernel_rfl) (by kernel_rfl) (fun _ _ _ h => h) (yieldsIf_load_mid (by rfl) _ _ rfl q 0 rfl (d.map u8) _ (fun w h => Sx.get h (k := 0) rfl) under28 rfl (info16 d HD16.out)) hH ?_
            simp only [List.getElem_toArray, List.getElem_cons_succ, List.getElem_cons_zero, Act.put, List.setIfInBounds_toArray, List.set_cons_zero, List.set_cons_succ]
            refine wpAnyH_take (i := 6) (v := ?_) rfl (by kernel_rfl) (by kernel_rfl) (by kernel_rfl) (fun _ _ _ h => h) (Or.inl ⟨by rfl, ?_⟩) hH ?_
            rotate_left
            · (intro w hSw; simp only [List.getElem_toArray, List.getElem_cons_succ, List.getElem_cons_zero]; first | (go_simp; done) | (go_simp; with_reducible rfl))
            simp only [List.getElem_toArray, List.getElem_cons_succ, List.getElem_cons_zero, Act.put, List.setIfInBounds_toArray, List.set_cons_zero, List.set_cons_succ]
            refine wpAnyH_ready (rs := [5]) (by kernel_rfl) (by simp) ?_
            refine AllReadyH.cons rfl (fun K hK => ?_) AllReadyH.nil
            simp only [List.getElem_toArray, List.getElem_cons_succ, List.getElem_cons_zero]
            go_simp
            (with_reducible refine (HN.out _ (HT2.out.keepN (show 1 < w.heap.size + 1 by have := HB1.out; omega) hH.below)).mono ?_)
            rintro e z6 ⟨rfl, hb5⟩
            have HTH9 := hid (keepT2 HTH9.out hb5)
            have HBS := hid hb5
            clear hb5
            go_wp2_with fail
            refine hK.out _ _ ?_ (fun hH => ?_)
            · exact hH.call HBS.out HB0S.out
            clear hK K
            try simp only [Act.put, List.setIfInBounds_toArray, List.set_cons_zero, List.set_cons_succ]
            refine wpAnyH_ready (rs := [7]) (by kernel_rfl) (by simp) ?_
            refine AllReadyH.cons rfl (fun K hK => ?_) AllReadyH.nil
            simp only [List.getElem_toArray, List.getElem_cons_succ, List.getElem_cons_zero]
            rw [if_pos (by rfl)]
            refine wp_store_mid _ _ _ rfl (w.heap.size + 1) 0 _ rfl rfl (there16 HTH9.out.1 dn HDN.out) (info16a dn HDN.out) (all_u8 dn) ?_
            refine hK.out _ _ ?_ (fun hH => ?_)
            · exact hH.store (Nat.le_refl _) (HNE.out) _ _
            clear hK K
            try simp only [Act.put]
            refine wpAnyH_take (i := 8) (v := ?_) rfl (by kernel_rfl) (by kernel_rfl) (by kernel_rfl) (fun _ _ _ h => h) (Or.inl ⟨by rfl, ?_⟩) hH ?_
            rotate_left
            · (intro w hSw; simp only [List.getElem_toArray, List.getElem_cons_succ, List.getElem_cons_zero]; first | (go_simp; done) | (go_simp; with_reducible rfl))
            simp only [List.getElem_toArray, List.getElem_cons_succ, List.getElem_cons_zero, Act.put, List.setIfInBounds_toArray, List.set_cons_zero, List.set_cons_succ]
            refine wpAnyH_done (by kernel_rfl) ?_ _
            refine NoPanic.normal ?_
            go_wp2_with fail
            refine bodyPost_ret (ret_dig2 rfl _ _ (w.heap.size + 1) _ HDN.out rfl HTH9.out.1) rfl ?_
            rw [HE.out]
            exact ⟨rfl, HB0.out.trans ((HB2.out.mono HB0.out.size).trans (hH.below.mono (Nat.le_succ _)))⟩
          --]E
end Go.Proofs.YtbjfkliijhnloaaDoor
