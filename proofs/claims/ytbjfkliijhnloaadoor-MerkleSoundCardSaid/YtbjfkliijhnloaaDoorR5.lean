/- The reference's trees: bootchainref03's Leaf, Node, Root. -/
import Derived.Test.YtbjfkliijhnloaaDoorR4
import Derived.Test.YtbjfkliijhnloaaDoorD2
namespace Go.Proofs.YtbjfkliijhnloaaDoor
open Go.RowKit
set_option linter.unusedVariables false

theorem digest1_1 (a : Option Addr) (n c : Nat) (ps : List (List UInt8)) (w : World) (hT : Tab w) (hn : n = ps.length) (hps : PartsB w.heap.size w a ps) (hM : ∀ p ∈ ps, p.length ≤ 1000000000) (hk : ps.length ≤ 100) :
    Calls Tryd.prog 45 #[.int .i64 1, .slice a n c] w fun e w' => e = .returned (dv (digest 1 ps)) ∧ Below w.heap.size w w' := digest1_any 1 (by omega) a n c ps w hn hps hM hk
theorem digest1_2 (a : Option Addr) (n c : Nat) (ps : List (List UInt8)) (w : World) (hT : Tab w) (hn : n = ps.length) (hps : PartsB w.heap.size w a ps) (hM : ∀ p ∈ ps, p.length ≤ 1000000000) (hk : ps.length ≤ 100) :
    Calls Tryd.prog 45 #[.int .i64 2, .slice a n c] w fun e w' => e = .returned (dv (digest 2 ps)) ∧ Below w.heap.size w w' := digest1_any 2 (by omega) a n c ps w hn hps hM hk

set_option maxRecDepth 100000 in
set_option maxHeartbeats 1000000 in
theorem leaf1_any (d : List UInt8) (hd : d.length = 16) (w : World) (hT : Tab w) :
    Calls Tryd.prog 46 #[.agg (d.map u8).toArray] w fun e w' => e = .returned (dv (leafD d)) ∧ Below w.heap.size w w' := by
  have HT := hid hT
  have HD := hid hd
  clear hT
  have hs : (List.map u8 d).toArray.size = 16 := by simp [hd]
  obtain ⟨L, hL⟩ : ∃ L, leafD d = L := ⟨_, rfl⟩
  have HL := hid (show L.length = 16 by rw [← hL]; exact leafD_length d)
  have HLE := hid (show digest 1 [d] = L from hL)
  have HI2 := hid (info16a L HL.out)
  have HA := hid (all_u8 L)
  rw [hL]
  clear hL
  have HC := hid (fun (Z : Array Value) t t' t'' => digest1_1 (some ⟨w.heap.size + 1 + 1, 0, none⟩) 1 1 [d] (((w.alloc (.cells (d.map u8).toArray t)).alloc (.cells Z t')).alloc (.cells #[.slice (some ⟨w.heap.size, 0, none⟩) 16 16] t'')) (HT.out.keep (below_alloc3 _ _ _ _)) rfl (leaf_parts w d hd t t' t'' Z) (by simp [hd]) (by simp))
  have HTH := hid (there_mid w)
  go_enter Tryd.func46, Tryd.ntmps46
  go_wp2_with (first
    | (go_at_call 45; (with_reducible refine (HC.out _ _ _ _).mono ?_); rw [HLE.out]; rintro e w3 ⟨rfl, hb3⟩; have HB3 := hid ((below_alloc3 _ _ _ _).trans (hb3.mono (below_alloc3 _ _ _ _).size)); have HTH3 := hid (there_keep (HTH.out _ rfl _ _ _) hb3 (by first | (simp; done) | (simp; omega))); clear hb3)
    | (refine wpList_store_mid rfl _ _ _ rfl (w.heap.size + 1) 0 _ rfl rfl (there16 HTH3.out _ HL.out) HI2.out HA.out ?_))
  refine bodyPost_ret (ret_dig rfl _ _ (w.heap.size + 1) _ HL.out rfl HTH3.out) rfl ⟨rfl, ?_⟩
  exact below_setCells (by omega) _ _ _ HB3.out

set_option maxRecDepth 100000 in
set_option maxHeartbeats 1000000 in
theorem node1_any (l r : List UInt8) (hl : l.length = 16) (hr : r.length = 16) (w : World) (hT : Tab w) :
    Calls Tryd.prog 47 #[.agg (l.map u8).toArray, .agg (r.map u8).toArray] w fun e w' => e = .returned (dv (nodeD l r)) ∧ Below w.heap.size w w' := by
  have HT := hid hT
  clear hT
  have hs1 : (List.map u8 l).toArray.size = 16 := by simp [hl]
  have hs2 : (List.map u8 r).toArray.size = 16 := by simp [hr]
  obtain ⟨L, hL⟩ : ∃ L, nodeD l r = L := ⟨_, rfl⟩
  have HL := hid (show L.length = 16 by rw [← hL]; exact nodeD_length l r)
  have HLE := hid (show digest 2 [l, r] = L from hL)
  have HI2 := hid (info16a L HL.out)
  have HA := hid (all_u8 L)
  rw [hL]
  clear hL
  have HC := hid (fun (Z : Array Value) t t1 t' t'' => digest1_2 (some ⟨w.heap.size + 1 + 1 + 1, 0, none⟩) 2 2 [l, r] ((((w.alloc (.cells (l.map u8).toArray t)).alloc (.cells (r.map u8).toArray t1)).alloc (.cells Z t')).alloc (.cells #[.slice (some ⟨w.heap.size, 0, none⟩) 16 16, .slice (some ⟨w.heap.size + 1, 0, none⟩) 16 16] t'')).drew (HT.out.keep (below_alloc4d _ _ _ _ _)) rfl (node_parts w l r hl hr t t1 t' t'' Z) (by simp [hl, hr]) (by simp))
  have HTH := hid (there_mid2 w)
  have hone := one_u8 L
  have hinf := HI2.out
  go_enter Tryd.func47, Tryd.ntmps47
  go_wp2_with fail
  go_region_held3 (fun W => True) (trivial) (first
    | (go_at_call 45; (with_reducible refine (HC.out _ _ _ _ _).mono ?_); rw [HLE.out]; rintro e w3 ⟨rfl, hb3⟩; have HB3 := hid ((below_alloc4d _ _ _ _ _).trans (hb3.mono (below_alloc4d _ _ _ _ _).size)); have HTH3 := hid (there_keep (HTH.out _ rfl _ _ _ _) hb3 (by first | (simp; done) | (simp; omega))); have hth := there16 HTH3.out L HL.out; clear hb3))
  go_wp2_with fail
  refine bodyPost_ret (ret_dig rfl _ _ (w.heap.size + 1 + 1) _ HL.out rfl HTH3.out) rfl ⟨rfl, ?_⟩
  exact below_setCells (by omega) _ _ _ HB3.out

set_option maxRecDepth 100000 in
set_option maxHeartbeats 2000000 in
theorem root1_any (f : Nat) : ∀ (ds : List (List UInt8)) (a : Option Addr) (n c : Nat) (w : World), ds.length < f → All16 ds → Tab w → n = ds.length → n ≤ c → n ≤ 1000000 → DigB w.heap.size w a ds →
    Calls Tryd.prog 19 #[.slice a n c] w fun e w' => e = .returned (dv (rootF ds)) ∧ Below w.heap.size w w' := by
  induction f with
  | zero => intro ds a n c w h; omega
  | succ f ih =>
    intro ds a n c w hf h16 hT hn hc hn2 hds
    subst hn
    have HIH := hid ih
    have HT := hid hT
    have HDS := hid hds
    have H16 := hid h16
    obtain ⟨L, hL⟩ : ∃ L, rootF ds = L := ⟨_, rfl⟩
    have HL := hid (show L.length = 16 by rw [← hL]; exact rootF_length ds)
    have hinf := info16a L HL.out
    have hone := one_u8 L
    rw [hL]
    have HLE := hid hL
    have HTH := hid (fun Z (h : Array.size Z = 16) => alloc_there w Z 28 16 h)
    clear hT hds h16 hL ih
    by_cases h0 : ds.length = 0
    · obtain rfl := List.length_eq_zero_iff.1 h0
      have HC := hid (fun (Z : Array Value) => digest1_1 none 0 0 [] (w.alloc (.cells Z 28)) (HT.out.keep (below_alloc _ _)) rfl (fun i hi => by cases hi) (by simp) (by simp))
      have HLE2 := hid (show digest 1 [] = L from HLE.out)
      go_enter Tryd.func19, Tryd.ntmps19
      go_wp2_with (first
        | (go_at_call 45; (with_reducible refine (HC.out _).mono ?_); rw [HLE2.out]; rintro e w3 ⟨rfl, hb3⟩; have HTH3 := hid (there_keep (HTH.out _ rfl) hb3 (by simp)); have HB3 := hid ((below_alloc w _).trans (hb3.mono (below_alloc w _).size)); clear hb3)
        | (refine wpList_store_mid rfl _ _ _ rfl w.heap.size 0 _ rfl rfl (there16 HTH3.out _ HL.out) hinf (all_u8 L) ?_))
      refine bodyPost_ret (ret_dig rfl _ _ w.heap.size _ HL.out rfl HTH3.out) rfl ⟨rfl, ?_⟩
      exact below_setCells (Nat.le_refl _) _ _ _ HB3.out
    · by_cases h1 : ds.length = 1
      · obtain ⟨d, rfl⟩ := List.length_eq_one_iff.1 h1
        have hd16 := H16.out d (by simp)
        obtain ⟨b, off, rfl, hb, hlt, hr⟩ := HDS.out 0 (by simp)
        have HR := hid (fun o => range_keep hr (below_alloc w o) hb)
        have HI := hid (info16 d hd16)
        have HC := hid (fun (Z : Array Value) => leaf1_any d hd16 (w.alloc (.cells Z 28)) (HT.out.keep (below_alloc _ _)))
        have HLE2 := hid (show leafD d = L from HLE.out)
        clear hr
        go_enter Tryd.func19, Tryd.ntmps19
        go_wp2_with (first
          | (refine wpList_load_mid rfl _ _ rfl b (off + 16 * 0) rfl _ _ (HR.out _) rfl rfl HI.out ?_)
          | (go_at_call 46; (with_reducible refine (HC.out _).mono ?_); rw [HLE2.out]; rintro e w3 ⟨rfl, hb3⟩; have HTH3 := hid (there_keep (HTH.out _ rfl) hb3 (by simp)); have HB3 := hid ((below_alloc w _).trans (hb3.mono (below_alloc w _).size)); clear hb3)
          | (refine wpList_store_mid rfl _ _ _ rfl w.heap.size 0 _ rfl rfl (there16 HTH3.out _ HL.out) hinf (all_u8 L) ?_))
        refine bodyPost_ret (ret_dig rfl _ _ w.heap.size _ HL.out rfl HTH3.out) rfl ⟨rfl, ?_⟩
        exact below_setCells (Nat.le_refl _) _ _ _ HB3.out
      · have hk := splitF_spec (show 1 < ds.length by omega)
        obtain ⟨k, hke⟩ : ∃ k, splitF ds.length = k := ⟨_, rfl⟩
        have hcl := HDS.out 0 (by omega)
        obtain ⟨b, off, rfl, -, -, -⟩ := hcl
        have HSP := hid (split3_any ds.length · (by omega) (by omega))
        rw [hke] at hk HSP
        have lt : (ds.take k).length = k := by rw [List.length_take]; omega
        have ld : (ds.drop k).length = ds.length - k := by rw [List.length_drop]
        have HLT := hid (fun (W : World) (hb : Below w.heap.size w W) => HIH.out (ds.take k) (some ⟨b, off, none⟩) k c W (by omega) (H16.out.take k) (HT.out.keep hb) lt.symm (by omega) (by omega) (((HDS.out.take k).keep hb).mono hb.size))
        have HRT := hid (fun (W : World) (hb : Below w.heap.size w W) => HIH.out (ds.drop k) (some ⟨b, off + k * 16, none⟩) (ds.length - k) (c - k) W (by omega) (H16.out.drop k) (HT.out.keep hb) ld.symm (by omega) (by omega) (((HDS.out.drop k).keep hb).mono hb.size))
        obtain ⟨x, hx⟩ : ∃ x, rootF (ds.take k) = x := ⟨_, rfl⟩
        obtain ⟨y, hy⟩ : ∃ y, rootF (ds.drop k) = y := ⟨_, rfl⟩
        have hx16 : x.length = 16 := by rw [← hx]; exact rootF_length _
        have hy16 : y.length = 16 := by rw [← hy]; exact rootF_length _
        have HLE2 := hid (show nodeD x y = L by rw [← HLE.out, rootF_more (by omega), hke, hx, hy])
        have HN := hid (fun (W : World) (hT : Tab W) => node1_any x y hx16 hy16 W hT)
        rw [hx] at HLT
        rw [hy] at HRT
        have b1 : ¬ ((ds.length : Int) = 0) := by omega
        have b2 : ¬ ((ds.length : Int) = 1) := by omega
        have HTHd := hid (fun (Z : Array Value) (h : Z.size = 16) => (show (w.alloc (.cells Z 28)).drew.there w.heap.size 0 16 from HTH.out Z h))
        have k0 : (0 : Int) ≤ (k : Int) := by omega
        have k1 : (k : Int) ≤ (ds.length : Int) := by omega
        have k2 : (k : Int) ≤ (c : Int) := by omega
        have k3 : (ds.length : Int) ≤ (c : Int) := by omega
        clear lt ld hx hy hke hx16 hy16
        go_enter Tryd.func19, Tryd.ntmps19
        go_wp2_with ((with_reducible refine (HSP.out _).mono ?_); rintro e w2 ⟨rfl, rfl⟩)
        go_region_held3 (fun W => True) (trivial) (first
          | (go_at_call 19; (with_reducible refine (HLT.out _ (below_alloc w _).drew).mono ?_); rintro e w3 ⟨rfl, hb3⟩; have HTH3 := hid (there_keep (HTHd.out _ rfl) hb3 (by simp)); have HB3 := hid ((below_alloc w _).drew.trans (hb3.mono (below_alloc w _).size)); have HZ3 := hid (Nat.lt_of_lt_of_le (show w.heap.size < (w.alloc _).drew.heap.size by simp) hb3.size); clear hb3)
          | (go_at_call 19; (with_reducible refine (HRT.out _ HB3.out).mono ?_); rintro e w4 ⟨rfl, hb4⟩; have HTH4 := hid (there_keep HTH3.out hb4 HZ3.out); have HB4 := hid (HB3.out.trans (hb4.mono HB3.out.size)); have HZ4 := hid (Nat.lt_of_lt_of_le HZ3.out hb4.size); clear hb4)
          | (go_at_call 47; (with_reducible refine (HN.out _ (HT.out.keep HB4.out)).mono ?_); rw [HLE2.out]; rintro e w5 ⟨rfl, hb5⟩; have HTH5 := hid (there_keep HTH4.out hb5 HZ4.out); have HB5 := hid (HB4.out.trans (hb5.mono HB4.out.size)); have hth := there16 HTH5.out L HL.out; clear hb5))
        go_wp2_with fail
        refine bodyPost_ret (ret_dig rfl _ _ w.heap.size _ HL.out rfl HTH5.out) rfl ⟨rfl, ?_⟩
        exact below_setCells (Nat.le_refl _) _ _ _ HB5.out
end Go.Proofs.YtbjfkliijhnloaaDoor
