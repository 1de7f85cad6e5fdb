/- The reference's digests: bootchainref02's short and Digest. -/
import Derived.Test.YtbjfkliijhnloaaDoorR3
import Derived.Test.YtbjfkliijhnloaaDoorD0
namespace Go.Proofs.YtbjfkliijhnloaaDoor
open Go.RowKit
set_option linter.unusedVariables false

theorem Arr.start16 (W : World) (Z : Array Value) (t : TypeId) (hZ : Z.size = 16) (r : List UInt8) (hr : r.length = 16) : Arr W W.heap.size r ((W.alloc (.cells Z t)).setCells W.heap.size 0 (r.map u8).toArray.toList) :=
  ⟨below_setCells (Nat.le_refl _) _ _ _ (below_alloc W _), World.rangeAt_setCells_same _ _ _ _ (by have := alloc_there W Z t 16 hZ; simpa [hr] using this), by rw [hr]; exact World.there_setCells (alloc_there W Z t 16 hZ) _ _ _, by rw [size_setCells']; simp, Nat.le_refl _⟩
theorem take_take16 (S : List UInt8) (k : Nat) (h : k ≤ 16) : (S.take 16).take k = S.take k := by rw [List.take_take, Nat.min_eq_left h]

theorem range_cell {W : World} {b : Nat} {S : List UInt8} (h : W.rangeAt b 0 (S.map u8)) (k : Nat) (hk : k < S.length) : W.cell? ⟨b, k, none⟩ = some (.int .u8 (n8 S[k])) := by
  have := h k (u8 S[k]) (by simp [hk])
  rwa [Nat.zero_add] at this

set_option maxRecDepth 100000 in
set_option maxHeartbeats 1000000 in
theorem short1_any (S : List UInt8) (h32 : S.length = 32) (w : World) :
    Calls Tryd.prog 63 #[.agg (S.map u8).toArray] w fun e w' => e = .returned (dv (S.take 16)) ∧ Below w.heap.size w w' := by
  have hs : (S.map u8).toArray.size = 32 := by simp [h32]
  obtain ⟨W0, hW0⟩ : ∃ W0, (w.alloc (.cells (S.map u8).toArray 80)).alloc (.cells (Array.replicate 16 (.int .u8 0)) 28) = W0 := ⟨_, rfl⟩
  have hW0' : (w.alloc (.cells (S.map u8).toArray 80)).alloc (.cells #[.int .u8 0, .int .u8 0, .int .u8 0, .int .u8 0, .int .u8 0, .int .u8 0, .int .u8 0, .int .u8 0, .int .u8 0, .int .u8 0, .int .u8 0, .int .u8 0, .int .u8 0, .int .u8 0, .int .u8 0, .int .u8 0] 28) = W0 := hW0
  have HB0 := hid (show Below w.heap.size w W0 by rw [← hW0]; exact (below_alloc w _).alloc (by simp) _)
  have hz0 : w.heap.size + 1 < W0.heap.size := by rw [← hW0]; simp
  have HR0 := hid (show W0.rangeAt w.heap.size 0 (S.map u8) by rw [← hW0]; exact range_keep (by simpa using alloc_range w (S.map u8).toArray 80) (below_alloc _ _) (by simp))
  have HT0 := hid (show W0.there (w.heap.size + 1) 0 16 by rw [← hW0]; have := alloc_there (w.alloc (.cells (S.map u8).toArray 80)) (Array.replicate 16 (.int .u8 0)) 28 16 (by simp); rwa [World.size_alloc] at this)
  have HW0 := hid hW0'
  have HZT := hid (fun cs t (h : cs.size = 16) => alloc_there W0 cs t 16 h)
  clear hW0 hW0'
  go_enter Tryd.func63, Tryd.ntmps63
  go_upto_region 1 with (fail)
  rw [HW0.out]
  go_wp2_with (refine wpList_store_mid rfl _ _ _ rfl W0.heap.size 0 ((List.replicate 16 (0 : UInt8)).map u8).toArray rfl rfl (HZT.out _ _ rfl) (info16a (List.replicate 16 (0 : UInt8)) rfl) (all_u8 (List.replicate 16 0)) ?_)
  have HL16 := hid (show (S.take 16).length = 16 by rw [List.length_take, h32]; rfl)
  go_loopw [4] (fun i W => ∃ k : Nat, k ≤ 16 ∧ i = .int .i64 k ∧ Arr W0 W0.heap.size ((S.take 16).take k ++ List.replicate (16 - k) 0) W) (fun i _ => 16 - (intOf i).toNat)
  case atStart => exact ⟨0, by omega, rfl, Arr.start16 W0 _ _ rfl _ rfl⟩
  case round =>
    obtain ⟨k, hk, rfl, harr⟩ := hrel
    have HAR := hid harr
    clear harr
    by_cases hlt : k < 16
    ·
      --[A
      have k1 : (k : Int) < 16 := by omega
      have k3 : (k : Int) < 32 := by omega
      have k0 : (0 : Int) ≤ (k : Int) := by omega
      have hr := range_cell HR0.out k (by omega)
      have hlen : ((S.take 16).take k ++ List.replicate (16 - k) 0).length = 16 := by rw [List.length_append, List.length_take, List.length_replicate, HL16.out]; omega
      have fa := (HAR.out.cell k (by rw [hlen]; exact hlt)).2
      obtain ⟨y, ca⟩ : ∃ y, wr.cell? ⟨W0.heap.size, k, none⟩ = some y := ⟨_, (HAR.out.cell k (by rw [hlen]; exact hlt)).1⟩
      have hget : (S.take 16)[k]? = some S[k] := by rw [List.getElem?_take, if_pos hlt, List.getElem?_eq_getElem]
      have cv : wr.cell? ⟨w.heap.size, k, none⟩ = some (.int .u8 (n8 S[k])) := by
        rw [HAR.out.below.cell (p := ⟨w.heap.size, k, none⟩) (by simp only; omega)]; exact hr
      have HNX := hid (set_next (S.take 16) k 16 _ hget hlt)
      have HLE := hid (show k < ((S.take 16).take k ++ List.replicate (16 - k) 0).length by rw [hlen]; exact hlt)
      obtain ⟨x, hx⟩ : ∃ x, S[k] = x := ⟨_, rfl⟩
      rw [hx] at cv
      have HX := hid hx
      clear hlen hget hx hr
      go_wp2_with fail
      go_roundw
      case rel => exact ⟨k + 1, by omega, by go_num, by rw [← HNX.out, HX.out]; exact HAR.out.put k _ HLE.out⟩
      case measure => simp [intOf]; omega
      --]A
    · obtain rfl : k = 16 := by omega
      have e16 : ((16 : Nat) : Int) = 16 := rfl
      rw [e16]
      have hfull : (S.take 16).take 16 ++ List.replicate (16 - 16) 0 = S.take 16 := by rw [List.take_of_length_le (by rw [HL16.out]; exact Nat.le_refl _)]; simp
      rw [hfull] at HAR
      obtain ⟨r, hr⟩ : ∃ r, S.take 16 = r := ⟨_, rfl⟩
      rw [hr] at HAR HL16
      have HRE := hid hr
      clear hr
      have HI := hid (info16 r HL16.out)
      have HI2 := hid (info16a r HL16.out)
      have HTH := hid (show wr.there (w.heap.size + 1) 0 16 from there_keep HT0.out HAR.out.below (by omega))
      clear e16 hfull
      go_wp2_with (first
        | (refine wpList_load_mid rfl _ _ rfl W0.heap.size 0 rfl _ _ HAR.out.rg rfl rfl HI.out ?_)
        | (refine wpList_store_mid rfl _ _ _ rfl (w.heap.size + 1) 0 _ rfl rfl (there16 HTH.out _ HL16.out) HI2.out (all_u8 r) ?_))
      refine bodyPost_ret (ret_dig rfl _ _ (w.heap.size + 1) _ HL16.out rfl HTH.out) rfl ⟨by rw [HRE.out], ?_⟩
      exact below_setCells (by omega) _ _ _ (HB0.out.trans (HAR.out.below.mono HB0.out.size))

set_option maxRecDepth 100000 in
set_option maxHeartbeats 1000000 in
theorem digest1_any (tag : Nat) (htag : tag < 256) (a : Option Addr) (n c : Nat) (ps : List (List UInt8)) (w : World) (hn : n = ps.length) (hps : PartsB w.heap.size w a ps) (hM : ∀ p ∈ ps, p.length ≤ 1000000000) (hk : ps.length ≤ 100) :
    Calls Tryd.prog 45 #[.int .i64 tag, .slice a n c] w fun e w' => e = .returned (dv (digest (UInt8.ofNat tag) ps)) ∧ Below w.heap.size w w' := by
  subst hn
  have HP := hid hps; have HM := hid hM
  have hw8 : IntKind.u8.wrap (tag : Int) = tag := by simp [IntKind.wrap, IntKind.bits, IntKind.signed]; omega
  have HV8 := hid (val_u8 tag htag)
  have hfl := flatMap_length 1000000000 ps ps.length hM
  rw [List.take_of_length_le (Nat.le_refl _)] at hfl
  have hf2 : (10 + 1000000000) * ps.length ≤ (10 + 1000000000) * 100 := Nat.mul_le_mul_left _ hk
  have HLB := hid (show ([UInt8.ofNat tag] ++ ps.flatMap encBytes).length ≤ 1000000000000 by rw [List.length_append]; simp only [List.length_singleton]; omega)
  clear hps hM hfl hf2
  obtain ⟨d, hd⟩ : ∃ d, digest (UInt8.ofNat tag) ps = d := ⟨_, rfl⟩
  obtain ⟨S, hS⟩ : ∃ S, sum ([UInt8.ofNat tag] ++ ps.flatMap encBytes) = S := ⟨_, rfl⟩
  have HSL := hid (show S.length = 32 by rw [← hS]; exact sum_length _)
  have HSD := hid (show S.take 16 = d by rw [← hS, ← hd]; rfl)
  have HD := hid (show d.length = 16 by rw [← hd]; exact digest_length _ _)
  have HS := hid hS
  rw [hd]
  clear hS hd
  have HI2 := hid (info16a _ HD.out)
  have HA := hid (all_u8 d)
  have HB1 := hid (fun (o o' : Obj) => (show Below w.heap.size w ((w.alloc o).alloc o') from (below_alloc w o).alloc (by simp) _))
  have HO1 := hid (fun o => own_one (w.alloc o) (.int .u8 (tag : Int)) _ HV8.out)
  simp only [World.size_alloc] at HO1
  have HTH0 := hid (fun cs o (h : cs.size = 16) => there_keep (alloc_there w cs 28 16 h) (below_alloc (w.alloc (.cells cs 28)) o) (by simp))
  go_enter Tryd.func45, Tryd.ntmps45
  go_wp2_with fail
  go_loopw [5, 6] (fun o i wr => ∃ k : Nat, k ≤ ps.length ∧ i = .int .i64 k ∧ Own (w.heap.size + 1) wr o ([UInt8.ofNat tag] ++ (ps.take k).flatMap encBytes) ∧ Below w.heap.size w wr ∧ wr.there w.heap.size 0 16 ∧ w.heap.size + 1 ≤ wr.heap.size) (fun _ i _ => ps.length - (intOf i).toNat)
  case atStart => exact ⟨0, Nat.zero_le _, rfl, by simpa using HO1.out _, HB1.out _ _, HTH0.out _ _ rfl, by simp⟩
  case round =>
    clear HO1 HB1 HTH0
    obtain ⟨k, hk', rfl, hown, hbel, hth, hsz⟩ := hrel
    have HOW := hid hown; have HBE := hid hbel; have HTH := hid hth
    clear hown hbel hth
    by_cases hlt : k < ps.length
    ·
      --[B
      have b1 : (k : Int) < (ps.length : Int) := by omega
      have b0 : (0 : Int) ≤ (k : Int) := by omega
      obtain ⟨b, off, p, cc, rfl, hb, hlt', hc, hx⟩ := (HP.out.keep HBE.out) k hlt
      have HX := hid hx
      have hcv := conv_bytes wr p cc ps[k] hx.1
      have hpm := HM.out ps[k] (List.getElem_mem hlt)
      have hfl := flatMap_length 1000000000 ps k HM.out
      have hfk : (10 + 1000000000) * k ≤ (10 + 1000000000) * 100 := Nat.mul_le_mul_left _ (by omega)
      obtain ⟨part, hpt⟩ : ∃ part, ps[k] = part := ⟨_, rfl⟩
      have HFT := hid (flatMap_take ps k hlt)
      rw [hpt] at hc hcv hpm HFT
      have hel := encBytes_length part
      have HB := hid (bytes1_any ⟨part.toArray⟩ wr (by simp [ByteArray.size]; omega))
      have HL1 := hid (show ([UInt8.ofNat tag] ++ (ps.take k).flatMap encBytes).length + (encBytes part).length ≤ 100000000000000 by rw [List.length_append]; simp only [List.length_singleton]; omega)
      clear hx hpm hfl hfk hel hpt
      go_wp2_with (first
        | ((with_reducible refine (HB.out).mono ?_); rintro e w3 ⟨⟨v3, rfl, hv⟩, hb3⟩; obtain ⟨a3, c3, rfl, hz3, hq3, hx3⟩ := hv.form; have HX3 := hid hx3; have HZ3 := hid hz3; have HB3 := hid hb3; clear hv hb3 hx3 hq3 hz3)
        | (at_builtin; refine wp_app rfl _ _ rfl (w.heap.size + 1) _ _ (encBytes part) rfl (HOW.out.keep HB3.out) a3 _ c3 rfl rfl HZ3.out HX3.out HL1.out (Nat.le_trans hsz HB3.out.size) (fun v4 w4 hv4 hb4 => ?_); have HV4 := hid hv4; have HB4 := hid ((HB3.out.mono hsz).trans hb4); clear hv4 hb4))
      go_roundw
      case rel => exact ⟨k + 1, hlt, by go_num, by rw [HFT.out, ← List.append_assoc]; exact HV4.out, HBE.out.trans (HB4.out.mono (by omega)), there_keep HTH.out HB4.out (by omega), Nat.le_trans hsz HB4.out.size⟩
      case measure => simp [intOf]; omega
      --]B
    · obtain rfl : k = ps.length := by omega
      rw [List.take_of_length_le (Nat.le_refl _)] at HOW
      obtain ⟨B, hB⟩ : ∃ B, [UInt8.ofNat tag] ++ ps.flatMap encBytes = B := ⟨_, rfl⟩
      rw [hB] at HOW HLB HS
      clear hB
      obtain ⟨a3, c3, rfl, hz3, -, hx3⟩ := HOW.out.form
      have HSU := hid (sum1_any a3 _ c3 _ wr rfl hz3 hx3 HLB.out)
      rw [HS.out] at HSU
      have HSH := hid (fun W => short1_any S HSL.out W)
      rw [HSD.out] at HSH
      clear hz3 hx3 HOW
      go_wp2_with (first
        | (go_at_call 64; (with_reducible refine (HSU.out).mono ?_); rintro e w4 ⟨rfl, hb4⟩; have HB4 := hid hb4; clear hb4)
        | (go_at_call 63; (with_reducible refine (HSH.out _).mono ?_); rintro e w5 ⟨rfl, hb5⟩; have HB5 := hid (HB4.out.trans (hb5.mono HB4.out.size)); clear hb5; have HTH5 := hid (there_keep HTH.out (HB5.out.mono (Nat.le_refl _)) (by omega)))
        | (refine wpList_store_mid rfl _ _ _ rfl w.heap.size 0 _ rfl rfl (there16 HTH5.out _ HD.out) HI2.out HA.out ?_))
      refine bodyPost_ret (ret_dig rfl _ _ w.heap.size _ HD.out rfl HTH5.out) rfl ⟨rfl, ?_⟩
      exact below_setCells (Nat.le_refl _) _ _ _ (HBE.out.trans (HB5.out.mono (by omega)))
end Go.Proofs.YtbjfkliijhnloaaDoor
