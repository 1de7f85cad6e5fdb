/- sha.Digest, and merkle's leafDigest, join and split walked. -/
import Derived.Test.YtbjfkliijhnloaaDoorC5
namespace Go.Proofs.YtbjfkliijhnloaaDoor
open Go.RowKit
set_option linter.unusedVariables false

theorem BytesB.mono {n m : Nat} {w : World} {a : Option Addr} {bs : List UInt8} (h : BytesB n w a bs) (k : n ≤ m) : BytesB m w a bs := ⟨h.1, fun b off e h0 => Nat.lt_of_lt_of_le (h.2 b off e h0) k⟩
theorem PartsB.mono {n m : Nat} {w : World} {a : Option Addr} {ps : List (List UInt8)} (h : PartsB n w a ps) (k : n ≤ m) : PartsB m w a ps := fun i hi => by
  obtain ⟨b, off, p, c, e, hb, hlt, hc, hx⟩ := h i hi
  exact ⟨b, off, p, c, e, Nat.lt_of_lt_of_le hb k, hlt, hc, hx.mono k⟩
theorem own_one (w : World) (v : Value) (b : UInt8) (hv : v = u8 b) : Own w.heap.size (w.alloc (.cells #[v] 5)) (.slice (some ⟨w.heap.size, 0, none⟩) 1 1) [b] := by subst hv; exact Own.one w b

set_option maxRecDepth 100000 in
set_option maxHeartbeats 1000000 in
theorem digest_any (tag : Nat) (htag : tag < 256) (a : Option Addr) (n c : Nat) (ps : List (List UInt8)) (w : World) (hT : Tab w) (hn : n = ps.length) (hps : PartsB w.heap.size w a ps) (hM : ∀ p ∈ ps, p.length ≤ 1000000000) (hk : ps.length ≤ 100) :
    Calls Tryd.prog 38 #[.int .i64 tag, .slice a n c] w fun e w' => e = .returned (dv (digest (UInt8.ofNat tag) ps)) ∧ Below w.heap.size w w' := by
  subst hn
  have HT := hid hT; have HP := hid hps; have HM := hid hM
  have hw8 : IntKind.u8.wrap (tag : Int) = tag := by simp [IntKind.wrap, IntKind.bits, IntKind.signed]; omega
  have HV8 := hid (show Value.int .u8 (tag : Int) = u8 (UInt8.ofNat tag) by unfold u8; rw [n8_of _ htag])
  have hfl := flatMap_length 1000000000 ps ps.length hM
  rw [List.take_of_length_le (Nat.le_refl _)] at hfl
  have hf2 : (10 + 1000000000) * ps.length ≤ (10 + 1000000000) * 100 := Nat.mul_le_mul_left _ hk
  have HL := hid (show ([UInt8.ofNat tag] ++ ps.flatMap encBytes).length ≤ 1000000000000 by rw [List.length_append]; simp only [List.length_singleton]; omega)
  clear hT hps hM hfl hf2
  obtain ⟨B, hB⟩ : ∃ B, [UInt8.ofNat tag] ++ ps.flatMap encBytes = B := ⟨_, rfl⟩
  obtain ⟨S, hS⟩ : ∃ S, sum B = S := ⟨_, rfl⟩
  obtain ⟨d, hd⟩ : ∃ d, digest (UInt8.ofNat tag) ps = d := ⟨_, rfl⟩
  have HSL := hid (show S.length = 32 by rw [← hS]; exact sum_length _)
  have HSD := hid (show S.take 16 = d by rw [← hS, ← hd, ← hB]; rfl)
  have HD := hid (show d.length = 16 by rw [← hd]; exact digest_length _ _)
  have HS := hid hS
  rw [hd]
  rw [hB] at HL
  have HBE := hid hB
  clear hS hd hB
  have HJ := hid (fun (o : Obj) => by
    have hown := own_one (w.alloc o) (.int .u8 (tag : Int)) _ HV8.out
    rw [World.size_alloc] at hown
    have hb : Below w.heap.size w ((w.alloc o).alloc (.cells #[.int .u8 (tag : Int)] 5)) := (below_alloc w o).alloc (by simp) _
    have := join_any (w.heap.size + 1) _ [UInt8.ofNat tag] a ps.length c ps _ hown (by simp) rfl ((HP.out.keep hb).mono (Nat.le_succ _)) (fun p hp => Nat.le_trans (HM.out p hp) (by omega)) (by simp) hk
    rw [HBE.out] at this
    exact this)
  have HB0 := hid (fun (o o' : Obj) => (show Below w.heap.size w ((w.alloc o).alloc o') from (below_alloc w o).alloc (by simp) _))
  have HTH0 := hid (fun cs o (h : cs.size = 16) => there_keep (alloc_there w cs 28 16 h) (below_alloc (w.alloc (.cells cs 28)) o) (by simp))
  have HI2 := hid (info16a _ HD.out)
  have HA := hid (all_u8 d)
  clear HV8
  go_enter Tryd.func38, Tryd.ntmps38
  go_wp2_with (first
    | (go_at_call 61; (with_reducible refine (HJ.out _).mono ?_); rintro e w3 ⟨⟨v3, rfl, hv⟩, hb3⟩; obtain ⟨a3, c3, rfl, hz3, -, hx3⟩ := hv.form; have HX3 := hid hx3; have HZ3 := hid hz3; have HB3 := hid ((HB0.out _ _).trans (hb3.mono (Nat.le_succ _))); have HTH3 := hid (there_keep (HTH0.out _ _ rfl) hb3 (Nat.lt_succ_self _)); have HS3 := hid hb3.size; clear hv hb3 hx3 hz3)
    | (go_at_call 60; refine (sum_any a3 _ c3 _ w3 (HT.out.keep HB3.out) rfl HZ3.out HX3.out HL.out).mono ?_; rw [HS.out]; rintro e w4 ⟨rfl, hb4⟩; have HB4 := hid hb4; clear hb4)
    | (go_at_call 59; refine (short_any S HSL.out w4).mono ?_; rw [HSD.out]; rintro e w5 ⟨rfl, hb5⟩; have HB5 := hid hb5; clear hb5; have HTH5 := hid (there_keep (there_keep HTH3.out HB4.out (Nat.lt_of_lt_of_le (by simp; omega) HS3.out)) (HB5.out.mono HB4.out.size) (Nat.lt_of_lt_of_le (by simp; omega) HS3.out)))
    | (refine wpList_store_mid rfl _ _ _ rfl w.heap.size 0 _ rfl rfl (there16 HTH5.out _ HD.out) HI2.out HA.out ?_))
  refine bodyPost_ret (ret_dig rfl _ _ w.heap.size _ HD.out rfl HTH5.out) rfl ⟨rfl, ?_⟩
  exact below_setCells (Nat.le_refl _) _ _ _ (HB3.out.trans ((HB4.out.trans (HB5.out.mono HB4.out.size)).mono HB3.out.size))
end Go.Proofs.YtbjfkliijhnloaaDoor
