/- merkle's split walked. -/
import Derived.Test.YtbjfkliijhnloaaDoorD1
namespace Go.Proofs.YtbjfkliijhnloaaDoor
open Go.RowKit
set_option linter.unusedVariables false

def dbl (n : Nat) : Nat → Nat → Nat
  | 0, k => k
  | f + 1, k => if 2 * k < n then dbl n f (2 * k) else k
def splitF (n : Nat) : Nat := dbl n n 1
theorem dbl_spec (n : Nat) : ∀ (f k : Nat), 0 < k → k < n → n ≤ k + f → 0 < dbl n f k ∧ dbl n f k < n ∧ n ≤ 2 * dbl n f k
  | 0, k, h0, h1, h2 => by omega
  | f + 1, k, h0, h1, h2 => by
    unfold dbl
    split
    · exact dbl_spec n f (2 * k) (by omega) (by omega) (by omega)
    · exact ⟨h0, h1, by omega⟩
theorem splitF_spec {n : Nat} (h : 1 < n) : 0 < splitF n ∧ splitF n < n ∧ n ≤ 2 * splitF n := dbl_spec n n 1 (by omega) h (by omega)

set_option maxRecDepth 100000 in
set_option maxHeartbeats 1000000 in
theorem split_any (n : Nat) (w : World) (hn : 1 < n) (hn2 : n ≤ 1000000000000) : Calls Tryd.prog 41 #[.int .i64 n] w fun e w' => e = .returned (.int .i64 (splitF n)) ∧ w = w' := by
  obtain ⟨K, hK⟩ : ∃ K, splitF n = K := ⟨_, rfl⟩
  have HK := hid (show dbl n n 1 = K from hK)
  rw [hK]
  clear hK
  go_enter Tryd.func41, Tryd.ntmps41
  go_wp2_with fail
  go_loopw [3] (fun i wr => ∃ f k : Nat, i = .int .i64 k ∧ 0 < k ∧ k < n ∧ n ≤ k + f ∧ Hid (dbl n f k = K) ∧ w = wr) (fun i _ => n - (intOf i).toNat)
  case atStart => exact ⟨n, 1, rfl, by omega, hn, by omega, HK, rfl⟩
  case round =>
    obtain ⟨f, k, rfl, h0, h1, h2, hd, rfl⟩ := hrel
    have ew : IntKind.i64.wrap ((n : Int) - k) = (n : Int) - k := by simp [IntKind.wrap, IntKind.bits, IntKind.signed]; omega
    have ew2 : IntKind.i64.wrap ((k : Int) * 2) = (k : Int) * 2 := by simp [IntKind.wrap, IntKind.bits, IntKind.signed]; omega
    cases f with
    | zero => omega
    | succ f =>
      by_cases hlt : 2 * k < n
      · have d1 : (k : Int) < (n : Int) - k := by omega
        have hd2 : dbl n f (2 * k) = K := by have := hd.out; unfold dbl at this; rwa [if_pos hlt] at this
        have HD2 := hid hd2
        clear hd2
        go_wp2_with fail
        go_roundw
        case rel => exact ⟨f, 2 * k, by go_num, by omega, hlt, by omega, HD2, trivial⟩
        case measure => simp [intOf]; omega
      · have d1 : ¬ ((k : Int) < (n : Int) - k) := by omega
        have hd2 : k = K := by have := hd.out; unfold dbl at this; rwa [if_neg hlt] at this
        subst hd2
        go_wp2_with fail
        go_ret
        exact ⟨rfl, rfl⟩

set_option maxRecDepth 100000 in
set_option maxHeartbeats 1000000 in
theorem split3_any (n : Nat) (w : World) (hn : 1 < n) (hn2 : n ≤ 1000000000000) : Calls Tryd.prog 42 #[.int .i64 n] w fun e w' => e = .returned (.int .i64 (splitF n)) ∧ w = w' := by
  obtain ⟨K, hK⟩ : ∃ K, splitF n = K := ⟨_, rfl⟩
  have HK := hid (show dbl n n 1 = K from hK)
  rw [hK]
  clear hK
  go_enter Tryd.func42, Tryd.ntmps42
  go_wp2_with fail
  go_loopw [3] (fun i wr => ∃ f k : Nat, i = .int .i64 k ∧ 0 < k ∧ k < n ∧ n ≤ k + f ∧ Hid (dbl n f k = K) ∧ w = wr) (fun i _ => n - (intOf i).toNat)
  case atStart => exact ⟨n, 1, rfl, by omega, hn, by omega, HK, rfl⟩
  case round =>
    obtain ⟨f, k, rfl, h0, h1, h2, hd, rfl⟩ := hrel
    have ew : IntKind.i64.wrap ((n : Int) - k) = (n : Int) - k := by simp [IntKind.wrap, IntKind.bits, IntKind.signed]; omega
    have ew2 : IntKind.i64.wrap (2 * (k : Int)) = 2 * (k : Int) := by simp [IntKind.wrap, IntKind.bits, IntKind.signed]; omega
    cases f with
    | zero => omega
    | succ f =>
      by_cases hlt : 2 * k < n
      · have d1 : (k : Int) < (n : Int) - k := by omega
        have hd2 : dbl n f (2 * k) = K := by have := hd.out; unfold dbl at this; rwa [if_pos hlt] at this
        have HD2 := hid hd2
        clear hd2
        go_wp2_with fail
        go_roundw
        case rel => exact ⟨f, 2 * k, by go_num, by omega, hlt, by omega, HD2, trivial⟩
        case measure => simp [intOf]; omega
      · have d1 : ¬ ((k : Int) < (n : Int) - k) := by omega
        have hd2 : k = K := by have := hd.out; unfold dbl at this; rwa [if_neg hlt] at this
        subst hd2
        go_wp2_with fail
        go_ret
        exact ⟨rfl, rfl⟩

/-! ### The root -/
def rootN : Nat → List (List UInt8) → List UInt8
  | 0, _ => []
  | f + 1, ds => if ds.length = 0 then digest 1 [] else if ds.length = 1 then leafD (ds.getD 0 []) else nodeD (rootN f (ds.take (splitF ds.length))) (rootN f (ds.drop (splitF ds.length)))
def rootF (ds : List (List UInt8)) : List UInt8 := rootN (ds.length + 1) ds
theorem rootN_stable : ∀ (f g : Nat) (ds : List (List UInt8)), ds.length < f → ds.length < g → rootN f ds = rootN g ds
  | 0, _, _, h, _ => by omega
  | f + 1, 0, _, _, h => by omega
  | f + 1, g + 1, ds, hf, hg => by
    unfold rootN
    by_cases h0 : ds.length = 0
    · rw [if_pos h0, if_pos h0]
    · by_cases h1 : ds.length = 1
      · rw [if_neg h0, if_pos h1, if_neg h0, if_pos h1]
      · have hs := splitF_spec (show 1 < ds.length by omega)
        rw [if_neg h0, if_neg h1, if_neg h0, if_neg h1, rootN_stable f g _ (by rw [List.length_take]; omega) (by rw [List.length_take]; omega), rootN_stable f g _ (by rw [List.length_drop]; omega) (by rw [List.length_drop]; omega)]
theorem rootF_nil : rootF [] = digest 1 [] := rfl
theorem rootF_one (d : List UInt8) : rootF [d] = leafD d := rfl
theorem rootF_more {ds : List (List UInt8)} (h : 1 < ds.length) : rootF ds = nodeD (rootF (ds.take (splitF ds.length))) (rootF (ds.drop (splitF ds.length))) := by
  have hs := splitF_spec h
  unfold rootF
  rw [show rootN (ds.length + 1) ds = nodeD (rootN ds.length (ds.take (splitF ds.length))) (rootN ds.length (ds.drop (splitF ds.length))) by rw [rootN, if_neg (by omega), if_neg (by omega)]]
  rw [rootN_stable ds.length _ (ds.take (splitF ds.length)) (by rw [List.length_take]; omega) (Nat.lt_succ_self _), rootN_stable ds.length _ (ds.drop (splitF ds.length)) (by rw [List.length_drop]; omega) (Nat.lt_succ_self _)]
theorem rootF_length (ds : List (List UInt8)) : (rootF ds).length = 16 := by
  rcases (show ds.length = 0 ∨ ds.length = 1 ∨ 1 < ds.length by omega) with h | h | h
  · rw [List.length_eq_zero_iff.1 h]; exact digest_length _ _
  · obtain ⟨d, rfl⟩ := List.length_eq_one_iff.1 h; exact leafD_length d
  · rw [rootF_more h]; exact nodeD_length _ _

/-- Digests in a row, below n₀. -/
def DigB (n₀ : Nat) (w : World) (a : Option Addr) (ds : List (List UInt8)) : Prop :=
  ∀ i (hi : i < ds.length), ∃ b off, a = some ⟨b, off, none⟩ ∧ b < n₀ ∧ b < w.heap.size ∧ w.rangeAt b (off + 16 * i) (ds[i].map u8)
theorem DigB.keep {n₀ : Nat} {w w' : World} {a : Option Addr} {ds : List (List UInt8)} (h : DigB n₀ w a ds) (k : Below n₀ w w') : DigB n₀ w' a ds := fun i hi => by
  obtain ⟨b, off, rfl, hb, hlt, hr⟩ := h i hi
  exact ⟨b, off, rfl, hb, Nat.lt_of_lt_of_le hlt k.size, range_keep hr k hb⟩
theorem DigB.mono {n m : Nat} {w : World} {a : Option Addr} {ds : List (List UInt8)} (h : DigB n w a ds) (k : n ≤ m) : DigB m w a ds := fun i hi => by
  obtain ⟨b, off, e, hb, hlt, hr⟩ := h i hi
  exact ⟨b, off, e, Nat.lt_of_lt_of_le hb k, hlt, hr⟩
theorem DigB.take {n₀ : Nat} {w : World} {a : Option Addr} {ds : List (List UInt8)} (h : DigB n₀ w a ds) (k : Nat) : DigB n₀ w a (ds.take k) := fun i hi => by
  obtain ⟨b, off, e, hb, hlt, hr⟩ := h i (by rw [List.length_take] at hi; omega)
  exact ⟨b, off, e, hb, hlt, by rw [List.getElem_take]; exact hr⟩
theorem DigB.drop {n₀ : Nat} {w : World} {b off : Nat} {ds : List (List UInt8)} (h : DigB n₀ w (some ⟨b, off, none⟩) ds) (k : Nat) : DigB n₀ w (some ⟨b, off + k * 16, none⟩) (ds.drop k) := fun i hi => by
  have hi' : k + i < ds.length := by rw [List.length_drop] at hi; omega
  obtain ⟨b', off', e, hb, hlt, hr⟩ := h (k + i) hi'
  cases e
  exact ⟨b, off + k * 16, rfl, hb, hlt, by rw [List.getElem_drop, Nat.mul_comm k 16, Nat.add_assoc, ← Nat.mul_add]; exact hr⟩
def All16 (ds : List (List UInt8)) : Prop := ∀ d ∈ ds, d.length = 16
theorem All16.take {ds : List (List UInt8)} (h : All16 ds) (k : Nat) : All16 (ds.take k) := fun d hd => h d (List.mem_of_mem_take hd)
theorem All16.drop {ds : List (List UInt8)} (h : All16 ds) (k : Nat) : All16 (ds.drop k) := fun d hd => h d (List.mem_of_mem_drop hd)

set_option maxRecDepth 100000 in
set_option maxHeartbeats 2000000 in
theorem root_any (f : Nat) : ∀ (ds : List (List UInt8)) (a : Option Addr) (n c : Nat) (w : World), ds.length < f → All16 ds → Tab w → n = ds.length → n ≤ c → n ≤ 1000000 → DigB w.heap.size w a ds →
    Calls Tryd.prog 18 #[.slice a n c] w fun e w' => e = .returned (dv (rootF ds)) ∧ Below w.heap.size w w' := by
  induction f with
  | zero => intro ds a n c w h; omega
  | succ f ih =>
    intro ds a n c w hf h16 hT hn hc hn2 hds
    subst hn
    have HIH := hid ih
    have HT := hid hT
    have HDS := hid hds
    have H16 := hid h16
    obtain ⟨L, hL⟩ : ∃ L, rootF ds = L := ⟨_, rfl⟩
    have HL := hid (show L.length = 16 by rw [← hL]; exact rootF_length ds)
    have hinf := info16a L HL.out
    have hone := one_u8 L
    rw [hL]
    have HLE := hid hL
    have HTH := hid (fun Z (h : Array.size Z = 16) => alloc_there w Z 28 16 h)
    clear hT hds h16 hL ih
    by_cases h0 : ds.length = 0
    · obtain rfl := List.length_eq_zero_iff.1 h0
      have HC := hid (fun (Z : Array Value) => digest_1 none 0 0 [] (w.alloc (.cells Z 28)) (HT.out.keep (below_alloc _ _)) rfl (fun i hi => by cases hi) (by simp) (by simp))
      have HLE2 := hid (show digest 1 [] = L from HLE.out)
      go_enter Tryd.func18, Tryd.ntmps18
      go_wp2_with (first
        | (go_at_call 38; (with_reducible refine (HC.out _).mono ?_); rw [HLE2.out]; rintro e w3 ⟨rfl, hb3⟩; have HTH3 := hid (there_keep (HTH.out _ rfl) hb3 (by simp)); have HB3 := hid ((below_alloc w _).trans (hb3.mono (below_alloc w _).size)); clear hb3)
        | (refine wpList_store_mid rfl _ _ _ rfl w.heap.size 0 _ rfl rfl (there16 HTH3.out _ HL.out) hinf (all_u8 L) ?_))
      refine bodyPost_ret (ret_dig rfl _ _ w.heap.size _ HL.out rfl HTH3.out) rfl ⟨rfl, ?_⟩
      exact below_setCells (Nat.le_refl _) _ _ _ HB3.out
    · by_cases h1 : ds.length = 1
      · obtain ⟨d, rfl⟩ := List.length_eq_one_iff.1 h1
        have hd16 := H16.out d (by simp)
        obtain ⟨b, off, rfl, hb, hlt, hr⟩ := HDS.out 0 (by simp)
        have HR := hid (fun o => range_keep hr (below_alloc w o) hb)
        have HI := hid (info16 d hd16)
        have HC := hid (fun (Z : Array Value) => leaf_any d hd16 (w.alloc (.cells Z 28)) (HT.out.keep (below_alloc _ _)))
        have HLE2 := hid (show leafD d = L from HLE.out)
        clear hr
        go_enter Tryd.func18, Tryd.ntmps18
        go_wp2_with (first
          | (refine wpList_load_mid rfl _ _ rfl b (off + 16 * 0) rfl _ _ (HR.out _) rfl rfl HI.out ?_)
          | (go_at_call 43; (with_reducible refine (HC.out _).mono ?_); rw [HLE2.out]; rintro e w3 ⟨rfl, hb3⟩; have HTH3 := hid (there_keep (HTH.out _ rfl) hb3 (by simp)); have HB3 := hid ((below_alloc w _).trans (hb3.mono (below_alloc w _).size)); clear hb3)
          | (refine wpList_store_mid rfl _ _ _ rfl w.heap.size 0 _ rfl rfl (there16 HTH3.out _ HL.out) hinf (all_u8 L) ?_))
        refine bodyPost_ret (ret_dig rfl _ _ w.heap.size _ HL.out rfl HTH3.out) rfl ⟨rfl, ?_⟩
        exact below_setCells (Nat.le_refl _) _ _ _ HB3.out
      · have hk := splitF_spec (show 1 < ds.length by omega)
        obtain ⟨k, hke⟩ : ∃ k, splitF ds.length = k := ⟨_, rfl⟩
        have hcl := HDS.out 0 (by omega)
        obtain ⟨b, off, rfl, -, -, -⟩ := hcl
        have HSP := hid (split_any ds.length · (by omega) (by omega))
        rw [hke] at hk HSP
        have lt : (ds.take k).length = k := by rw [List.length_take]; omega
        have ld : (ds.drop k).length = ds.length - k := by rw [List.length_drop]
        have HLT := hid (fun (W : World) (hb : Below w.heap.size w W) => HIH.out (ds.take k) (some ⟨b, off, none⟩) k k W (by omega) (H16.out.take k) (HT.out.keep hb) lt.symm (Nat.le_refl _) (by omega) (((HDS.out.take k).keep hb).mono hb.size))
        have HRT := hid (fun (W : World) (hb : Below w.heap.size w W) => HIH.out (ds.drop k) (some ⟨b, off + k * 16, none⟩) (ds.length - k) (ds.length - k) W (by omega) (H16.out.drop k) (HT.out.keep hb) ld.symm (Nat.le_refl _) (by omega) (((HDS.out.drop k).keep hb).mono hb.size))
        obtain ⟨x, hx⟩ : ∃ x, rootF (ds.take k) = x := ⟨_, rfl⟩
        obtain ⟨y, hy⟩ : ∃ y, rootF (ds.drop k) = y := ⟨_, rfl⟩
        have hx16 : x.length = 16 := by rw [← hx]; exact rootF_length _
        have hy16 : y.length = 16 := by rw [← hy]; exact rootF_length _
        have HLE2 := hid (show nodeD x y = L by rw [← HLE.out, rootF_more (by omega), hke, hx, hy])
        have HN := hid (fun (W : World) (hT : Tab W) => node_any x y hx16 hy16 W hT)
        rw [hx] at HLT
        rw [hy] at HRT
        have b1 : ¬ ((ds.length : Int) = 0) := by omega
        have b2 : ¬ ((ds.length : Int) = 1) := by omega
        have HTHd := hid (fun (Z : Array Value) (h : Z.size = 16) => (show (w.alloc (.cells Z 28)).drew.there w.heap.size 0 16 from HTH.out Z h))
        have k0 : (0 : Int) ≤ (k : Int) := by omega
        have k1 : (k : Int) ≤ (ds.length : Int) := by omega
        have k2 : (k : Int) ≤ (c : Int) := by omega
        have k3 : (ds.length : Int) ≤ (c : Int) := by omega
        clear lt ld hx hy hke hx16 hy16
        go_enter Tryd.func18, Tryd.ntmps18
        go_wp2_with ((with_reducible refine (HSP.out _).mono ?_); rintro e w2 ⟨rfl, rfl⟩)
        go_region_held3 (fun W => True) (trivial) (first
          | (go_at_call 18; (with_reducible refine (HLT.out _ (below_alloc w _).drew).mono ?_); rintro e w3 ⟨rfl, hb3⟩; have HTH3 := hid (there_keep (HTHd.out _ rfl) hb3 (by simp)); have HB3 := hid ((below_alloc w _).drew.trans (hb3.mono (below_alloc w _).size)); have HZ3 := hid (Nat.lt_of_lt_of_le (show w.heap.size < (w.alloc _).drew.heap.size by simp) hb3.size); clear hb3)
          | (go_at_call 18; (with_reducible refine (HRT.out _ HB3.out).mono ?_); rintro e w4 ⟨rfl, hb4⟩; have HTH4 := hid (there_keep HTH3.out hb4 HZ3.out); have HB4 := hid (HB3.out.trans (hb4.mono HB3.out.size)); have HZ4 := hid (Nat.lt_of_lt_of_le HZ3.out hb4.size); clear hb4)
          | (go_at_call 44; (with_reducible refine (HN.out _ (HT.out.keep HB4.out)).mono ?_); rw [HLE2.out]; rintro e w5 ⟨rfl, hb5⟩; have HTH5 := hid (there_keep HTH4.out hb5 HZ4.out); have HB5 := hid (HB4.out.trans (hb5.mono HB4.out.size)); have hth := there16 HTH5.out L HL.out; clear hb5))
        go_wp2_with fail
        refine bodyPost_ret (ret_dig rfl _ _ w.heap.size _ HL.out rfl HTH5.out) rfl ⟨rfl, ?_⟩
        exact below_setCells (Nat.le_refl _) _ _ _ HB5.out
end Go.Proofs.YtbjfkliijhnloaaDoor
