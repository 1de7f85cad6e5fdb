/- The reference's hash: bootchainref02's Sum. -/
import Derived.Test.YtbjfkliijhnloaaDoorR2
import Derived.Test.YtbjfkliijhnloaaDoorC5
namespace Go.Proofs.YtbjfkliijhnloaaDoor
open Go.RowKit
set_option linter.unusedVariables false

instance (b : UInt8) : Decidable (isHex b) := by unfold isHex; infer_instance
theorem words8_any (s : ByteArray) (w : World) (h : hexWords s 8 = start.list ∧ 64 ≤ s.size ∧ s.size ≤ 1000000 ∧ ∀ b ∈ s.data.toList, isHex b) :
    Calls Tryd.prog 71 #[.string s, .int .i64 8] w fun e w' => (∃ g c, e = .returned (.slice (some ⟨g, 0, none⟩) 8 c) ∧ 8 ≤ c ∧ Row32 w' (some ⟨g, 0, none⟩) start.list) ∧ Below w.heap.size w w' := by
  obtain ⟨h1, h2, h3, h4⟩ := h
  refine (words1_any s 8 w (by omega) h3 h4).mono ?_
  rintro e w' ⟨⟨v, rfl, hv⟩, hb⟩
  rw [h1] at hv
  refine ⟨?_, hb⟩
  rcases hv.2 with ⟨-, hn⟩ | ⟨g, cap, cur, e, -, -, hle, -⟩
  · cases hn
  · obtain ⟨a, c, e', -, hr⟩ := hv.row
    have e2 : Value.slice a start.list.length c = .slice (some ⟨g, 0, none⟩) start.list.length cap := by rw [← e', e]
    simp only [Value.slice.injEq] at e2
    obtain ⟨rfl, -, rfl⟩ := e2
    exact ⟨g, c, by rw [e]; rfl, hle, hr⟩
theorem words64_any (s : ByteArray) (w : World) (h : hexWords s 64 = consts ∧ 512 ≤ s.size ∧ s.size ≤ 1000000 ∧ ∀ b ∈ s.data.toList, isHex b) :
    Calls Tryd.prog 71 #[.string s, .int .i64 64] w fun e w' => (∃ g c, e = .returned (.slice (some ⟨g, 0, none⟩) 64 c) ∧ 64 ≤ c ∧ Row32 w' (some ⟨g, 0, none⟩) consts) ∧ Below w.heap.size w w' := by
  obtain ⟨h1, h2, h3, h4⟩ := h
  refine (words1_any s 64 w (by omega) h3 h4).mono ?_
  rintro e w' ⟨⟨v, rfl, hv⟩, hb⟩
  rw [h1] at hv
  refine ⟨?_, hb⟩
  rcases hv.2 with ⟨-, hn⟩ | ⟨g, cap, cur, e, -, -, hle, -⟩
  · cases hn
  · obtain ⟨a, c, e', -, hr⟩ := hv.row
    have e2 : Value.slice a consts.length c = .slice (some ⟨g, 0, none⟩) consts.length cap := by rw [← e', e]
    simp only [Value.slice.injEq] at e2
    obtain ⟨rfl, -, rfl⟩ := e2
    exact ⟨g, c, by rw [e]; rfl, hle, hr⟩

theorem list_at (s : H8) (j : Nat) (h : j < 8) : s.list.getD j 0 = s.at j := by
  rcases (show j = 0 ∨ j = 1 ∨ j = 2 ∨ j = 3 ∨ j = 4 ∨ j = 5 ∨ j = 6 ∨ j = 7 by omega) with rfl | rfl | rfl | rfl | rfl | rfl | rfl | rfl <;> rfl
theorem out_get (s : H8) (n : Nat) (k : Nat) (hk : k < 4 * n) : (s.out n)[k]? = some (UInt8.ofNat ((s.at (k / 4)).toNat / 2 ^ (8 * (4 - 1 - k % 4)) % 256)) := by
  induction n with
  | zero => omega
  | succ n ih =>
    rw [H8.out]
    rcases Nat.lt_or_ge k (4 * n) with h | h
    · rw [List.getElem?_append_left (by rw [out_length]; exact h)]; exact ih h
    · rw [List.getElem?_append_right (by rw [out_length]; exact h), out_length]
      have e1 : k / 4 = n := by omega
      have e2 : k - 4 * n = k % 4 := by omega
      rw [e1, e2]
      unfold beTop
      rw [List.getElem?_map, List.getElem?_range (by omega)]
      rfl
theorem range_put {W : World} {b : Nat} {r : List UInt8} (h : W.rangeAt b 0 (r.map u8)) (j : Nat) (y : UInt8) (hj : j < r.length) : (W.setCell ⟨b, j, none⟩ (u8 y)).rangeAt b 0 ((r.set j y).map u8) := by
  intro i v hv
  have hc : W.cell? ⟨b, j, none⟩ = some (u8 r[j]) := by have := h j (u8 r[j]) (by simp [hj]); rwa [Nat.zero_add] at this
  rw [Nat.zero_add, setCell_cell hc]
  by_cases e : j = i
  · subst e
    rw [if_pos rfl, ← hv]
    simp [hj]
  · rw [if_neg e]
    have := h i v (by rw [← hv]; simp [e])
    rwa [Nat.zero_add] at this
theorem set_next (S : List UInt8) (k m : Nat) (y : UInt8) (hS : S[k]? = some y) (hm : k < m) : ((S.take k ++ List.replicate (m - k) 0).set k y) = S.take (k + 1) ++ List.replicate (m - (k + 1)) 0 := by
  have hk : k < S.length := (List.getElem?_eq_some_iff.1 hS).1
  have e : S[k] = y := by rw [List.getElem?_eq_getElem hk] at hS; exact Option.some.inj hS
  have h1 : (S.take k).length = k := by rw [List.length_take]; omega
  rw [List.set_append, if_neg (by omega), h1, Nat.sub_self, List.take_succ_eq_append_getElem hk, e]
  have : m - k = (m - (k + 1)) + 1 := by omega
  rw [this, List.replicate_succ, List.set_cons_zero, List.append_assoc]
  rfl
theorem val_shr (x : BitVec 32) (n : Nat) : Value.int .u8 (n32 x / 2 ^ n % 256) = u8 (UInt8.ofNat (x.toNat / 2 ^ n % 256)) := by
  unfold u8 n32
  rw [n8_of _ (Nat.mod_lt _ (by omega)), Int.natCast_emod, Int.natCast_ediv, Int.natCast_pow]
  rfl
theorem val_top (n j : Nat) : Value.int .u8 ((n : Int) / 2 ^ j % 256) = u8 (UInt8.ofNat (n / 2 ^ j % 256)) := by
  unfold u8; rw [n8_of _ (Nat.mod_lt _ (by omega)), Int.natCast_emod, Int.natCast_ediv, Int.natCast_pow]; rfl
theorem size_setCells' (b : Nat) : ∀ (vs : List Value) (o : Nat) (w : World), (w.setCells b o vs).heap.size = w.heap.size
  | [], _, _ => rfl
  | v :: r, o, w => by rw [World.setCells, size_setCells' b r (o + 1)]; simp
/-- While the answer is written: an array of 32 bytes in block B. -/
structure Arr (W0 : World) (B : Nat) (r : List UInt8) (W : World) : Prop where
  below : Below W0.heap.size W0 W
  rg : W.rangeAt B 0 (r.map u8)
  th : W.there B 0 r.length
  lt : B < W.heap.size
  ge : W0.heap.size ≤ B
theorem Arr.put {W0 W : World} {B : Nat} {r : List UInt8} (h : Arr W0 B r W) (j : Nat) (y : UInt8) (hj : j < r.length) : Arr W0 B (r.set j y) (W.setCell ⟨B, j, none⟩ (u8 y)) := by
  refine ⟨h.below.setCell (p := ⟨B, j, none⟩) h.ge _, range_put h.rg j y hj, ?_, by simpa using h.lt, h.ge⟩
  rw [List.length_set]
  intro i hi
  have hj' := h.rg j (u8 r[j]) (by simp [hj])
  rw [Nat.zero_add] at hj'
  have hth := h.th i hi
  refine ⟨?_, by rw [World.frozen?_setCell]; exact hth.2⟩
  rw [Nat.zero_add] at hth ⊢
  rw [setCell_cell hj']
  split
  · simp
  · exact hth.1
theorem Arr.cell {W0 W : World} {B : Nat} {r : List UInt8} (h : Arr W0 B r W) (j : Nat) (hj : j < r.length) : W.cell? ⟨B, j, none⟩ = some (u8 r[j]) ∧ W.frozen? ⟨B, j, none⟩ = false := by
  have h1 := h.rg j (u8 r[j]) (by simp [hj])
  have h2 := (h.th j hj).2
  rw [Nat.zero_add] at h1 h2
  exact ⟨h1, h2⟩
theorem Arr.keep {W0 W W' : World} {B : Nat} {r : List UInt8} (h : Arr W0 B r W) (k : Below W.heap.size W W') : Arr W0 B r W' :=
  ⟨h.below.trans (k.mono h.below.size), range_keep h.rg k h.lt, there_keep h.th k h.lt, Nat.lt_of_lt_of_le h.lt k.size, h.ge⟩
theorem Arr.start (W : World) (Z : Array Value) (t : TypeId) (hZ : Z.size = 32) (r : List UInt8) (hr : r.length = 32) : Arr W W.heap.size r ((W.alloc (.cells Z t)).setCells W.heap.size 0 (r.map u8).toArray.toList) :=
  ⟨below_setCells (Nat.le_refl _) _ _ _ (below_alloc W _), World.rangeAt_setCells_same _ _ _ _ (by have := alloc_there W Z t 32 hZ; simpa [hr] using this), by rw [hr]; exact World.there_setCells (alloc_there W Z t 32 hZ) _ _ _, by rw [size_setCells']; simp, Nat.le_refl _⟩
theorem info32b (r : List UInt8) (h : r.length = 32) : (Tryd.prog.info? 80).map (·.size) = some (r.map u8).toArray.size := by rw [List.size_toArray]; exact info32 r h

set_option maxRecDepth 100000 in
set_option maxHeartbeats 2000000 in
theorem sum1_any (a : Option Addr) (n c : Nat) (bs : List UInt8) (w : World) (hn : n = bs.length) (hc : a = none → c = 0) (hx : BytesAt w a bs) (hl : bs.length ≤ 1000000000000) :
    Calls Tryd.prog 64 #[.slice a n c] w fun e w' => e = .returned (.agg ((sum bs).map u8).toArray) ∧ Below w.heap.size w w' := by
  subst hn
  have HX := hid (fun o o' => (hx.keep (below_alloc w o)).keep (below_alloc (w.alloc o) o'))
  have HC := hid hc
  have HE := hid (fun o => Own.empty (w.alloc o))
  simp only [World.size_alloc] at HE
  have HL0 := hid (show ([] : List UInt8).length + bs.length ≤ 100000000000000 by simp; omega)
  have HL1 := hid (show bs.length + [(128 : UInt8)].length ≤ 100000000000000 by simp; omega)
  have HSS := hid (fun cs t o (h : cs.size = 32) => (Sm.start w cs t h).keep ((below_alloc (w.alloc (.cells cs t)) o).mono (by simp)))
  clear hx hc
  go_enter Tryd.func64, Tryd.ntmps64
  go_upto_region 1 with (fail)
  go_wp2_with (first
    | (at_builtin; refine wp_app rfl (.tmp 11) (.tmp 12) rfl (w.heap.size + 1) _ [] bs rfl (HE.out _) a bs.length c rfl rfl HC.out (HX.out _ _) HL0.out (by simp) (fun v1 w1 hv1 hb1 => ?_); have HV1 := hid hv1; have HSM1 := hid ((HSS.out _ _ _ rfl).keep hb1); clear hv1 hb1)
    | (at_builtin; refine wp_app rfl (.tmp 13) (.tmp 14) rfl (w.heap.size + 1) _ bs [128] rfl (HV1.out.alloc _) (some ⟨w1.heap.size, 0, none⟩) 1 1 rfl rfl (fun h => by cases h) (bytes_one' w1 _ _ _ u8_128) HL1.out (alloc_le' HSM1.out.lt _) (fun v2 w2 hv2 hb2 => ?_); have HV2 := hid hv2; have HSM2 := hid (HSM1.out.keep (keep_app HSM1.out.lt hb2)); clear hv2 hb2))
  clear HV1 HSM1 HSS HX HE HL1
  go_loopw [3] (fun o wr => ∃ k : Nat, k ≤ zeros bs.length ∧ Own (w.heap.size + 1) wr o (bs ++ [128] ++ List.replicate k 0) ∧ Sm w wr) (fun o _ => 100 + bs.length - (match o with | .slice _ n _ => n | _ => 0))
  case atStart => exact ⟨0, Nat.zero_le _, by simpa using HV2.out, HSM2.out⟩
  case round =>
    obtain ⟨k, hk, hown, hsm⟩ := hrel
    obtain ⟨ad, cp, rfl, -, -, -⟩ := hown.form
    have hlen : (bs ++ [128] ++ List.replicate k 0).length = bs.length + 1 + k := by simp; omega
    rw [hlen] at hown
    rw [hlen]
    have HOW := hid hown
    have HSM := hid hsm
    clear hown hsm HV2 HSM2
    by_cases hlt : k < zeros bs.length
    ·
      --[A
      have hne : ¬ (((bs.length : Int) + 1 + k) % 64 = 56) := by unfold zeros at hlt; omega
      have HL1 := hid (show (bs ++ [128] ++ List.replicate k 0).length + [(0 : UInt8)].length ≤ 100000000000000 by unfold zeros at hlt; simp; omega)
      go_wp2_with (at_builtin; refine wp_app rfl _ _ rfl (w.heap.size + 1) _ _ [0] rfl (HOW.out.alloc _) (some ⟨wr.heap.size, 0, none⟩) 1 1 rfl rfl (fun h => by cases h) (bytes_one' wr _ _ _ u8_0) HL1.out (alloc_le' HSM.out.lt _) (fun v3 w3 hv3 hb3 => ?_); have HV3 := hid hv3; have HSM3 := hid (HSM.out.keep (keep_app HSM.out.lt hb3)); clear hv3 hb3)
      go_roundw
      case rel => exact ⟨k + 1, by omega, by rw [show bs ++ [128] ++ List.replicate (k + 1) 0 = bs ++ [128] ++ List.replicate k 0 ++ [(0 : UInt8)] by simp [List.replicate_succ']]; exact HV3.out, HSM3.out⟩
      case measure =>
        obtain ⟨ad3, cp3, rfl, -, -, -⟩ := HV3.out.form
        simp; unfold zeros at hlt; omega
      --]A
    · obtain rfl : k = zeros bs.length := by omega
      have heq : (((bs.length : Int) + 1 + (zeros bs.length : Nat)) % 64 = 56) := by unfold zeros; omega
      have e1 : IntKind.u64.wrap (bs.length : Int) = bs.length := by simp [IntKind.wrap, IntKind.bits, IntKind.signed]; omega
      have e2 : IntKind.u64.wrap (8 * (bs.length : Int)) = ((8 * bs.length : Nat) : Int) := by simp [IntKind.wrap, IntKind.bits, IntKind.signed]; omega
      have e3 : 8 * (bs.length : Int) = ((8 * bs.length : Nat) : Int) := by omega
      have hz64 : zeros bs.length < 64 := by unfold zeros; omega
      obtain ⟨z, hz⟩ : ∃ z, zeros bs.length = z := ⟨_, rfl⟩
      have HPD := hid (show bs ++ [128] ++ List.replicate z 0 ++ beTop (8 * bs.length) 8 8 = padded bs by rw [← hz]; rfl)
      rw [hz] at HOW heq hz64 ⊢
      have HZ := hid hz
      clear hz
      have HPL := hid (show (bs ++ [128] ++ List.replicate z 0).length ≤ 2000000000000 by simp; omega)
      obtain ⟨pre, hpre⟩ : ∃ pre, bs ++ [128] ++ List.replicate z 0 = pre := ⟨_, rfl⟩
      rw [hpre] at HOW HPL HPD
      have hb8 : 8 * bs.length < 18446744073709551616 := by omega
      obtain ⟨q, hq⟩ : ∃ q, 8 * bs.length = q := ⟨_, rfl⟩
      rw [hq] at e2 e3 HPD hb8
      have hq0 : (0 : Int) ≤ (q : Int) := by omega
      clear hpre hq
      go_wp2_with fail
      try rw [heq]
      clear heq
      go_loopw [3, 5] (fun o i W => ∃ k : Nat, k ≤ 8 ∧ i = .int .i64 ((7 : Int) - k) ∧ Own (w.heap.size + 1) W o (pre ++ beTop q 8 k) ∧ Sm w W) (fun _ i _ => (intOf i + 1).toNat)
      case atStart => exact ⟨0, by omega, by go_num, by simpa [beTop] using HOW.out, HSM.out⟩
      case round =>
        clear HOW HSM
        obtain ⟨k, hk, rfl, hown, hsm⟩ := hrel
        have HOW := hid hown
        have HSM := hid hsm
        clear hown hsm
        by_cases hlt : k < 8
        ·
          --[B
          have d1 : decide ((7 : Int) - k ≥ 0) = true := by simp; omega
          have HN := hid (beTop_succ q 8 k)
          have HV8 := hid (val_top q (8 * (8 - 1 - k)))
          have hsh : (8 * ((7 : Int) - k)).toNat = 8 * (8 - 1 - k) := by omega
          have HL1 := hid (show (pre ++ beTop q 8 k).length + [UInt8.ofNat (q / 2 ^ (8 * (8 - 1 - k)) % 256)].length ≤ 100000000000000 by have := HPL.out; simp [beTop_length]; omega)
          go_wp2_with (at_builtin; refine wp_app rfl _ _ rfl (w.heap.size + 1) _ _ [UInt8.ofNat (q / 2 ^ (8 * (8 - 1 - k)) % 256)] rfl (HOW.out.alloc _) (some ⟨wr.heap.size, 0, none⟩) 1 1 rfl rfl (fun h => by cases h) (bytes_one' wr _ _ _ HV8.out) HL1.out (alloc_le' HSM.out.lt _) (fun v3 w3 hv3 hb3 => ?_); have HV3 := hid hv3; have HSM3 := hid (HSM.out.keep (keep_app HSM.out.lt hb3)); clear hv3 hb3)
          go_roundw
          case rel => exact ⟨k + 1, by omega, by go_num, by rw [HN.out, ← List.append_assoc]; exact HV3.out, HSM3.out⟩
          case measure => simp [intOf]; omega
          --]B
        · obtain rfl : k = 8 := by omega
          have e8 : (7 : Int) - ((8 : Nat) : Int) = -1 := rfl
          rw [e8]
          rw [HPD.out] at HOW
          clear e8 HPD HPL
          obtain ⟨nb, hnb⟩ := padded_64 bs
          have hpl := padded_length bs
          have hsum : sum bs = (blocks (padded bs) nb).out 8 := by unfold sum; rw [hnb, Nat.mul_div_cancel_left _ (by omega)]
          obtain ⟨m, hm⟩ : ∃ m, padded bs = m := ⟨_, rfl⟩
          rw [hm] at HOW hnb hpl hsum
          have HSUM := hid hsum
          obtain ⟨g, cap, rfl, hg1, hg2, hcap, hbm⟩ := HOW.out.some (by omega)
          have hnb0 : 64 * nb ≤ 2000000000000 := by rw [← hnb, hpl, HZ.out]; omega
          have HML := hid hnb
          rw [hnb] at hcap
          rw [hnb]
          have HBM := hid hbm
          clear hbm hm hnb hpl HOW hsum
          go_wp2_with fail
          refine (words8_any _ _ ?_).mono ?_
          · decide +kernel
          rintro e w4 ⟨⟨gv, cv, rfl, hcv, hrv⟩, hb4⟩
          have HRV := hid hrv; have HB4 := hid hb4; clear hrv hb4
          go_wp2_with fail
          refine (words64_any _ _ ?_).mono ?_
          · decide +kernel
          rintro e w5 ⟨⟨gk, ck, rfl, hck, hrk⟩, hb5⟩
          have HRK := hid hrk; have HB5 := hid (HB4.out.trans (hb5.mono HB4.out.size)); have HRV5 := hid (HRV.out.keep hb5)
          clear hrk hb5 HRV HB4
          have HBM5 := hid (HBM.out.keep HB5.out)
          have HSM5 := hid (HSM.out.keep (HB5.out.mono HSM.out.lt))
          clear HBM HSM HB5
          go_wp2_with fail
          go_loopw [6, 8] (fun v i W => ∃ (k g' c' : Nat), k ≤ nb ∧ i = .int .i64 ((64 : Int) * k) ∧ v = .slice (some ⟨g', 0, none⟩) 8 c' ∧ 8 ≤ c' ∧ Row32 W (some ⟨g', 0, none⟩) (blocks m k).list ∧ Below w5.heap.size w5 W) (fun _ i _ => 64 * nb - (intOf i).toNat)
          case atStart => exact ⟨0, gv, cv, by omega, by go_num, rfl, hcv, HRV5.out, Below.refl _ _⟩
          case round =>
            clear HRV5 hcv
            obtain ⟨k, g', c', hk, rfl, rfl, hc', hrow, hbel⟩ := hrel
            have HROW := hid hrow
            have HBE := hid hbel
            clear hrow hbel
            by_cases hlt : k < nb
            ·
              --[C
              have d1 : (64 : Int) * (k : Int) < ((64 * nb : Nat) : Int) := by omega
              have l0 : (0 : Int) ≤ (64 : Int) * (k : Int) := by omega
              have l1 : (0 : Int) ≤ (64 : Int) * (k : Int) + 64 := by omega
              have l2 : (64 : Int) * (k : Int) ≤ (64 : Int) * (k : Int) + 64 := by omega
              have l3 : (64 : Int) * (k : Int) + 64 ≤ (cap : Int) := by omega
              have hby := bytes_sub (HBM5.out.keep HBE.out) (64 * k) 64 (by rw [HML.out]; omega)
              rw [Nat.zero_add] at hby
              have HC := hid (comp1_any (blocks m k) g' 0 c' g (64 * k) (cap - 64 * k) gk 0 ck (chunkOf m k) wr HROW.out hby (HRK.out.keep HBE.out) (chunkOf_length HML.out hlt) hc' (by omega) hck)
              have HBS := hid (show compress (blocks m k) (chunkOf m k) = blocks m (k + 1) from rfl)
              rw [HBS.out] at HC
              clear hby
              go_wp2_with ((with_reducible refine (HC.out).mono ?_); rintro e w6 ⟨⟨g6, rfl, hr6⟩, hb6⟩; have HR6 := hid hr6; have HB6 := hid (HBE.out.trans (hb6.mono HBE.out.size)); clear hr6 hb6)
              go_roundw
              case rel => exact ⟨k + 1, g6, 8, by omega, by go_num, rfl, by omega, HR6.out, HB6.out⟩
              case measure => simp [intOf]; omega
              --]C
            · obtain rfl : k = nb := by omega
              obtain ⟨s, hs⟩ : ∃ s, blocks m k = s := ⟨_, rfl⟩
              rw [hs] at HROW HSUM
              have HS := hid (show sum bs = s.out 8 from HSUM.out)
              have HSM6 := hid (HSM5.out.keep (HBE.out.mono HSM5.out.lt))
              clear hs HSUM HSM5
              have hzr : (Array.replicate 32 (Value.int .u8 0)) = ((List.replicate 32 (0 : UInt8)).map u8).toArray := by kernel_rfl
              have HZT := hid (fun cs t (h : cs.size = 32) => alloc_there wr cs t 32 h)
              go_wp2_with (refine wpList_store_mid rfl _ _ _ rfl wr.heap.size 0 ((List.replicate 32 (0 : UInt8)).map u8).toArray rfl rfl (HZT.out _ _ rfl) (info32b (List.replicate 32 (0 : UInt8)) rfl) (all_u8 (List.replicate 32 0)) ?_)
              clear hzr
              obtain ⟨W7, hW7⟩ : ∃ W7, W7 = wr := ⟨_, rfl⟩
              subst hW7
              have HS32 := hid (show (sum bs).length = 32 from sum_length bs)
              obtain ⟨S, hS⟩ : ∃ S, sum bs = S := ⟨_, rfl⟩
              rw [hS] at HS HS32
              have HSS := hid hS
              clear hS
              go_loopw [10] (fun i W => ∃ k : Nat, k ≤ 32 ∧ i = .int .i64 k ∧ Arr W7 W7.heap.size (S.take k ++ List.replicate (32 - k) 0) W) (fun i _ => 32 - (intOf i).toNat)
              case atStart => exact ⟨0, by omega, rfl, Arr.start W7 _ _ rfl _ rfl⟩
              case round =>
                obtain ⟨k, hk, rfl, harr⟩ := hrel
                have HAR := hid harr
                clear harr
                by_cases hlt : k < 32
                ·
                  --[D
                  have k1 : (k : Int) < 32 := by omega
                  have k0 : (0 : Int) ≤ (k : Int) := by omega
                  have q1 : (k : Int) / 4 < 8 := by omega
                  have q0 : (0 : Int) ≤ (k : Int) / 4 := by omega
                  have qn : ((k : Int) / 4).toNat = k / 4 := by omega
                  have sh : (24 - 8 * ((k : Int) % 4)).toNat = 8 * (4 - 1 - k % 4) := by omega
                  have cv : wr.cell? ⟨g', k / 4, none⟩ = some (.int .u32 (n32 (s.at (k / 4)))) := by
                    obtain ⟨b, o, e, -, hc⟩ := (HROW.out.keep HAR.out.below).get (i := k / 4) (show k / 4 < 8 by omega)
                    cases e
                    rw [list_at s _ (by omega), Nat.zero_add] at hc
                    exact hc
                  obtain ⟨x, hx⟩ : ∃ x, s.at (k / 4) = x := ⟨_, rfl⟩
                  rw [hx] at cv
                  have hlen : (S.take k ++ List.replicate (32 - k) 0).length = 32 := by rw [List.length_append, List.length_take, List.length_replicate, HS32.out]; omega
                  have fa := (HAR.out.cell k (by rw [hlen]; exact hlt)).2
                  obtain ⟨y, ca⟩ : ∃ y, wr.cell? ⟨W7.heap.size, k, none⟩ = some y := ⟨_, (HAR.out.cell k (by rw [hlen]; exact hlt)).1⟩
                  have hget := out_get s 8 k hlt
                  rw [← HS.out, hx] at hget
                  have HNX := hid (set_next S k 32 _ hget hlt)
                  have HLE := hid (show k < (S.take k ++ List.replicate (32 - k) 0).length by rw [hlen]; exact hlt)
                  have HV8 := hid (val_shr x (8 * (4 - 1 - k % 4)))
                  clear hlen hget hx
                  go_wp2_with fail
                  go_roundw
                  case rel => exact ⟨k + 1, by omega, by go_num, by rw [← HNX.out, HV8.out]; exact HAR.out.put k _ HLE.out⟩
                  case measure => simp [intOf]; omega
                  --]D
                · obtain rfl : k = 32 := by omega
                  have e32 : ((32 : Nat) : Int) = 32 := rfl
                  rw [e32]
                  have hfull : S.take 32 ++ List.replicate (32 - 32) 0 = S := by rw [List.take_of_length_le (by rw [HS32.out]; exact Nat.le_refl _)]; simp
                  rw [hfull] at HAR
                  have HI := hid (info32 S HS32.out)
                  have HI2 := hid (info32b S HS32.out)
                  have HS7 := hid (HSM6.out.keep (HAR.out.below.mono HSM6.out.lt))
                  have HTH := hid (show wr.there w.heap.size 0 (S.map u8).toArray.size by simp only [List.size_toArray, List.length_map, HS32.out]; exact HS7.out.there)
                  clear e32 hfull
                  go_wp2_with (first
                    | (refine wpList_load_mid rfl _ _ rfl W7.heap.size 0 rfl _ _ HAR.out.rg rfl rfl HI.out ?_)
                    | (refine wpList_store_mid rfl _ _ _ rfl w.heap.size 0 _ rfl rfl HTH.out HI2.out (all_u8 S) ?_))
                  refine bodyPost_ret (results_mid rfl _ _ w.heap.size 0 (S.map u8) _ rfl (World.rangeAt_setCells_same _ _ _ _ (by simpa using HTH.out)) rfl rfl HI.out) rfl ⟨?_, ?_⟩
                  · rw [HSS.out]
                  · exact below_setCells (Nat.le_refl _) _ _ _ HS7.out.below
end Go.Proofs.YtbjfkliijhnloaaDoor
