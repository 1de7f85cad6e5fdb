/- merkle's Verify walked. -/
import Derived.Test.YtbjfkliijhnloaaDoorE0
namespace Go.Proofs.YtbjfkliijhnloaaDoor
open Go.RowKit
set_option linter.unusedVariables false

def sidesN : Nat → Nat → Nat → List Bool
  | 0, _, _ => []
  | f + 1, n, i => if n ≤ 1 then [] else decide (i < splitF n) :: (if i < splitF n then sidesN f (splitF n) i else sidesN f (n - splitF n) (i - splitF n))
def sidesF (n i : Nat) : List Bool := sidesN (n + 1) n i
theorem sidesN_stable : ∀ (f g n i : Nat), n < f → n < g → sidesN f n i = sidesN g n i
  | 0, _, _, _, h, _ => by omega
  | f + 1, 0, _, _, _, h => by omega
  | f + 1, g + 1, n, i, hf, hg => by
    unfold sidesN
    by_cases h0 : n ≤ 1
    · rw [if_pos h0, if_pos h0]
    · have hs := splitF_spec (show 1 < n by omega)
      rw [if_neg h0, if_neg h0, sidesN_stable f g (splitF n) i (by omega) (by omega), sidesN_stable f g (n - splitF n) _ (by omega) (by omega)]
theorem sidesF_one {n : Nat} (h : n ≤ 1) (i : Nat) : sidesF n i = [] := by unfold sidesF sidesN; rw [if_pos h]
theorem sidesF_left {n : Nat} (h : 1 < n) {i : Nat} (hi : i < splitF n) : sidesF n i = true :: sidesF (splitF n) i := by
  have hs := splitF_spec h
  unfold sidesF
  rw [sidesN, if_neg (by omega), decide_eq_true hi, if_pos hi, sidesN_stable n (splitF n + 1) (splitF n) i (by omega) (Nat.lt_succ_self _)]
theorem sidesF_right {n : Nat} (h : 1 < n) {i : Nat} (hi : ¬ i < splitF n) : sidesF n i = false :: sidesF (n - splitF n) (i - splitF n) := by
  have hs := splitF_spec h
  unfold sidesF
  rw [sidesN, if_neg (by omega), decide_eq_false hi, if_neg hi, sidesN_stable n (n - splitF n + 1) (n - splitF n) _ (by omega) (Nat.lt_succ_self _)]
theorem sidesF_length (f : Nat) : ∀ (n i : Nat), n < f → (sidesF n i).length ≤ n := by
  induction f with
  | zero => intro n i h; omega
  | succ f ih =>
    intro n i h
    by_cases h1 : n ≤ 1
    · rw [sidesF_one h1]; simp
    · have hs := splitF_spec (show 1 < n by omega)
      by_cases hi : i < splitF n
      · rw [sidesF_left (by omega) hi]; have := ih (splitF n) i (by omega); simp; omega
      · rw [sidesF_right (by omega) hi]; have := ih (n - splitF n) (i - splitF n) (by omega); simp; omega
/-- From the leaf's digest to the root. -/
def climb (d : List UInt8) (l : List (Bool × List UInt8)) : List UInt8 := l.foldl (fun d p => if p.1 then nodeD d p.2 else nodeD p.2 d) d
def upto (s : List Bool) (proof : List (List UInt8)) (d : List UInt8) (j : Nat) : List UInt8 := climb d ((s.reverse.zip proof).take j)
theorem climb_length (d : List UInt8) (l : List (Bool × List UInt8)) (hd : d.length = 16) : (climb d l).length = 16 := by
  unfold climb
  induction l generalizing d with
  | nil => exact hd
  | cons p l ih =>
    rw [List.foldl_cons]
    refine ih _ ?_
    split <;> exact nodeD_length _ _
theorem upto_succ (s : List Bool) (proof : List (List UInt8)) (d : List UInt8) (j : Nat) (hs : s.length = proof.length) (hj : j < proof.length) :
    upto s proof d (j + 1) = if s[s.length - 1 - j]'(by omega) then nodeD (upto s proof d j) proof[j] else nodeD proof[j] (upto s proof d j) := by
  unfold upto
  have hz : j < (s.reverse.zip proof).length := by simp; omega
  rw [List.take_succ_eq_append_getElem hz]
  unfold climb
  rw [List.foldl_append, List.foldl_cons, List.foldl_nil, List.getElem_zip, List.getElem_reverse]
def verifyF (root : List UInt8) (n i : Nat) (leaf : List UInt8) (proof : List (List UInt8)) : Bool :=
  decide ((sidesF n i).length = proof.length) && decide (climb (leafD leaf) ((sidesF n i).reverse.zip proof) = root)

/-- While Verify goes up: the variable d lies in the block behind w5. -/
structure LV (w5 : World) (d : List UInt8) (wr : World) : Prop where
  below : Below w5.heap.size w5 wr
  rg : wr.rangeAt w5.heap.size 0 (d.map u8)
  th : wr.there w5.heap.size 0 16
  lt : w5.heap.size < wr.heap.size
theorem size_setCells (b : Nat) : ∀ (vs : List Value) (o : Nat) (w : World), (w.setCells b o vs).heap.size = w.heap.size
  | [], _, _ => rfl
  | v :: r, o, w => by rw [World.setCells, size_setCells b r (o + 1)]; simp
theorem LV.start (w5 : World) (Z : Array Value) (t : TypeId) (hZ : Z.size = 16) (d : List UInt8) (hd : d.length = 16) : LV w5 d ((w5.alloc (.cells Z t)).setCells w5.heap.size 0 (d.map u8).toArray.toList) :=
  ⟨below_setCells (Nat.le_refl _) _ _ _ (below_alloc w5 _), World.rangeAt_setCells_same _ _ _ _ (by have := alloc_there w5 Z t 16 hZ; simpa [hd] using this), World.there_setCells (alloc_there w5 Z t 16 hZ) _ _ _, by rw [size_setCells]; simp⟩
theorem LV.keep {w5 wr w' : World} {d : List UInt8} (h : LV w5 d wr) (k : Below wr.heap.size wr w') : LV w5 d w' :=
  ⟨h.below.trans (k.mono (Nat.le_of_lt h.lt)), range_keep h.rg k h.lt, there_keep h.th k h.lt, Nat.lt_of_lt_of_le h.lt k.size⟩
theorem LV.set {w5 wr : World} {d : List UInt8} (h : LV w5 d wr) (d' : List UInt8) (hd : d'.length = 16) : LV w5 d' (wr.setCells w5.heap.size 0 (d'.map u8).toArray.toList) :=
  ⟨below_setCells (Nat.le_refl _) _ _ _ h.below, World.rangeAt_setCells_same _ _ _ _ (by simpa [hd] using h.th), World.there_setCells h.th _ _ _, by rw [size_setCells]; exact h.lt⟩
theorem below_box (wr : World) (Z : Array Value) (t : TypeId) (l : List Value) : Below wr.heap.size wr ((wr.alloc (.cells Z t)).setCells wr.heap.size 0 l) := below_setCells (Nat.le_refl _) _ _ _ (below_alloc wr _)

set_option maxRecDepth 100000 in
set_option maxHeartbeats 2000000 in
theorem verify_bad (root leaf : List UInt8) (hr : root.length = 16) (hl : leaf.length = 16) (n : Nat) (i : Int) (a : Option Addr) (m c : Nat) (w : World) (hi : i < 0 ∨ (n : Int) ≤ i) :
    Calls Tryd.prog 21 #[.agg (root.map u8).toArray, .int .i64 n, .int .i64 i, .agg (leaf.map u8).toArray, .slice a m c] w fun e w' => e = .returned (.bool false) ∧ Below w.heap.size w w' := by
  have hs1 : (List.map u8 root).toArray.size = 16 := by simp [hr]
  have hs2 : (List.map u8 leaf).toArray.size = 16 := by simp [hl]
  have hb := (below_alloc w (.cells (root.map u8).toArray 28)).alloc (by simp) (.cells (leaf.map u8).toArray 28)
  rcases hi with hi | hi
  · go_enter Tryd.func21, Tryd.ntmps21
    go_wp2_with fail
    go_ret
    exact ⟨rfl, hb⟩
  · have h0 : ¬ (i < 0) := by omega
    have h1 : i ≥ (n : Int) := by omega
    go_enter Tryd.func21, Tryd.ntmps21
    go_wp2_with fail
    go_ret
    exact ⟨rfl, hb⟩

set_option maxRecDepth 100000 in
set_option maxHeartbeats 2000000 in
theorem verify_ok (root leaf : List UInt8) (hr : root.length = 16) (hl : leaf.length = 16) (n i : Nat) (hin : i < n) (hn2 : n ≤ 100000) (proof : List (List UInt8)) (hp16 : All16 proof) (a : Option Addr) (m c : Nat) (hm : m = proof.length) (hmc : m ≤ 1000000) (w : World) (hT : Tab w) (hpr : DigB w.heap.size w a proof) :
    Calls Tryd.prog 21 #[.agg (root.map u8).toArray, .int .i64 n, .int .i64 i, .agg (leaf.map u8).toArray, .slice a m c] w fun e w' => e = .returned (.bool (verifyF root n i leaf proof)) ∧ Below w.heap.size w w' := by
  subst hm
  have hs1 : (List.map u8 root).toArray.size = 16 := by simp [hr]
  have hs2 : (List.map u8 leaf).toArray.size = 16 := by simp [hl]
  obtain ⟨W0, hW0⟩ : ∃ W0, (w.alloc (.cells (root.map u8).toArray 28)).alloc (.cells (leaf.map u8).toArray 28) = W0 := ⟨_, rfl⟩
  have hb0 : Below w.heap.size w W0 := by rw [← hW0]; exact (below_alloc w _).alloc (by simp) _
  have hz0 : W0.heap.size = w.heap.size + 2 := by rw [← hW0]; simp
  have HRR := hid (show W0.rangeAt w.heap.size 0 (root.map u8) by rw [← hW0]; exact range_keep (dig_range w root _) (below_alloc _ _) (by simp))
  have HRL := hid (show W0.rangeAt (w.heap.size + 1) 0 (leaf.map u8) by
    have := dig_range (w.alloc (.cells (root.map u8).toArray 28)) leaf 28
    rw [World.size_alloc] at this; rw [← hW0]; exact this)
  have HT := hid (hT.keep hb0)
  have HPR := hid (hpr.keep hb0)
  have HB0 := hid hb0
  have HP16 := hid hp16
  have i0 : ¬ ((i : Int) < 0) := by omega
  have i1 : ¬ ((i : Int) ≥ (n : Int)) := by omega
  clear hT hpr hb0 hp16
  have HW0 := hid hW0
  clear hW0
  go_enter Tryd.func21, Tryd.ntmps21
  go_wp2_with fail
  rw [HW0.out]
  go_loopw [1, 2, 11] (fun n' i' v wr => ∃ (nn ii : Nat) (s : List Bool), n' = .int .i64 nn ∧ i' = .int .i64 ii ∧ ii < nn ∧ nn ≤ n ∧ OwnBl W0.heap.size wr v s ∧ Hid (s ++ sidesF nn ii = sidesF n i) ∧ Below W0.heap.size W0 wr) (fun n' _ _ _ => (intOf n').toNat)
  case atStart => exact ⟨n, i, [], rfl, rfl, hin, Nat.le_refl _, OwnBl.nil _ _, hid (List.nil_append _), Below.refl _ _⟩
  case round =>
    obtain ⟨nn, ii, s, rfl, rfl, hii, hnn, hown, HSD, hbel⟩ := hrel
    have HOW := hid hown; have HBE := hid hbel
    clear hown hbel
    have hsl : s.length ≤ 100000 := by
      have h1 := sidesF_length (n + 1) n i (Nat.lt_succ_self _)
      rw [← HSD.out, List.length_append] at h1
      omega
    by_cases h1 : 1 < nn
    · have d1 : (nn : Int) > 1 := by omega
      have hk := splitF_spec h1
      have HSP := hid (split_any nn wr h1 (by omega))
      have HSL := hid (fun h => sidesF_left (n := nn) h1 (i := ii) h)
      have HSR := hid (fun h => sidesF_right (n := nn) h1 (i := ii) h)
      obtain ⟨k, hke⟩ : ∃ k, splitF nn = k := ⟨_, rfl⟩
      rw [hke] at hk HSP HSL HSR
      clear hke
      by_cases hlt : ii < k
      · have d2 : (ii : Int) < (k : Int) := by omega
        go_wp2_with (first
          | ((with_reducible refine (HSP.out).mono ?_); rintro e w2 ⟨rfl, rfl⟩)
          | (at_builtin; refine wp_appB rfl _ _ rfl W0.heap.size _ s rfl (HOW.out.keep (below_alloc wr _)) wr.heap.size 1 true rfl (lit1 rfl rfl) (by omega) (alloc_le' HBE.out.size _) (fun v2 w2 hv2 hb2 => ?_); have HV2 := hid hv2; have HB2 := hid (keep_app HBE.out.size hb2); clear hv2 hb2))
        go_roundw
        case rel => exact ⟨k, ii, s ++ [true], rfl, rfl, hlt, by omega, HV2.out, hid (by rw [List.append_assoc, List.singleton_append, ← HSL.out hlt]; exact HSD.out), HBE.out.trans HB2.out⟩
        case measure => simp [intOf]; omega
      · have d2 : ¬ ((ii : Int) < (k : Int)) := by omega
        have e1 : IntKind.i64.wrap ((nn : Int) - (k : Int)) = ((nn - k : Nat) : Int) := by simp [IntKind.wrap, IntKind.bits, IntKind.signed]; omega
        have e2 : IntKind.i64.wrap ((ii : Int) - (k : Int)) = ((ii - k : Nat) : Int) := by simp [IntKind.wrap, IntKind.bits, IntKind.signed]; omega
        go_wp2_with (first
          | ((with_reducible refine (HSP.out).mono ?_); rintro e w2 ⟨rfl, rfl⟩)
          | (at_builtin; refine wp_appB rfl _ _ rfl W0.heap.size _ s rfl (HOW.out.keep (below_alloc wr _)) wr.heap.size 1 false rfl (lit1 rfl rfl) (by omega) (alloc_le' HBE.out.size _) (fun v2 w2 hv2 hb2 => ?_); have HV2 := hid hv2; have HB2 := hid (keep_app HBE.out.size hb2); clear hv2 hb2))
        go_roundw
        case rel => exact ⟨nn - k, ii - k, s ++ [false], rfl, rfl, by omega, by omega, HV2.out, hid (by rw [List.append_assoc, List.singleton_append, ← HSR.out hlt]; exact HSD.out), HBE.out.trans HB2.out⟩
        case measure => simp [intOf]; omega
    · have d1 : ¬ ((nn : Int) > 1) := by omega
      have hse : s = sidesF n i := by have := HSD.out; rw [sidesF_one (by omega), List.append_nil] at this; exact this
      have HSE := hid hse
      clear hse
      obtain ⟨sa, sc, rfl, hrow⟩ := HOW.out.row
      have HROW := hid hrow
      clear hrow
      by_cases hlen : s.length = proof.length
      · have d3 : ((s.length : Int) = (proof.length : Int)) := by omega
        have HV := hid (show verifyF root n i leaf proof = decide (upto s proof (leafD leaf) proof.length = root) by
          unfold verifyF upto
          rw [← HSE.out, decide_eq_true hlen, Bool.true_and, List.take_of_length_le (by simp; omega)])
        obtain ⟨d0, hd0⟩ : ∃ d0, leafD leaf = d0 := ⟨_, rfl⟩
        have HD0 := hid (show d0.length = 16 by rw [← hd0]; exact leafD_length _)
        have HLE := hid hd0
        rw [hd0] at HV
        clear hd0
        have HLF := hid (fun (W : World) (hT : Tab W) => leaf_any leaf hl W hT)
        rw [HLE.out] at HLF
        have HRL1 := hid (range_keep HRL.out HBE.out (by omega))
        have HI := hid (info16 leaf hl)
        have HI0 := hid (info16a d0 HD0.out)
        go_wp2_with (first
          | (refine wpList_load_mid rfl _ _ rfl (w.heap.size + 1) 0 rfl _ _ HRL1.out rfl rfl HI.out ?_)
          | (go_at_call 43; (with_reducible refine (HLF.out _ (HT.out.keep HBE.out)).mono ?_); rintro e w5 ⟨rfl, hb5⟩; have HB5 := hid (HBE.out.trans (hb5.mono HBE.out.size)); have HB5r := hid hb5; clear hb5)
          | (refine wpList_store_mid rfl _ _ _ rfl w5.heap.size 0 _ rfl rfl (there16 (alloc_there w5 _ _ 16 rfl) _ HD0.out) HI0.out (all_u8 d0) ?_))
        go_loopw [52] (fun jv wr => ∃ j : Nat, j ≤ proof.length ∧ jv = .int .i64 j ∧ LV w5 (upto s proof d0 j) wr) (fun jv _ => proof.length - (intOf jv).toNat)
        case atStart => exact ⟨0, Nat.zero_le _, rfl, LV.start w5 _ _ rfl _ HD0.out⟩
        case round =>
          obtain ⟨j, hj, rfl, hlv⟩ := hrel
          have HLV := hid hlv
          clear hlv
          have HBW := hid (HB5.out.trans (HLV.out.below.mono HB5.out.size))
          by_cases hjl : j < proof.length
          · have j1 : (j : Int) < (proof.length : Int) := by omega
            have j0 : (0 : Int) ≤ (j : Int) := by omega
            obtain ⟨b, off, rfl, hb, hbl, hrg⟩ := (HPR.out.keep (HBW.out.mono (by omega))) j hjl
            obtain ⟨b2, o2, rfl, hl2, hc2⟩ := HROW.out.keep (HB5r.out.trans (HLV.out.below.mono HB5r.out.size)) (s.length - 1 - j) (by omega)
            have HUS := hid (upto_succ s proof d0 j hlen hjl)
            have HSB := hid (HP16.out _ (List.getElem_mem hjl))
            have hsdd : s.getD (s.length - 1 - j) false = s[s.length - 1 - j]'(by omega) := by simp [List.getD, show s.length - 1 - j < s.length by omega]
            have hc2 : wr.cell? ⟨b2, o2 + (s.length - 1 - j), none⟩ = some (.bool (s.getD (s.length - 1 - j) false)) := hc2
            rw [hsdd] at hc2
            obtain ⟨sd, hsd⟩ : ∃ sd, s[s.length - 1 - j]'(by omega) = sd := ⟨_, rfl⟩
            obtain ⟨sb, hsb⟩ : ∃ sb, proof[j] = sb := ⟨_, rfl⟩
            obtain ⟨dj, hdj⟩ : ∃ dj, upto s proof d0 j = dj := ⟨_, rfl⟩
            have HDJ := hid (show dj.length = 16 by rw [← hdj]; exact climb_length _ _ HD0.out)
            rw [hsb] at HUS HSB hrg
            rw [hdj] at HUS HLV
            have HRG := hid (show wr.rangeAt b (off + j * 16) (sb.map u8) by rw [Nat.mul_comm]; exact hrg)
            have HISB := hid (info16 sb HSB.out)
            have HISA := hid (info16a sb HSB.out)
            have HIDJ := hid (info16 dj HDJ.out)
            have HDR := hid (fun (Z : Array Value) t => range_keep HLV.out.rg (below_box wr Z t (sb.map u8).toArray.toList) HLV.out.lt)
            have HSR := hid (fun (Z : Array Value) (hZ : Z.size = 16) t => (World.rangeAt_setCells_same (wr.alloc (.cells Z t)) wr.heap.size 0 (sb.map u8) (by have := alloc_there wr Z t 16 hZ; simpa [HSB.out] using this)))
            have HTW := hid (fun (Z : Array Value) t => (HT.out.keep HBW.out).keep (below_box wr Z t (sb.map u8).toArray.toList))
            have e5 : IntKind.i64.wrap ((proof.length : Int) - 1) = ((proof.length - 1 : Nat) : Int) := by simp [IntKind.wrap, IntKind.bits, IntKind.signed]; omega
            have e6 : IntKind.i64.wrap (((proof.length - 1 : Nat) : Int) - (j : Int)) = ((proof.length - 1 - j : Nat) : Int) := by simp [IntKind.wrap, IntKind.bits, IntKind.signed]; omega
            have e7 : ((proof.length - 1 - j : Nat) : Int) < (proof.length : Int) := by omega
            have e8 : (0 : Int) ≤ ((proof.length - 1 - j : Nat) : Int) := by omega
            clear hrg hsdd hsb hdj
            rw [hsd] at hc2
            rw [hlen] at hc2
            cases sd
            · have HE := hid (show upto s proof d0 (j + 1) = nodeD sb dj by rw [HUS.out, if_neg (by rw [hsd]; decide)])
              have HN := hid (fun (W : World) (hT : Tab W) => node_any sb dj HSB.out HDJ.out W hT)
              obtain ⟨dn, hdn⟩ : ∃ dn, nodeD sb dj = dn := ⟨_, rfl⟩
              have HDN := hid (show dn.length = 16 by rw [← hdn]; exact nodeD_length _ _)
              have HIN := hid (info16a dn HDN.out)
              rw [hdn] at HN HE
              have HC2 := hid (fun (Z : Array Value) t l => ((below_box wr Z t l).cell (p := ⟨b2, o2 + (proof.length - 1 - j), none⟩) hl2).trans hc2)
              have hc3 := HC2.out
              clear hdn hc2
              go_wp2_with (first
                | (refine wpList_load_mid rfl _ _ rfl b (off + j * 16) rfl _ _ HRG.out rfl rfl HISB.out ?_)
                | (refine wpList_store_mid rfl _ _ _ rfl wr.heap.size 0 _ rfl rfl (there16 (alloc_there wr _ _ 16 rfl) _ HSB.out) HISA.out (all_u8 sb) ?_)
                | (refine wpList_load_mid rfl _ _ rfl w5.heap.size 0 rfl _ _ (HDR.out _ _) rfl rfl HIDJ.out ?_)
                | (refine wpList_load_mid rfl _ _ rfl wr.heap.size 0 rfl _ _ (HSR.out _ rfl _) rfl rfl HISB.out ?_)
                | (go_at_call 44; (with_reducible refine (HN.out _ (HTW.out _ _)).mono ?_); rintro e w7 ⟨rfl, hb7⟩; have HB7 := hid ((below_box wr _ _ _).trans (hb7.mono (below_box wr _ _ _).size)); clear hb7)
                | (refine wpList_store_mid rfl _ _ _ rfl w5.heap.size 0 _ rfl rfl (there16 (HLV.out.keep HB7.out).th _ HDN.out) HIN.out (all_u8 dn) ?_))
              go_roundw
              case rel => exact ⟨j + 1, hjl, by go_num, by rw [HE.out]; exact (HLV.out.keep HB7.out).set dn HDN.out⟩
              case measure => simp [intOf]; omega
            · have HE := hid (show upto s proof d0 (j + 1) = nodeD dj sb by rw [HUS.out, if_pos (hsd)])
              have HN := hid (fun (W : World) (hT : Tab W) => node_any dj sb HDJ.out HSB.out W hT)
              obtain ⟨dn, hdn⟩ : ∃ dn, nodeD dj sb = dn := ⟨_, rfl⟩
              have HDN := hid (show dn.length = 16 by rw [← hdn]; exact nodeD_length _ _)
              have HIN := hid (info16a dn HDN.out)
              rw [hdn] at HN HE
              have HC2 := hid (fun (Z : Array Value) t l => ((below_box wr Z t l).cell (p := ⟨b2, o2 + (proof.length - 1 - j), none⟩) hl2).trans hc2)
              have hc3 := HC2.out
              clear hdn hc2
              go_wp2_with (first
                | (refine wpList_load_mid rfl _ _ rfl b (off + j * 16) rfl _ _ HRG.out rfl rfl HISB.out ?_)
                | (refine wpList_store_mid rfl _ _ _ rfl wr.heap.size 0 _ rfl rfl (there16 (alloc_there wr _ _ 16 rfl) _ HSB.out) HISA.out (all_u8 sb) ?_)
                | (refine wpList_load_mid rfl _ _ rfl w5.heap.size 0 rfl _ _ (HDR.out _ _) rfl rfl HIDJ.out ?_)
                | (refine wpList_load_mid rfl _ _ rfl wr.heap.size 0 rfl _ _ (HSR.out _ rfl _) rfl rfl HISB.out ?_)
                | (go_at_call 44; (with_reducible refine (HN.out _ (HTW.out _ _)).mono ?_); rintro e w7 ⟨rfl, hb7⟩; have HB7 := hid ((below_box wr _ _ _).trans (hb7.mono (below_box wr _ _ _).size)); clear hb7)
                | (refine wpList_store_mid rfl _ _ _ rfl w5.heap.size 0 _ rfl rfl (there16 (HLV.out.keep HB7.out).th _ HDN.out) HIN.out (all_u8 dn) ?_))
              go_roundw
              case rel => exact ⟨j + 1, hjl, by go_num, by rw [HE.out]; exact (HLV.out.keep HB7.out).set dn HDN.out⟩
              case measure => simp [intOf]; omega
          · obtain rfl : j = proof.length := by omega
            obtain ⟨dj, hdj⟩ : ∃ dj, upto s proof d0 proof.length = dj := ⟨_, rfl⟩
            have HDJ := hid (show dj.length = 16 by rw [← hdj]; exact climb_length _ _ HD0.out)
            rw [hdj] at HLV HV
            have HR1 := hid (range_keep HRR.out HBW.out (by omega))
            have HI1 := hid (info16 dj HDJ.out)
            have HI2 := hid (info16 root hr)
            have heq := eqIn_dig dj root HDJ.out hr
            clear hdj
            go_wp2_with (first
              | (refine wpList_load_mid rfl _ _ rfl w5.heap.size 0 rfl _ _ HLV.out.rg rfl rfl HI1.out ?_)
              | (refine wpList_load_mid rfl _ _ rfl w.heap.size 0 rfl _ _ HR1.out rfl rfl HI2.out ?_))
            go_ret
            exact ⟨ret_bool HV.out.symm, HB0.out.trans (HBW.out.mono HB0.out.size)⟩
      · have d3 : ¬ ((s.length : Int) = (proof.length : Int)) := by omega
        have HV := hid (show verifyF root n i leaf proof = false by
          unfold verifyF
          rw [← HSE.out, decide_eq_false hlen, Bool.false_and])
        go_wp2_with fail
        go_ret
        exact ⟨ret_bool HV.out.symm, HB0.out.trans (HBE.out.mono HB0.out.size)⟩
end Go.Proofs.YtbjfkliijhnloaaDoor
