/- The reference's proofs: bootchainref03's Prove. -/
import Derived.Test.YtbjfkliijhnloaaDoorR5
import Derived.Test.YtbjfkliijhnloaaDoorD5
namespace Go.Proofs.YtbjfkliijhnloaaDoor
open Go.RowKit
set_option linter.unusedVariables false

/-- append(s, d) of one digest onto a slice of the call's own. -/
theorem wp_appD {w : World} {ops : Array Oper} {rest : List Oper} {o : Oper} {a : Act} {Q : Exit → Act → World → Prop} (hgd : o.guard = none) (s x : Operand)
    (ho : o.op = .call { callee := .builtin .append, args := #[s, x], argTypes := #[22, 22] })
    (base : Nat) (v : Value) (ps : List (List UInt8)) (hs : a.eval s = v) (hown : OwnD base w v ps) (B : Nat) (c : Nat) (d : List UInt8) (hx : a.eval x = .slice (some ⟨B, 0, none⟩) 1 c) (hd : d.length = 16) (hnews : w.rangeAt B 0 (d.map u8))
    (hlen : ps.length ≤ 1000000) (hbase : base ≤ w.heap.size)
    (h : ∀ g cap w', OwnD base w' (.slice (some ⟨g, 0, none⟩) (ps.length + 1) cap) (ps ++ [d]) → Below base w w' → wpList Tryd.prog ops Q rest (a.put o.dst (.slice (some ⟨g, 0, none⟩) (ps.length + 1) cap)) w') : wpList Tryd.prog ops Q (o :: rest) a w := by
  obtain ⟨i, hi, hz, hsz, hby⟩ := infoDig'
  refine wpList_append_lies w hgd s x 22 ho base 28 i (.agg (Array.replicate 16 (.int .u8 0))) 16 16 Tryd.underlying22 hi hz hsz hby rfl (by decide) v ps.length (flat ps) hs hown ⟨B, 0, none⟩ 1 c (d.map u8) hx (by simp [hd])
    (fun j u hu => by rw [Addr.add_mid]; exact hnews j u hu) (fun u hu => by obtain ⟨y, _, rfl⟩ := List.mem_map.1 hu; rfl) (by omega) (by simp only [maxLen]; omega) (by omega) hbase _ rfl (fun g cap w' ho' hg _ _ => ?_)
  refine h g cap w' ?_ ((Below.refl base w).grown hg hbase hown.ownBlock)
  unfold OwnD
  rw [List.length_append, flat_snoc]
  exact ho'

def Proved (w : World) (q : List (List UInt8)) (e : Ending) (w' : World) : Prop :=
  (∃ p c', e = .returned (.tuple #[.slice p q.length c', .int .i64 0]) ∧ OwnD w.heap.size w' (.slice p q.length c') q) ∧ Below w.heap.size w w'

set_option maxRecDepth 100000 in
set_option maxHeartbeats 2000000 in
theorem prove1_any (f : Nat) : ∀ (ds : List (List UInt8)) (a : Option Addr) (n c i : Nat) (w : World), ds.length < f → All16 ds → Tab w → n = ds.length → 0 < n → n ≤ c → n ≤ 100000 → i < n → DigB w.heap.size w a ds →
    Calls Tryd.prog 17 #[.slice a n c, .int .i64 i] w (Proved w (proveF ds i)) := by
  induction f with
  | zero => intro ds a n c i w h; omega
  | succ f ih =>
    intro ds a n c i w hf h16 hT hn h0 hc hn2 hin hds
    subst hn
    have HIH := hid ih
    have HT := hid hT
    have HDS := hid hds
    have H16 := hid h16
    have i1 : (i : Int) < (ds.length : Int) := by omega
    have i0 : (0 : Int) ≤ (i : Int) := by omega
    have i2 : ¬ ((i : Int) < 0) := by omega
    have i3 : ¬ ((i : Int) ≥ (ds.length : Int)) := by omega
    clear hT hds h16 ih
    by_cases h1 : ds.length = 1
    · have HE := hid (proveF_one (ds := ds) (by omega) i)
      have b1 : (ds.length : Int) = 1 := by omega
      go_enter Tryd.func17, Tryd.ntmps17
      go_wp2_with fail
      go_ret2
      rw [HE.out]
      exact ⟨⟨none, 0, rfl, OwnD.nil _ _⟩, Below.refl _ _⟩
    · have hk := splitF_spec (show 1 < ds.length by omega)
      obtain ⟨k, hke⟩ : ∃ k, splitF ds.length = k := ⟨_, rfl⟩
      have hcl := HDS.out 0 (by omega)
      obtain ⟨b, off, rfl, -, -, -⟩ := hcl
      have HSP := hid (split3_any ds.length · (by omega) (by omega))
      rw [hke] at hk HSP
      have HKE := hid hke
      have b2 : ¬ ((ds.length : Int) = 1) := by omega
      have k0 : (0 : Int) ≤ (k : Int) := by omega
      have k1 : (k : Int) ≤ (ds.length : Int) := by omega
      have k2 : (k : Int) ≤ (c : Int) := by omega
      have k3 : (ds.length : Int) ≤ (c : Int) := by omega
      clear hke
      by_cases hlt : i < k
      ·
        --[A
        have d1 : (i : Int) < (k : Int) := by omega
        have lp : (ds.take k).length = k := by rw [List.length_take]; omega
        have lo : (ds.drop k).length = (ds.length - k) := by rw [List.length_drop]
        have HE := hid (show proveF ds i = proveF (ds.take k) i ++ [rootF (ds.drop k)] by have := proveF_left (ds := ds) (by omega) (i := i) (by rw [HKE.out]; exact hlt); rw [HKE.out] at this; exact this)
        have HW := hid (HIH.out (ds.take k) (some ⟨b, off, none⟩) k c i w (by omega) (H16.out.take k) HT.out lp.symm (by omega) (by omega) (by omega) (by omega) (HDS.out.take k))
        have hpl := (proveF_all16 ((ds.take k).length + 1) (ds.take k) i (Nat.lt_succ_self _)).2
        obtain ⟨q, hq⟩ : ∃ q, proveF (ds.take k) i = q := ⟨_, rfl⟩
        rw [hq] at hpl
        have hql : q.length ≤ 1000000 := by omega
        have HRT := hid (fun (w3 : World) (hb3 : Below w.heap.size w w3) => root1_any ((ds.drop k).length + 1) (ds.drop k) (some ⟨b, off + k * 16, none⟩) (ds.length - k) (c - k) w3 (Nat.lt_succ_self _) (H16.out.drop k) (HT.out.keep hb3) lo.symm (by omega) (by omega) (((HDS.out.drop k).keep hb3).mono hb3.size))
        obtain ⟨r, hr⟩ : ∃ r, rootF (ds.drop k) = r := ⟨_, rfl⟩
        have HR16 := hid (show r.length = 16 by rw [← hr]; exact rootF_length _)
        rw [hq] at HW
        rw [hr] at HRT HE
        have HEQ := hid (show proveF ds i = q ++ [r] by rw [HE.out, hq])
        have hsr : (List.map u8 r).toArray.size = 16 := by simp [HR16.out]
        have hsr2 : List.length r = 16 := HR16.out
        have hfd := fold_dig r HR16.out
        clear hq hr lp lo hpl HE
        go_enter Tryd.func17, Tryd.ntmps17
        go_wp2_with (first
          | ((with_reducible refine (HSP.out _).mono ?_); rintro e w2 ⟨rfl, rfl⟩)
          | (go_at_call 17; (with_reducible refine (HW.out).mono ?_); rintro e w3 ⟨⟨p3, c3, rfl, ho3⟩, hb3⟩; have HO3 := hid ho3; have HB3 := hid hb3; clear hb3 ho3)
          | (go_at_call 19; (with_reducible refine (HRT.out _ HB3.out).mono ?_); rintro e w4 ⟨rfl, hb4⟩; have HB4 := hid hb4; clear hb4)
          | (at_builtin; refine wp_appD rfl _ _ rfl w.heap.size _ q rfl ((HO3.out.keep HB4.out).keep (below_alloc w4 _)) w4.heap.size 1 r rfl HR16.out (dig_range w4 r _) hql (alloc_le' (Nat.le_trans HB3.out.size HB4.out.size) _) (fun g cap w6 ho6 hb6 => ?_); have HO6 := hid ho6; have HB6 := hid (keep_app (Nat.le_trans HB3.out.size HB4.out.size) hb6); clear ho6 hb6))
        go_ret2
        rw [HEQ.out]
        exact ⟨⟨some ⟨g, 0, none⟩, cap, by rw [List.length_append]; rfl, by rw [List.length_append]; exact HO6.out⟩, (HB3.out.trans (HB4.out.mono HB3.out.size)).trans HB6.out⟩
        --]A
      ·
        --[B
        have d1 : ¬ ((i : Int) < (k : Int)) := by omega
        have ew : IntKind.i64.wrap ((i : Int) - (k : Int)) = ((i - k : Nat) : Int) := by simp [IntKind.wrap, IntKind.bits, IntKind.signed]; omega
        have lp : (ds.drop k).length = (ds.length - k) := by rw [List.length_drop]
        have lo : (ds.take k).length = k := by rw [List.length_take]; omega
        have HE := hid (show proveF ds i = proveF (ds.drop k) (i - k) ++ [rootF (ds.take k)] by have := proveF_right (ds := ds) (by omega) (i := i) (by rw [HKE.out]; exact hlt); rw [HKE.out] at this; exact this)
        have HW := hid (HIH.out (ds.drop k) (some ⟨b, off + k * 16, none⟩) (ds.length - k) (c - k) (i - k) w (by omega) (H16.out.drop k) HT.out lp.symm (by omega) (by omega) (by omega) (by omega) (HDS.out.drop k))
        have hpl := (proveF_all16 ((ds.drop k).length + 1) (ds.drop k) (i - k) (Nat.lt_succ_self _)).2
        obtain ⟨q, hq⟩ : ∃ q, proveF (ds.drop k) (i - k) = q := ⟨_, rfl⟩
        rw [hq] at hpl
        have hql : q.length ≤ 1000000 := by omega
        have HRT := hid (fun (w3 : World) (hb3 : Below w.heap.size w w3) => root1_any ((ds.take k).length + 1) (ds.take k) (some ⟨b, off, none⟩) k c w3 (Nat.lt_succ_self _) (H16.out.take k) (HT.out.keep hb3) lo.symm (by omega) (by omega) (((HDS.out.take k).keep hb3).mono hb3.size))
        obtain ⟨r, hr⟩ : ∃ r, rootF (ds.take k) = r := ⟨_, rfl⟩
        have HR16 := hid (show r.length = 16 by rw [← hr]; exact rootF_length _)
        rw [hq] at HW
        rw [hr] at HRT HE
        have HEQ := hid (show proveF ds i = q ++ [r] by rw [HE.out, hq])
        have hsr : (List.map u8 r).toArray.size = 16 := by simp [HR16.out]
        have hsr2 : List.length r = 16 := HR16.out
        have hfd := fold_dig r HR16.out
        clear hq hr lp lo hpl HE
        go_enter Tryd.func17, Tryd.ntmps17
        go_wp2_with (first
          | ((with_reducible refine (HSP.out _).mono ?_); rintro e w2 ⟨rfl, rfl⟩)
          | (go_at_call 17; (with_reducible refine (HW.out).mono ?_); rintro e w3 ⟨⟨p3, c3, rfl, ho3⟩, hb3⟩; have HO3 := hid ho3; have HB3 := hid hb3; clear hb3 ho3)
          | (go_at_call 19; (with_reducible refine (HRT.out _ HB3.out).mono ?_); rintro e w4 ⟨rfl, hb4⟩; have HB4 := hid hb4; clear hb4)
          | (at_builtin; refine wp_appD rfl _ _ rfl w.heap.size _ q rfl ((HO3.out.keep HB4.out).keep (below_alloc w4 _)) w4.heap.size 1 r rfl HR16.out (dig_range w4 r _) hql (alloc_le' (Nat.le_trans HB3.out.size HB4.out.size) _) (fun g cap w6 ho6 hb6 => ?_); have HO6 := hid ho6; have HB6 := hid (keep_app (Nat.le_trans HB3.out.size HB4.out.size) hb6); clear ho6 hb6))
        go_ret2
        rw [HEQ.out]
        exact ⟨⟨some ⟨g, 0, none⟩, cap, by rw [List.length_append]; rfl, by rw [List.length_append]; exact HO6.out⟩, (HB3.out.trans (HB4.out.mono HB3.out.size)).trans HB6.out⟩
        --]B

set_option maxRecDepth 100000 in
set_option maxHeartbeats 2000000 in
theorem prove1_bad (a : Option Addr) (n c : Nat) (i : Int) (w : World) (hi : i < 0 ∨ (n : Int) ≤ i) :
    Calls Tryd.prog 17 #[.slice a n c, .int .i64 i] w fun e w' => e = .returned (.tuple #[.slice none 0 0, .int .i64 1]) ∧ w = w' := by
  rcases hi with hi | hi
  · go_enter Tryd.func17, Tryd.ntmps17
    go_wp2_with fail
    go_ret2
    exact ⟨rfl, rfl⟩
  · have h0 : ¬ (i < 0) := by omega
    have h1 : i ≥ (n : Int) := by omega
    go_enter Tryd.func17, Tryd.ntmps17
    go_wp2_with fail
    go_ret2
    exact ⟨rfl, rfl⟩
end Go.Proofs.YtbjfkliijhnloaaDoor
