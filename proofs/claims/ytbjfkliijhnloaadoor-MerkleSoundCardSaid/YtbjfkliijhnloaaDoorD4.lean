/- merkle's Prove walked: its closure, and the function. -/
import Derived.Deep.RegionLaw
import Derived.Test.YtbjfkliijhnloaaDoorD3
namespace Go.Proofs.YtbjfkliijhnloaaDoor
open Go.RowKit
set_option linter.unusedVariables false

theorem Tab.keepN {N : Nat} {w w' : World} (h : Tab w) (hN : 1 < N) (k : Below N w w') : Tab w' :=
  ⟨fun j hj => by rw [k.cell (p := ⟨0, j, none⟩) (Nat.lt_trans (Nat.lt_succ_self 0) hN)]; exact h.st j hj, fun j v hv => by rw [k.cell (p := ⟨1, 0 + j, none⟩) hN]; exact h.ks j v hv, Nat.lt_of_lt_of_le h.lt k.size⟩
theorem fold_set (cs : List Value) : ∀ (pre post : List Value), post.length = cs.length → (cs.zipIdx pre.length).foldl (fun a x => a.setIfInBounds x.2 x.1) (pre ++ post).toArray = (pre ++ cs).toArray := by
  induction cs with
  | nil => intro pre post h; cases post with | nil => rfl | cons p post => simp at h
  | cons c cs ih =>
    intro pre post h
    cases post with
    | nil => simp at h
    | cons p post =>
      have := ih (pre ++ [c]) post (by simpa using h)
      rw [List.zipIdx_cons, List.foldl_cons]
      simpa using this
theorem fold_dig (r : List UInt8) (h : r.length = 16) : List.foldl (fun (cs : Array Value) x => cs.setIfInBounds x.snd x.fst) #[.int .u8 0, .int .u8 0, .int .u8 0, .int .u8 0, .int .u8 0, .int .u8 0, .int .u8 0, .int .u8 0, .int .u8 0, .int .u8 0, .int .u8 0, .int .u8 0, .int .u8 0, .int .u8 0, .int .u8 0, .int .u8 0] (r.map u8).zipIdx = (r.map u8).toArray := by
  have := fold_set (r.map u8) [] (List.replicate 16 (.int .u8 0)) (by simp [h])
  exact this
theorem PS.keep' {N : Nat} {w0 w w' : World} {ps : List (List UInt8)} (h : PS N w0 w ps) (k : Below (N + 2) w w') : w'.frozen? ⟨N, 0, none⟩ = false := by
  rw [k.frozen (p := ⟨N, 0, none⟩) (show N < _ by omega)]; exact h.no
theorem PS.push {N : Nat} {w0 w w4 : World} {ps q : List (List UInt8)} {r : List UInt8} (h : PS N w0 w ps) (k : Below (N + 2) w w4) (a : Option Addr) (c : Nat) (ho : OwnD (N + 2) w4 (.slice a (q.length + 1) c) (q ++ [r])) : PS N w0 (w4.setCell ⟨N, 0, none⟩ (.slice a (q.length + 1) c)) (q ++ [r]) := by
  have e : (q ++ [r]).length = q.length + 1 := by simp
  rw [← e] at ho ⊢
  exact h.set k a c ho

set_option maxRecDepth 100000 in
set_option maxHeartbeats 2000000 in
theorem walk_any (N : Nat) (HN1 : 1 < N) (w0 : World) (f : Nat) : ∀ (ds : List (List UInt8)) (a : Option Addr) (n c i : Nat) (ps : List (List UInt8)) (w : World), ds.length < f → All16 ds → Tab w → n = ds.length → 0 < n → n ≤ c → n ≤ 100000 → i < n → DigB N w a ds → PS N w0 w ps → ps.length + ds.length ≤ 1000000 →
    Calls Tryd.prog 40 #[.slice a n c, .int .i64 i, .pointer (some ⟨N + 1, 0, none⟩), .pointer (some ⟨N, 0, none⟩)] w fun e w' => (∃ v, e = .returned v) ∧ PS N w0 w' (ps ++ proveF ds i) ∧ Tab w' ∧ Below N w w' := by
  induction f with
  | zero => intro ds a n c i ps w h; omega
  | succ f ih =>
    intro ds a n c i ps w hf h16 hT hn h0 hc hn2 hin hds hP hlen
    subst hn
    have HIH := hid ih
    have HT := hid hT
    have HDS := hid hds
    have H16 := hid h16
    have HP := hid hP
    clear hT hds h16 hP ih
    by_cases h1 : ds.length = 1
    · have HE := hid (proveF_one (ds := ds) (by omega) i)
      go_enter Tryd.func40, Tryd.ntmps40
      go_wp2_with fail
      refine bodyPost_ret (results_none rfl _ _ _) rfl ?_
      exact ⟨⟨_, rfl⟩, by rw [HE.out, List.append_nil]; exact HP.out, HT.out, Below.refl _ _⟩
    · have hk := splitF_spec (show 1 < ds.length by omega)
      obtain ⟨k, hke⟩ : ∃ k, splitF ds.length = k := ⟨_, rfl⟩
      have hcl := HDS.out 0 (by omega)
      obtain ⟨b, off, rfl, -, -, -⟩ := hcl
      have HSP := hid (split_any ds.length · (by omega) (by omega))
      rw [hke] at hk HSP
      have HKE := hid hke
      have hfn := HP.out.fn
      have b2 : ¬ ((ds.length : Int) = 1) := by omega
      have k0 : (0 : Int) ≤ (k : Int) := by omega
      have k1 : (k : Int) ≤ (ds.length : Int) := by omega
      have k2 : (k : Int) ≤ (c : Int) := by omega
      have k3 : (ds.length : Int) ≤ (c : Int) := by omega
      clear hke
      by_cases hlt : i < k
      · have d1 : (i : Int) < (k : Int) := by omega
        have lp : (ds.take k).length = k := by first | (rw [List.length_take]; done) | (rw [List.length_take]; omega)
        have lo : (ds.drop k).length = (ds.length - k) := by first | (rw [List.length_drop]; done) | (rw [List.length_drop]; omega)
        have HE := hid (show proveF ds i = proveF (ds.take k) i ++ [rootF (ds.drop k)] by have := proveF_left (ds := ds) (by omega) (i := i) (by rw [HKE.out]; exact hlt); rw [HKE.out] at this; exact this)
        have HW := hid (fun (m : Nat) => HIH.out (ds.take k) (some ⟨b, off, none⟩) k k i ps (w.drewN m) (by omega) (H16.out.take k) (HT.out.keep (below_drewN (Below.refl _ _) m)) lp.symm (by omega) (Nat.le_refl _) (by omega) (by omega) ((HDS.out.take k).keep (below_drewN (Below.refl _ _) m)) (HP.out.keep (below_drewN (Below.refl _ _) m)) (by omega))
        have hpl := (proveF_all16 ((ds.take k).length + 1) (ds.take k) i (Nat.lt_succ_self _)).2
        obtain ⟨q, hq⟩ : ∃ q, ps ++ proveF (ds.take k) i = q := ⟨_, rfl⟩
        have hql : q.length ≤ 1000000 := by rw [← hq, List.length_append]; omega
        have HRT := hid (fun (w3 W : World) (h3 : Tab w3) (hb3 : Below N w w3) (hz : N ≤ w3.heap.size) (hb : Below w3.heap.size w3 W) => root_any ((ds.drop k).length + 1) (ds.drop k) (some ⟨b, off + k * 16, none⟩) (ds.length - k) (ds.length - k) W (Nat.lt_succ_self _) (H16.out.drop k) (h3.keep hb) lo.symm (Nat.le_refl _) (by omega) ((((HDS.out.drop k).keep hb3).keep (hb.mono hz)).mono (Nat.le_trans hz hb.size)))
        obtain ⟨r, hr⟩ : ∃ r, rootF (ds.drop k) = r := ⟨_, rfl⟩
        have HR16 := hid (show r.length = 16 by rw [← hr]; exact rootF_length _)
        rw [hq] at HW
        rw [hr] at HRT HE
        have HEQ := hid (show ps ++ proveF ds i = q ++ [r] by rw [HE.out, ← List.append_assoc, hq])
        have hsr : (List.map u8 r).toArray.size = 16 := by simp [HR16.out]
        have hsr2 : List.length r = 16 := HR16.out
        have hfd := fold_dig r HR16.out
        clear hq hr lp lo hpl HE
        go_enter Tryd.func40, Tryd.ntmps40
        go_wp2_with ((with_reducible refine (HSP.out _).mono ?_); rintro e w2 ⟨rfl, rfl⟩)
        go_quiet (fail)
        go_wp2_with (go_at_call 40; (with_reducible refine (HW.out _).mono ?_); rintro e w3 ⟨⟨v3, rfl⟩, hP3, hT3, hb3⟩; have HP3 := hid hP3; have HT3 := hid hT3; have HB3 := hid (show Below N w w3 from (below_drewN (Below.refl _ _) _).trans hb3); have HZ3 := hid hP3.size; obtain ⟨a3, c3, hc3, ho3⟩ := hP3.own; have HO3 := hid ho3; clear hP3 hT3 hb3 ho3)
        go_region_law (first
          | (go_simp; go_at_call 18; (with_reducible refine (HRT.out w3 _ HT3.out HB3.out (Nat.le_trans (by omega) HZ3.out) ((Below.refl _ _).drew)).mono ?_); rintro e w5 ⟨rfl, hb5⟩; have HB5 := hid (show Below w3.heap.size w3 w5 from ((Below.refl w3.heap.size w3).drew).trans hb5); have hc5 := (HB5.out.cell (p := ⟨N, 0, none⟩) (Nat.lt_of_lt_of_le (by simp only; omega) HZ3.out)).trans hc3; have hc5a := fun o => (World.cell?_alloc_lt w5 o (⟨N, 0, none⟩ : Addr) (Nat.lt_of_lt_of_le (by show N < N + 2; omega) (Nat.le_trans HZ3.out HB5.out.size))).trans hc5; clear hb5; go_wp2_with fail)
          | (refine step_appD rfl _ _ rfl (N + 2) _ q rfl ((HO3.out.keep HB5.out).keep (below_alloc w5 _)) w5.heap.size 1 r rfl HR16.out (dig_range w5 r _) hql (alloc_le' (Nat.le_trans HZ3.out HB5.out.size) _) (fun g cap w6 ho6 hb6 => ?_); have HO6 := hid ho6; have HB6 := hid (keep_app (Nat.le_trans HZ3.out HB5.out.size) hb6); have hc6 := (HB6.out.cell (p := ⟨N, 0, none⟩) (by simp only; omega)).trans hc5; have hn6 := ((HP3.out.keep HB5.out).keep' HB6.out); clear ho6 hb6))
        all_goals
          (go_wp2_with fail
           refine bodyPost_ret (results_none rfl _ _ _) rfl ?_
           have hbl : Below N w (w6.setCell ⟨N, 0, none⟩ (.slice (some ⟨g, 0, none⟩) (q.length + 1) cap)) := ((HB3.out.trans (HB5.out.mono (Nat.le_trans (by omega) HZ3.out))).trans (HB6.out.mono (by omega))).setCell (p := ⟨N, 0, none⟩) (Nat.le_refl _) _
           exact ⟨⟨_, rfl⟩, by rw [HEQ.out]; exact (HP3.out.keep HB5.out).push HB6.out _ _ HO6.out, HT.out.keepN HN1 hbl, hbl⟩)
      · have d1 : ¬ ((i : Int) < (k : Int)) := by omega
        have ew : IntKind.i64.wrap ((i : Int) - (k : Int)) = ((i - k : Nat) : Int) := by simp [IntKind.wrap, IntKind.bits, IntKind.signed]; omega
        have lp : (ds.drop k).length = (ds.length - k) := by first | (rw [List.length_drop]; done) | (rw [List.length_drop]; omega)
        have lo : (ds.take k).length = k := by first | (rw [List.length_take]; done) | (rw [List.length_take]; omega)
        have HE := hid (show proveF ds i = proveF (ds.drop k) (i - k) ++ [rootF (ds.take k)] by have := proveF_right (ds := ds) (by omega) (i := i) (by rw [HKE.out]; exact hlt); rw [HKE.out] at this; exact this)
        have HW := hid (fun (m : Nat) => HIH.out (ds.drop k) (some ⟨b, off + k * 16, none⟩) (ds.length - k) (ds.length - k) (i - k) ps (w.drewN m) (by omega) (H16.out.drop k) (HT.out.keep (below_drewN (Below.refl _ _) m)) lp.symm (by omega) (Nat.le_refl _) (by omega) (by omega) ((HDS.out.drop k).keep (below_drewN (Below.refl _ _) m)) (HP.out.keep (below_drewN (Below.refl _ _) m)) (by omega))
        have hpl := (proveF_all16 ((ds.drop k).length + 1) (ds.drop k) (i - k) (Nat.lt_succ_self _)).2
        obtain ⟨q, hq⟩ : ∃ q, ps ++ proveF (ds.drop k) (i - k) = q := ⟨_, rfl⟩
        have hql : q.length ≤ 1000000 := by rw [← hq, List.length_append]; omega
        have HRT := hid (fun (w3 W : World) (h3 : Tab w3) (hb3 : Below N w w3) (hz : N ≤ w3.heap.size) (hb : Below w3.heap.size w3 W) => root_any ((ds.take k).length + 1) (ds.take k) (some ⟨b, off, none⟩) k k W (Nat.lt_succ_self _) (H16.out.take k) (h3.keep hb) lo.symm (Nat.le_refl _) (by omega) ((((HDS.out.take k).keep hb3).keep (hb.mono hz)).mono (Nat.le_trans hz hb.size)))
        obtain ⟨r, hr⟩ : ∃ r, rootF (ds.take k) = r := ⟨_, rfl⟩
        have HR16 := hid (show r.length = 16 by rw [← hr]; exact rootF_length _)
        rw [hq] at HW
        rw [hr] at HRT HE
        have HEQ := hid (show ps ++ proveF ds i = q ++ [r] by rw [HE.out, ← List.append_assoc, hq])
        have hsr : (List.map u8 r).toArray.size = 16 := by simp [HR16.out]
        have hsr2 : List.length r = 16 := HR16.out
        have hfd := fold_dig r HR16.out
        clear hq hr lp lo hpl HE
        go_enter Tryd.func40, Tryd.ntmps40
        go_wp2_with ((with_reducible refine (HSP.out _).mono ?_); rintro e w2 ⟨rfl, rfl⟩)
        go_quiet (fail)
        go_wp2_with (go_at_call 40; (with_reducible refine (HW.out _).mono ?_); rintro e w3 ⟨⟨v3, rfl⟩, hP3, hT3, hb3⟩; have HP3 := hid hP3; have HT3 := hid hT3; have HB3 := hid (show Below N w w3 from (below_drewN (Below.refl _ _) _).trans hb3); have HZ3 := hid hP3.size; obtain ⟨a3, c3, hc3, ho3⟩ := hP3.own; have HO3 := hid ho3; clear hP3 hT3 hb3 ho3)
        go_region_law (first
          | (go_simp; go_at_call 18; (with_reducible refine (HRT.out w3 _ HT3.out HB3.out (Nat.le_trans (by omega) HZ3.out) ((Below.refl _ _).drew)).mono ?_); rintro e w5 ⟨rfl, hb5⟩; have HB5 := hid (show Below w3.heap.size w3 w5 from ((Below.refl w3.heap.size w3).drew).trans hb5); have hc5 := (HB5.out.cell (p := ⟨N, 0, none⟩) (Nat.lt_of_lt_of_le (by simp only; omega) HZ3.out)).trans hc3; have hc5a := fun o => (World.cell?_alloc_lt w5 o (⟨N, 0, none⟩ : Addr) (Nat.lt_of_lt_of_le (by show N < N + 2; omega) (Nat.le_trans HZ3.out HB5.out.size))).trans hc5; clear hb5; go_wp2_with fail)
          | (refine step_appD rfl _ _ rfl (N + 2) _ q rfl ((HO3.out.keep HB5.out).keep (below_alloc w5 _)) w5.heap.size 1 r rfl HR16.out (dig_range w5 r _) hql (alloc_le' (Nat.le_trans HZ3.out HB5.out.size) _) (fun g cap w6 ho6 hb6 => ?_); have HO6 := hid ho6; have HB6 := hid (keep_app (Nat.le_trans HZ3.out HB5.out.size) hb6); have hc6 := (HB6.out.cell (p := ⟨N, 0, none⟩) (by simp only; omega)).trans hc5; have hn6 := ((HP3.out.keep HB5.out).keep' HB6.out); clear ho6 hb6))
        all_goals
          (go_wp2_with fail
           refine bodyPost_end (results_none rfl _ _ _) rfl ?_
           have hbl : Below N w (w6.setCell ⟨N, 0, none⟩ (.slice (some ⟨g, 0, none⟩) (q.length + 1) cap)) := ((HB3.out.trans (HB5.out.mono (Nat.le_trans (by omega) HZ3.out))).trans (HB6.out.mono (by omega))).setCell (p := ⟨N, 0, none⟩) (Nat.le_refl _) _
           exact ⟨⟨_, rfl⟩, by rw [HEQ.out]; exact (HP3.out.keep HB5.out).push HB6.out _ _ HO6.out, HT.out.keepN HN1 hbl, hbl⟩)
end Go.Proofs.YtbjfkliijhnloaaDoor
