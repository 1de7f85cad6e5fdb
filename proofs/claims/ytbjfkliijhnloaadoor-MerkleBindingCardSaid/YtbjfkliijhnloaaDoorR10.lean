/- The reference's collision finder for two lists: bootchainref03's Differs. -/
import Derived.Test.YtbjfkliijhnloaaDoorR8
namespace Go.Proofs.YtbjfkliijhnloaaDoor
open Go.RowKit
set_option linter.unusedVariables false

set_option maxRecDepth 100000 in
set_option maxHeartbeats 8000000 in
theorem diff_any (f : Nat) : ∀ (ds es : List (List UInt8)) (a : Option Addr) (n c : Nat) (a' : Option Addr) (n' c' : Nat) (w : World), ds.length < f → ds.length = es.length → ds.length ≤ 100000 → All16 ds → All16 es → Tab w → n = ds.length → n ≤ c → n' = es.length → n' ≤ c' → DigB w.heap.size w a ds → DigB w.heap.size w a' es →
    Calls Tryd.prog 24 #[.slice a n c, .slice a' n' c'] w fun e w' => e = .returned (.bool (diffF ds es)) ∧ Below w.heap.size w w' := by
  induction f with
  | zero => intro ds es a n c a' n' c' w h; omega
  | succ f ih =>
    intro ds es a n c a' n' c' w hf hlen hn2 hd16 he16 hT hn hnc hm hmc hds hes
    rw [← hlen] at hm
    subst hn hm
    have HIH := hid ih
    have HT := hid hT
    have HDS := hid hds
    have HES := hid hes
    have H16 := hid hd16; have HE16 := hid he16; have HLEN := hid hlen
    clear ih hT hds hes hd16 he16
    by_cases h0 : ds.length = 0
    · have HF := hid (diffF_nil h0 es)
      have q0 : (ds.length : Int) = 0 := by omega
      have q1 : ((ds.length : Int) == 0) = true := beq_iff_eq.2 q0
      clear hlen
      go_enter Tryd.func24, Tryd.ntmps24
      go_wp2_with fail
      go_ret
      exact ⟨ret_bool HF.out.symm, Below.refl _ _⟩
    · have q0 : ¬ ((ds.length : Int) = 0) := by omega
      have q00 : ((ds.length : Int) == 0) = false := beq_eq_false_iff_ne.2 q0
      obtain ⟨b, off, rfl, hbl, -, hrg⟩ := HDS.out 0 (by omega)
      obtain ⟨b', off', rfl, hbl', -, hrg'⟩ := HES.out 0 (by omega)
      by_cases h1 : ds.length = 1
      ·
        --[A
        have HE := hid (diffF_one h1 es)
        have hy16 := H16.out _ (List.getElem_mem (show 0 < ds.length by omega))
        have hz16 := HE16.out _ (List.getElem_mem (show 0 < es.length by omega))
        have hye : ds.getD 0 [] = ds[0]'(by omega) := by rw [List.getD, List.getElem?_eq_getElem (by omega)]; rfl
        have hze : es.getD 0 [] = es[0]'(by omega) := by rw [List.getD, List.getElem?_eq_getElem (by omega)]; rfl
        obtain ⟨y, hy⟩ : ∃ y, ds[0]'(by omega) = y := ⟨_, rfl⟩
        obtain ⟨z, hz⟩ : ∃ z, es[0]'(by omega) = z := ⟨_, rfl⟩
        rw [hy] at hrg hy16 hye
        rw [hz] at hrg' hz16 hze
        rw [hye, hze] at HE
        rw [Nat.mul_zero, Nat.add_zero] at hrg hrg'
        have HL4 := hid (show ∀ p ∈ [(b, off, y), (b', off', z)], w.rangeAt p.1 p.2.1 (p.2.2.map u8) ∧ p.1 < w.heap.size from fun p hp => by
          simp only [List.mem_cons, List.not_mem_nil, or_false] at hp
          rcases hp with rfl | rfl
          · exact ⟨hrg, hbl⟩
          · exact ⟨hrg', hbl'⟩)
        have q1 : (ds.length : Int) = 1 := by omega
        have q2 : (0 : Int) < (ds.length : Int) := by omega
        clear hy hye hrg hz hze hrg' hlen
        by_cases hyl : y = z
        · have HF := hid (show diffF ds es = false by rw [HE.out, decide_eq_true hyl]; rfl)
          have heq1 : ∀ W, (Op.equalIn 10000 28 (.agg (y.map u8).toArray) (.agg (z.map u8).toArray)).run Tryd.prog W = .ok true W := fun W => by rw [eqIn_dig y z hy16 hz16 W, decide_eq_true hyl]
          have HYL := hid hyl
          clear hyl
          go_enter Tryd.func24, Tryd.ntmps24
          go_wp2_with fail
          have HB0S := hid (show w.heap.size ≤ w.heap.size from Nat.le_refl _)
          refine wp_region_noPanic ?_
          refine wp_region_held_drew (S := Sx (w.heap.size) w [(b, off, y), (b', off', z)]) (by kernel_rfl) (Sx.start (HL4.out)) (fun hH => ?_)
          refine wpAnyH_take (i := 0) (v := ?_) rfl (by kernel_rfl) (by kernel_rfl) (by kernel_rfl) (fun _ _ _ h => h) (Or.inl ⟨by rfl, ?_⟩) hH ?_
          rotate_left
          · (intro w hSw; simp only [List.getElem_toArray, List.getElem_cons_zero]; first | (go_simp; done) | (go_simp; with_reducible rfl))
          simp only [List.getElem_toArray, List.getElem_cons_zero, Act.put, List.setIfInBounds_toArray, List.set_cons_zero, List.set_cons_succ]
          refine wpAnyH_take (i := 1) (v := ?_) rfl (by kernel_rfl) (by kernel_rfl) (by kernel_rfl) (fun _ _ _ h => h) (Or.inl ⟨by rfl, ?_⟩) hH ?_
          rotate_left
          · (intro w hSw; simp only [List.getElem_toArray, List.getElem_cons_succ, List.getElem_cons_zero]; first | (go_simp; done) | (go_simp; with_reducible rfl))
          simp only [List.getElem_toArray, List.getElem_cons_succ, List.getElem_cons_zero, Act.put, List.setIfInBounds_toArray, List.set_cons_zero, List.set_cons_succ]
          refine wpAnyH_take (i := 2) rfl (by kernel_rfl) (by kernel_rfl) (by kernel_rfl) (fun _ _ _ h => h) (yieldsIf_load_mid (by rfl) _ _ rfl b off rfl (y.map u8) _ (fun w h => Sx.get h (k := 0) rfl) under28 rfl (info16 y hy16)) hH ?_
          simp only [List.getElem_toArray, List.getElem_cons_succ, List.getElem_cons_zero, Act.put, List.setIfInBounds_toArray, List.set_cons_zero, List.set_cons_succ]
          refine wpAnyH_take (i := 3) (v := ?_) rfl (by kernel_rfl) (by kernel_rfl) (by kernel_rfl) (fun _ _ _ h => h) (Or.inl ⟨by rfl, ?_⟩) hH ?_
          rotate_left
          · (intro w hSw; simp only [List.getElem_toArray, List.getElem_cons_succ, List.getElem_cons_zero]; first | (go_simp; done) | (go_simp; with_reducible rfl))
          simp only [List.getElem_toArray, List.getElem_cons_succ, List.getElem_cons_zero, Act.put, List.setIfInBounds_toArray, List.set_cons_zero, List.set_cons_succ]
          refine wpAnyH_take (i := 4) (v := ?_) rfl (by kernel_rfl) (by kernel_rfl) (by kernel_rfl) (fun _ _ _ h => h) (Or.inl ⟨by rfl, ?_⟩) hH ?_
          rotate_left
          · (intro w hSw; simp only [List.getElem_toArray, List.getElem_cons_succ, List.getElem_cons_zero]; first | (go_simp; done) | (go_simp; with_reducible rfl))
          simp only [List.getElem_toArray, List.getElem_cons_succ, List.getElem_cons_zero, Act.put, List.setIfInBounds_toArray, List.set_cons_zero, List.set_cons_succ]
          refine wpAnyH_take (i := 5) rfl (by kernel_rfl) (by kernel_rfl) (by kernel_rfl) (fun _ _ _ h => h) (yieldsIf_load_mid (by rfl) _ _ rfl b' off' rfl (z.map u8) _ (fun w h => Sx.get h (k := 1) rfl) under28 rfl (info16 z hz16)) hH ?_
          simp only [List.getElem_toArray, List.getElem_cons_succ, List.getElem_cons_zero, Act.put, List.setIfInBounds_toArray, List.set_cons_zero, List.set_cons_succ]
          refine wpAnyH_take (i := 6) (v := ?_) rfl (by kernel_rfl) (by kernel_rfl) (by kernel_rfl) (fun _ _ _ h => h) (Or.inl ⟨by rfl, ?_⟩) hH ?_
          rotate_left
          · (intro w hSw; simp only [List.getElem_toArray, List.getElem_cons_succ, List.getElem_cons_zero]; first | (go_simp; done) | (go_simp; with_reducible rfl))
          simp only [List.getElem_toArray, List.getElem_cons_succ, List.getElem_cons_zero, Act.put, List.setIfInBounds_toArray, List.set_cons_zero, List.set_cons_succ]
          refine wpAnyH_take (i := 7) (v := ?_) rfl (by kernel_rfl) (by kernel_rfl) (by kernel_rfl) (fun _ _ _ h => h) (Or.inl ⟨by rfl, ?_⟩) hH ?_
          rotate_left
          · (intro w hSw; simp only [List.getElem_toArray, List.getElem_cons_succ, List.getElem_cons_zero]; first | (go_simp; done) | (go_simp; with_reducible rfl))
          simp only [List.getElem_toArray, List.getElem_cons_succ, List.getElem_cons_zero, Act.put, List.setIfInBounds_toArray, List.set_cons_zero, List.set_cons_succ]
          refine wpAnyH_take (i := 8) (v := undef) rfl (by kernel_rfl) (by kernel_rfl) (by kernel_rfl) (fun _ _ _ h => h) (Or.inr ⟨by rfl, rfl⟩) hH ?_
          simp only [List.getElem_toArray, List.getElem_cons_succ, List.getElem_cons_zero, Act.put, List.setIfInBounds_toArray, List.set_cons_zero, List.set_cons_succ]
          refine wpAnyH_take (i := 9) (v := undef) rfl (by kernel_rfl) (by kernel_rfl) (by kernel_rfl) (fun _ _ _ h => h) (Or.inr ⟨by rfl, rfl⟩) hH ?_
          simp only [List.getElem_toArray, List.getElem_cons_succ, List.getElem_cons_zero, Act.put, List.setIfInBounds_toArray, List.set_cons_zero, List.set_cons_succ]
          refine wpAnyH_take (i := 10) (v := undef) rfl (by kernel_rfl) (by kernel_rfl) (by kernel_rfl) (fun _ _ _ h => h) (Or.inr ⟨by rfl, rfl⟩) hH ?_
          simp only [List.getElem_toArray, List.getElem_cons_succ, List.getElem_cons_zero, Act.put, List.setIfInBounds_toArray, List.set_cons_zero, List.set_cons_succ]
          refine wpAnyH_take (i := 11) (v := undef) rfl (by kernel_rfl) (by kernel_rfl) (by kernel_rfl) (fun _ _ _ h => h) (Or.inr ⟨by rfl, rfl⟩) hH ?_
          simp only [List.getElem_toArray, List.getElem_cons_succ, List.getElem_cons_zero, Act.put, List.setIfInBounds_toArray, List.set_cons_zero, List.set_cons_succ]
          refine wpAnyH_take (i := 12) (v := undef) rfl (by kernel_rfl) (by kernel_rfl) (by kernel_rfl) (fun _ _ _ h => h) (Or.inr ⟨by rfl, rfl⟩) hH ?_
          simp only [List.getElem_toArray, List.getElem_cons_succ, List.getElem_cons_zero, Act.put, List.setIfInBounds_toArray, List.set_cons_zero, List.set_cons_succ]
          refine wpAnyH_take (i := 13) (v := undef) rfl (by kernel_rfl) (by kernel_rfl) (by kernel_rfl) (fun _ _ _ h => h) (Or.inr ⟨by rfl, rfl⟩) hH ?_
          simp only [List.getElem_toArray, List.getElem_cons_succ, List.getElem_cons_zero, Act.put, List.setIfInBounds_toArray, List.set_cons_zero, List.set_cons_succ]
          refine wpAnyH_take (i := 14) (v := undef) rfl (by kernel_rfl) (by kernel_rfl) (by kernel_rfl) (fun _ _ _ h => h) (Or.inr ⟨by rfl, rfl⟩) hH ?_
          simp only [List.getElem_toArray, List.getElem_cons_succ, List.getElem_cons_zero, Act.put, List.setIfInBounds_toArray, List.set_cons_zero, List.set_cons_succ]
          refine wpAnyH_take (i := 15) (v := undef) rfl (by kernel_rfl) (by kernel_rfl) (by kernel_rfl) (fun _ _ _ h => h) (Or.inr ⟨by rfl, rfl⟩) hH ?_
          simp only [List.getElem_toArray, List.getElem_cons_succ, List.getElem_cons_zero, Act.put, List.setIfInBounds_toArray, List.set_cons_zero, List.set_cons_succ]
          refine wpAnyH_take (i := 16) (v := undef) rfl (by kernel_rfl) (by kernel_rfl) (by kernel_rfl) (fun _ _ _ h => h) (Or.inr ⟨by rfl, rfl⟩) hH ?_
          simp only [List.getElem_toArray, List.getElem_cons_succ, List.getElem_cons_zero, Act.put, List.setIfInBounds_toArray, List.set_cons_zero, List.set_cons_succ]
          refine wpAnyH_take (i := 17) (v := ?_) rfl (by kernel_rfl) (by kernel_rfl) (by kernel_rfl) (fun _ _ _ h => h) (Or.inl ⟨by rfl, ?_⟩) hH ?_
          rotate_left
          · (intro w hSw; simp only [List.getElem_toArray, List.getElem_cons_succ, List.getElem_cons_zero]; first | (go_simp; done) | (go_simp; with_reducible rfl))
          simp only [List.getElem_toArray, List.getElem_cons_succ, List.getElem_cons_zero, Act.put, List.setIfInBounds_toArray, List.set_cons_zero, List.set_cons_succ]
          refine wpAnyH_take (i := 18) (v := ?_) rfl (by kernel_rfl) (by kernel_rfl) (by kernel_rfl) (fun _ _ _ h => h) (Or.inl ⟨by rfl, ?_⟩) hH ?_
          rotate_left
          · (intro w hSw; simp only [List.getElem_toArray, List.getElem_cons_succ, List.getElem_cons_zero]; first | (go_simp; done) | (go_simp; with_reducible rfl))
          simp only [List.getElem_toArray, List.getElem_cons_succ, List.getElem_cons_zero, Act.put, List.setIfInBounds_toArray, List.set_cons_zero, List.set_cons_succ]
          refine wpAnyH_done (by kernel_rfl) ?_ _
          refine NoPanic.normal ?_
          go_wp2_with fail
          go_ret
          exact ⟨ret_bool HF.out.symm, hH.below⟩
        · obtain ⟨l1, hl1⟩ : ∃ l1, leafD y = l1 := ⟨_, rfl⟩
          obtain ⟨l2, hl2⟩ : ∃ l2, leafD z = l2 := ⟨_, rfl⟩
          have HF := hid (show diffF ds es = decide (l1 = l2) by rw [HE.out, decide_eq_false hyl, hl1, hl2]; rfl)
          have HC1 := hid (fun (W : World) (hT : Tab W) => (show Calls Tryd.prog 46 #[.agg (y.map u8).toArray] W fun e w' => e = .returned (dv l1) ∧ Below W.heap.size W w' by rw [← hl1]; exact leaf1_any y hy16 W hT))
          have HC2 := hid (fun (W : World) (hT : Tab W) => (show Calls Tryd.prog 46 #[.agg (z.map u8).toArray] W fun e w' => e = .returned (dv l2) ∧ Below W.heap.size W w' by rw [← hl2]; exact leaf1_any z hz16 W hT))
          have h1l : l1.length = 16 := by rw [← hl1]; exact leafD_length _
          have h2l : l2.length = 16 := by rw [← hl2]; exact leafD_length _
          have heq2 := eqIn_dig l1 l2 h1l h2l
          have heq1 : ∀ W, (Op.equalIn 10000 28 (.agg (y.map u8).toArray) (.agg (z.map u8).toArray)).run Tryd.prog W = .ok false W := fun W => by rw [eqIn_dig y z hy16 hz16 W, decide_eq_false hyl]
          have HYL := hid hyl
          clear hl1 hl2 hyl
          go_enter Tryd.func24, Tryd.ntmps24
          go_wp2_with fail
          have HB0S := hid (show w.heap.size ≤ w.heap.size from Nat.le_refl _)
          refine wp_region_noPanic ?_
          refine wp_region_held_drew (S := Sx (w.heap.size) w [(b, off, y), (b', off', z)]) (by kernel_rfl) (Sx.start (HL4.out)) (fun hH => ?_)
          refine wpAnyH_take (i := 0) (v := ?_) rfl (by kernel_rfl) (by kernel_rfl) (by kernel_rfl) (fun _ _ _ h => h) (Or.inl ⟨by rfl, ?_⟩) hH ?_
          rotate_left
          · (intro w hSw; simp only [List.getElem_toArray, List.getElem_cons_zero]; first | (go_simp; done) | (go_simp; with_reducible rfl))
          simp only [List.getElem_toArray, List.getElem_cons_zero, Act.put, List.setIfInBounds_toArray, List.set_cons_zero, List.set_cons_succ]
          refine wpAnyH_take (i := 1) (v := ?_) rfl (by kernel_rfl) (by kernel_rfl) (by kernel_rfl) (fun _ _ _ h => h) (Or.inl ⟨by rfl, ?_⟩) hH ?_
          rotate_left
          · (intro w hSw; simp only [List.getElem_toArray, List.getElem_cons_succ, List.getElem_cons_zero]; first | (go_simp; done) | (go_simp; with_reducible rfl))
          simp only [List.getElem_toArray, List.getElem_cons_succ, List.getElem_cons_zero, Act.put, List.setIfInBounds_toArray, List.set_cons_zero, List.set_cons_succ]
          refine wpAnyH_take (i := 2) rfl (by kernel_rfl) (by kernel_rfl) (by kernel_rfl) (fun _ _ _ h => h) (yieldsIf_load_mid (by rfl) _ _ rfl b off rfl (y.map u8) _ (fun w h => Sx.get h (k := 0) rfl) under28 rfl (info16 y hy16)) hH ?_
          simp only [List.getElem_toArray, List.getElem_cons_succ, List.getElem_cons_zero, Act.put, List.setIfInBounds_toArray, List.set_cons_zero, List.set_cons_succ]
          refine wpAnyH_take (i := 3) (v := ?_) rfl (by kernel_rfl) (by kernel_rfl) (by kernel_rfl) (fun _ _ _ h => h) (Or.inl ⟨by rfl, ?_⟩) hH ?_
          rotate_left
          · (intro w hSw; simp only [List.getElem_toArray, List.getElem_cons_succ, List.getElem_cons_zero]; first | (go_simp; done) | (go_simp; with_reducible rfl))
          simp only [List.getElem_toArray, List.getElem_cons_succ, List.getElem_cons_zero, Act.put, List.setIfInBounds_toArray, List.set_cons_zero, List.set_cons_succ]
          refine wpAnyH_take (i := 4) (v := ?_) rfl (by kernel_rfl) (by kernel_rfl) (by kernel_rfl) (fun _ _ _ h => h) (Or.inl ⟨by rfl, ?_⟩) hH ?_
          rotate_left
          · (intro w hSw; simp only [List.getElem_toArray, List.getElem_cons_succ, List.getElem_cons_zero]; first | (go_simp; done) | (go_simp; with_reducible rfl))
          simp only [List.getElem_toArray, List.getElem_cons_succ, List.getElem_cons_zero, Act.put, List.setIfInBounds_toArray, List.set_cons_zero, List.set_cons_succ]
          refine wpAnyH_take (i := 5) rfl (by kernel_rfl) (by kernel_rfl) (by kernel_rfl) (fun _ _ _ h => h) (yieldsIf_load_mid (by rfl) _ _ rfl b' off' rfl (z.map u8) _ (fun w h => Sx.get h (k := 1) rfl) under28 rfl (info16 z hz16)) hH ?_
          simp only [List.getElem_toArray, List.getElem_cons_succ, List.getElem_cons_zero, Act.put, List.setIfInBounds_toArray, List.set_cons_zero, List.set_cons_succ]
          refine wpAnyH_take (i := 6) (v := ?_) rfl (by kernel_rfl) (by kernel_rfl) (by kernel_rfl) (fun _ _ _ h => h) (Or.inl ⟨by rfl, ?_⟩) hH ?_
          rotate_left
          · (intro w hSw; simp only [List.getElem_toArray, List.getElem_cons_succ, List.getElem_cons_zero]; first | (go_simp; done) | (go_simp; with_reducible rfl))
          simp only [List.getElem_toArray, List.getElem_cons_succ, List.getElem_cons_zero, Act.put, List.setIfInBounds_toArray, List.set_cons_zero, List.set_cons_succ]
          refine wpAnyH_take (i := 7) (v := ?_) rfl (by kernel_rfl) (by kernel_rfl) (by kernel_rfl) (fun _ _ _ h => h) (Or.inl ⟨by rfl, ?_⟩) hH ?_
          rotate_left
          · (intro w hSw; simp only [List.getElem_toArray, List.getElem_cons_succ, List.getElem_cons_zero]; first | (go_simp; done) | (go_simp; with_reducible rfl))
          simp only [List.getElem_toArray, List.getElem_cons_succ, List.getElem_cons_zero, Act.put, List.setIfInBounds_toArray, List.set_cons_zero, List.set_cons_succ]
          refine wpAnyH_take (i := 8) (v := ?_) rfl (by kernel_rfl) (by kernel_rfl) (by kernel_rfl) (fun _ _ _ h => h) (Or.inl ⟨by rfl, ?_⟩) hH ?_
          rotate_left
          · (intro w hSw; simp only [List.getElem_toArray, List.getElem_cons_succ, List.getElem_cons_zero]; first | (go_simp; done) | (go_simp; with_reducible rfl))
          simp only [List.getElem_toArray, List.getElem_cons_succ, List.getElem_cons_zero, Act.put, List.setIfInBounds_toArray, List.set_cons_zero, List.set_cons_succ]
          refine wpAnyH_take (i := 9) (v := ?_) rfl (by kernel_rfl) (by kernel_rfl) (by kernel_rfl) (fun _ _ _ h => h) (Or.inl ⟨by rfl, ?_⟩) hH ?_
          rotate_left
          · (intro w hSw; simp only [List.getElem_toArray, List.getElem_cons_succ, List.getElem_cons_zero]; first | (go_simp; done) | (go_simp; with_reducible rfl))
          simp only [List.getElem_toArray, List.getElem_cons_succ, List.getElem_cons_zero, Act.put, List.setIfInBounds_toArray, List.set_cons_zero, List.set_cons_succ]
          refine wpAnyH_take (i := 10) rfl (by kernel_rfl) (by kernel_rfl) (by kernel_rfl) (fun _ _ _ h => h) (yieldsIf_load_mid (by rfl) _ _ rfl b off rfl (y.map u8) _ (fun w h => Sx.get h (k := 0) rfl) under28 rfl (info16 y hy16)) hH ?_
          simp only [List.getElem_toArray, List.getElem_cons_succ, List.getElem_cons_zero, Act.put, List.setIfInBounds_toArray, List.set_cons_zero, List.set_cons_succ]
          refine wpAnyH_take (i := 12) (v := ?_) rfl (by kernel_rfl) (by kernel_rfl) (by kernel_rfl) (fun _ _ _ h => h) (Or.inl ⟨by rfl, ?_⟩) hH ?_
          rotate_left
          · (intro w hSw; simp only [List.getElem_toArray, List.getElem_cons_succ, List.getElem_cons_zero]; first | (go_simp; done) | (go_simp; with_reducible rfl))
          simp only [List.getElem_toArray, List.getElem_cons_succ, List.getElem_cons_zero, Act.put, List.setIfInBounds_toArray, List.set_cons_zero, List.set_cons_succ]
          refine wpAnyH_take (i := 13) (v := ?_) rfl (by kernel_rfl) (by kernel_rfl) (by kernel_rfl) (fun _ _ _ h => h) (Or.inl ⟨by rfl, ?_⟩) hH ?_
          rotate_left
          · (intro w hSw; simp only [List.getElem_toArray, List.getElem_cons_succ, List.getElem_cons_zero]; first | (go_simp; done) | (go_simp; with_reducible rfl))
          simp only [List.getElem_toArray, List.getElem_cons_succ, List.getElem_cons_zero, Act.put, List.setIfInBounds_toArray, List.set_cons_zero, List.set_cons_succ]
          refine wpAnyH_take (i := 14) rfl (by kernel_rfl) (by kernel_rfl) (by kernel_rfl) (fun _ _ _ h => h) (yieldsIf_load_mid (by rfl) _ _ rfl b' off' rfl (z.map u8) _ (fun w h => Sx.get h (k := 1) rfl) under28 rfl (info16 z hz16)) hH ?_
          simp only [List.getElem_toArray, List.getElem_cons_succ, List.getElem_cons_zero, Act.put, List.setIfInBounds_toArray, List.set_cons_zero, List.set_cons_succ]
          refine wpAnyH_ready (rs := [11]) (by kernel_rfl) (by simp) ?_
          refine AllReadyH.cons rfl (fun K hK => ?_) AllReadyH.nil
          simp only [List.getElem_toArray, List.getElem_cons_succ, List.getElem_cons_zero]
          go_simp
          (with_reducible refine (HC1.out _ (HT.out.keep hH.below)).mono ?_)
          rintro e z1 ⟨rfl, hb5⟩
          have HBS := hid hb5
          clear hb5
          go_wp2_with fail
          refine hK.out _ _ ?_ (fun hH => ?_)
          · exact hH.call HBS.out HB0S.out
          clear hK K
          try simp only [Act.put, List.setIfInBounds_toArray, List.set_cons_zero, List.set_cons_succ]
          refine wpAnyH_ready (rs := [15]) (by kernel_rfl) (by simp) ?_
          refine AllReadyH.cons rfl (fun K hK => ?_) AllReadyH.nil
          simp only [List.getElem_toArray, List.getElem_cons_succ, List.getElem_cons_zero]
          go_simp
          (with_reducible refine (HC2.out _ (HT.out.keep hH.below)).mono ?_)
          rintro e z2 ⟨rfl, hb5⟩
          have HBS := hid hb5
          clear hb5
          go_wp2_with fail
          refine hK.out _ _ ?_ (fun hH => ?_)
          · exact hH.call HBS.out HB0S.out
          clear hK K
          try simp only [Act.put, List.setIfInBounds_toArray, List.set_cons_zero, List.set_cons_succ]
          refine wpAnyH_take (i := 16) (v := ?_) rfl (by kernel_rfl) (by kernel_rfl) (by kernel_rfl) (fun _ _ _ h => h) (Or.inl ⟨by rfl, ?_⟩) hH ?_
          rotate_left
          · (intro w hSw; simp only [List.getElem_toArray, List.getElem_cons_succ, List.getElem_cons_zero]; first | (go_simp; done) | (go_simp; with_reducible rfl))
          simp only [List.getElem_toArray, List.getElem_cons_succ, List.getElem_cons_zero, Act.put, List.setIfInBounds_toArray, List.set_cons_zero, List.set_cons_succ]
          refine wpAnyH_take (i := 17) (v := ?_) rfl (by kernel_rfl) (by kernel_rfl) (by kernel_rfl) (fun _ _ _ h => h) (Or.inl ⟨by rfl, ?_⟩) hH ?_
          rotate_left
          · (intro w hSw; simp only [List.getElem_toArray, List.getElem_cons_succ, List.getElem_cons_zero]; first | (go_simp; done) | (go_simp; with_reducible rfl))
          simp only [List.getElem_toArray, List.getElem_cons_succ, List.getElem_cons_zero, Act.put, List.setIfInBounds_toArray, List.set_cons_zero, List.set_cons_succ]
          refine wpAnyH_take (i := 18) (v := ?_) rfl (by kernel_rfl) (by kernel_rfl) (by kernel_rfl) (fun _ _ _ h => h) (Or.inl ⟨by rfl, ?_⟩) hH ?_
          rotate_left
          · (intro w hSw; simp only [List.getElem_toArray, List.getElem_cons_succ, List.getElem_cons_zero]; first | (go_simp; done) | (go_simp; with_reducible rfl))
          simp only [List.getElem_toArray, List.getElem_cons_succ, List.getElem_cons_zero, Act.put, List.setIfInBounds_toArray, List.set_cons_zero, List.set_cons_succ]
          refine wpAnyH_done (by kernel_rfl) ?_ _
          refine NoPanic.normal ?_
          go_wp2_with fail
          go_ret
          exact ⟨ret_bool HF.out.symm, hH.below⟩
        --]A
      ·
        --[B
        have hk := splitF_spec (show 1 < ds.length by omega)
        obtain ⟨k, hke⟩ : ∃ k, splitF ds.length = k := ⟨_, rfl⟩
        have HSP := hid (split3_any ds.length · (by omega) (by omega))
        rw [hke] at hk HSP
        have HKE := hid hke
        have lt : (ds.take k).length = k := by rw [List.length_take]; omega
        have ld : (ds.drop k).length = ds.length - k := by rw [List.length_drop]
        have lt' : (es.take k).length = k := by rw [List.length_take]; omega
        have ld' : (es.drop k).length = ds.length - k := by rw [List.length_drop]; omega
        have HLT := hid lt; have HLD := hid ld; have HLT' := hid lt'; have HLD' := hid ld'
        have q1 : ¬ ((ds.length : Int) = 1) := by omega
        have k0 : (0 : Int) ≤ (k : Int) := by omega
        have k1 : (k : Int) ≤ (ds.length : Int) := by omega
        have k2 : (k : Int) ≤ (c : Int) := by omega
        have k3 : (ds.length : Int) ≤ (c : Int) := by omega
        have hck : ¬ (c = k) := by omega
        have k4 : (k : Int) ≤ (c' : Int) := by omega
        have k5 : (ds.length : Int) ≤ (c' : Int) := by omega
        have hck' : ¬ (c' = k) := by omega
        obtain ⟨l, hl⟩ : ∃ l, rootF (ds.take k) = l := ⟨_, rfl⟩
        obtain ⟨r, hr⟩ : ∃ r, rootF (ds.drop k) = r := ⟨_, rfl⟩
        obtain ⟨m, hm⟩ : ∃ m, rootF (es.take k) = m := ⟨_, rfl⟩
        obtain ⟨s, hs⟩ : ∃ s, rootF (es.drop k) = s := ⟨_, rfl⟩
        have hl'16 : l.length = 16 := by rw [← hl]; exact rootF_length _
        have hr'16 : r.length = 16 := by rw [← hr]; exact rootF_length _
        have hm'16 : m.length = 16 := by rw [← hm]; exact rootF_length _
        have hs'16 : s.length = 16 := by rw [← hs]; exact rootF_length _
        have HRT1 := hid (fun (W : World) (hb : Below w.heap.size w W) => (show Calls Tryd.prog 19 #[.slice (some ⟨b, off, none⟩) k c] W fun e w' => e = .returned (dv l) ∧ Below W.heap.size W w' by
          rw [← hl]; exact root1_any (k + 1) (ds.take k) (some ⟨b, off, none⟩) k c W (by rw [lt]; omega) (H16.out.take k) (HT.out.keep hb) lt.symm (by omega) (by omega) (((HDS.out.take k).keep hb).mono hb.size)))
        have HRT2 := hid (fun (W : World) (hb : Below w.heap.size w W) => (show Calls Tryd.prog 19 #[.slice (some ⟨b, off + k * 16, none⟩) (ds.length - k) (c - k)] W fun e w' => e = .returned (dv r) ∧ Below W.heap.size W w' by
          rw [← hr]; exact root1_any (ds.length - k + 1) (ds.drop k) (some ⟨b, off + k * 16, none⟩) (ds.length - k) (c - k) W (by rw [ld]; omega) (H16.out.drop k) (HT.out.keep hb) ld.symm (by omega) (by omega) (((HDS.out.drop k).keep hb).mono hb.size)))
        have HRT3 := hid (fun (W : World) (hb : Below w.heap.size w W) => (show Calls Tryd.prog 19 #[.slice (some ⟨b', off', none⟩) k c'] W fun e w' => e = .returned (dv m) ∧ Below W.heap.size W w' by
          rw [← hm]; exact root1_any (k + 1) (es.take k) (some ⟨b', off', none⟩) k c' W (by rw [lt']; omega) (HE16.out.take k) (HT.out.keep hb) lt'.symm (by omega) (by omega) (((HES.out.take k).keep hb).mono hb.size)))
        have HRT4 := hid (fun (W : World) (hb : Below w.heap.size w W) => (show Calls Tryd.prog 19 #[.slice (some ⟨b', off' + k * 16, none⟩) (ds.length - k) (c' - k)] W fun e w' => e = .returned (dv s) ∧ Below W.heap.size W w' by
          rw [← hs]; exact root1_any (ds.length - k + 1) (es.drop k) (some ⟨b', off' + k * 16, none⟩) (ds.length - k) (c' - k) W (by rw [ld']; omega) (HE16.out.drop k) (HT.out.keep hb) ld'.symm (by omega) (by omega) (((HES.out.drop k).keep hb).mono hb.size)))
        have HE0 := hid (diffF_more (show 1 < ds.length by omega) es (l := l) (r := r) (m := m) (s := s) (by rw [hke]; exact hl) (by rw [hke]; exact hr) (by rw [hke]; exact hm) (by rw [hke]; exact hs))
        rw [hke] at HE0
        obtain ⟨T, hTT⟩ : ∃ T, ((!decide (l = m) || !decide (r = s)) && decide (nodeD l r = nodeD m s)) = T := ⟨_, rfl⟩
        obtain ⟨n1, hn1⟩ : ∃ n1, nodeD l r = n1 := ⟨_, rfl⟩
        obtain ⟨n2, hn2e⟩ : ∃ n2, nodeD m s = n2 := ⟨_, rfl⟩
        have hn1l : n1.length = 16 := by rw [← hn1]; exact nodeD_length _ _
        have hn2l : n2.length = 16 := by rw [← hn2e]; exact nodeD_length _ _
        have HN1 := hid (fun (W : World) (hT : Tab W) => (show Calls Tryd.prog 47 #[.agg (l.map u8).toArray, .agg (r.map u8).toArray] W fun e w' => e = .returned (dv n1) ∧ Below W.heap.size W w' by rw [← hn1]; exact node1_any l r hl'16 hr'16 W hT))
        have HN2 := hid (fun (W : World) (hT : Tab W) => (show Calls Tryd.prog 47 #[.agg (m.map u8).toArray, .agg (s.map u8).toArray] W fun e w' => e = .returned (dv n2) ∧ Below W.heap.size W w' by rw [← hn2e]; exact node1_any m s hm'16 hs'16 W hT))
        rw [hn1, hn2e] at hTT
        have HTT := hid hTT
        rw [hn1, hn2e, hTT] at HE0
        have HE := hid HE0.out
        clear hke HE0 hTT hn1 hn2e hl hr hm hs lt ld lt' ld' hlen hrg hrg'
        go_enter Tryd.func24, Tryd.ntmps24
        go_upto_region 10 with (first
          | ((with_reducible refine (HSP.out _).mono ?_); rintro e w2 ⟨rfl, rfl⟩)
          | (go_at_call 19; (with_reducible refine (HRT1.out _ (Below.refl _ _)).mono ?_); rintro e w3 ⟨rfl, hb3⟩; have HB3 := hid hb3; have HB3' := hid (hb3.trans ((below_box w3 #[.int .u8 0, .int .u8 0, .int .u8 0, .int .u8 0, .int .u8 0, .int .u8 0, .int .u8 0, .int .u8 0, .int .u8 0, .int .u8 0, .int .u8 0, .int .u8 0, .int .u8 0, .int .u8 0, .int .u8 0, .int .u8 0] 28 (l.map u8).toArray.toList).mono hb3.size)); clear hb3)
          | (refine wpList_store_mid rfl _ _ _ rfl w3.heap.size 0 _ rfl rfl (there16 (alloc_there w3 _ _ 16 rfl) _ hl'16) (info16a l hl'16) (all_u8 l) ?_)
          | (go_at_call 19; (with_reducible refine (HRT2.out _ HB3'.out).mono ?_); rintro e w4 ⟨rfl, hb4⟩; have HB4 := hid hb4; have HB4' := hid ((HB3'.out.trans (hb4.mono HB3'.out.size)).trans ((below_box w4 #[.int .u8 0, .int .u8 0, .int .u8 0, .int .u8 0, .int .u8 0, .int .u8 0, .int .u8 0, .int .u8 0, .int .u8 0, .int .u8 0, .int .u8 0, .int .u8 0, .int .u8 0, .int .u8 0, .int .u8 0, .int .u8 0] 28 (r.map u8).toArray.toList).mono (Nat.le_trans HB3'.out.size hb4.size))); clear hb4)
          | (refine wpList_store_mid rfl _ _ _ rfl w4.heap.size 0 _ rfl rfl (there16 (alloc_there w4 _ _ 16 rfl) _ hr'16) (info16a r hr'16) (all_u8 r) ?_)
          | (go_at_call 19; (with_reducible refine (HRT3.out _ HB4'.out).mono ?_); rintro e w5 ⟨rfl, hb5⟩; have HB5 := hid hb5; have HB5' := hid ((HB4'.out.trans (hb5.mono HB4'.out.size)).trans ((below_box w5 #[.int .u8 0, .int .u8 0, .int .u8 0, .int .u8 0, .int .u8 0, .int .u8 0, .int .u8 0, .int .u8 0, .int .u8 0, .int .u8 0, .int .u8 0, .int .u8 0, .int .u8 0, .int .u8 0, .int .u8 0, .int .u8 0] 28 (m.map u8).toArray.toList).mono (Nat.le_trans HB4'.out.size hb5.size))); clear hb5)
          | (refine wpList_store_mid rfl _ _ _ rfl w5.heap.size 0 _ rfl rfl (there16 (alloc_there w5 _ _ 16 rfl) _ hm'16) (info16a m hm'16) (all_u8 m) ?_)
          | (go_at_call 19; (with_reducible refine (HRT4.out _ HB5'.out).mono ?_); rintro e w6 ⟨rfl, hb6⟩; have HB6 := hid hb6; have HB6' := hid ((HB5'.out.trans (hb6.mono HB5'.out.size)).trans ((below_box w6 #[.int .u8 0, .int .u8 0, .int .u8 0, .int .u8 0, .int .u8 0, .int .u8 0, .int .u8 0, .int .u8 0, .int .u8 0, .int .u8 0, .int .u8 0, .int .u8 0, .int .u8 0, .int .u8 0, .int .u8 0, .int .u8 0] 28 (s.map u8).toArray.toList).mono (Nat.le_trans HB5'.out.size hb6.size))); clear hb6)
          | (refine wpList_store_mid rfl _ _ _ rfl w6.heap.size 0 _ rfl rfl (there16 (alloc_there w6 _ _ 16 rfl) _ hs'16) (info16a s hs'16) (all_u8 s) ?_))
        obtain ⟨W7, hW7⟩ : ∃ W7, (w6.alloc (.cells #[.int .u8 0, .int .u8 0, .int .u8 0, .int .u8 0, .int .u8 0, .int .u8 0, .int .u8 0, .int .u8 0, .int .u8 0, .int .u8 0, .int .u8 0, .int .u8 0, .int .u8 0, .int .u8 0, .int .u8 0, .int .u8 0] 28)).setCells w6.heap.size 0 (s.map u8).toArray.toList = W7 := ⟨_, rfl⟩
        rw [hW7]
        have HLV6 := hid (show LV w6 s W7 by rw [← hW7]; exact LV.start w6 _ _ rfl s hs'16)
        have HLV5 := hid (show LV w5 m W7 from ((LV.start w5 _ _ rfl m hm'16).keep HB6.out).keep HLV6.out.below)
        have HLV4 := hid (show LV w4 r W7 from (((LV.start w4 _ _ rfl r hr'16).keep HB5.out)).keep HLV5.out.below)
        have HLV3 := hid (show LV w3 l W7 from (((LV.start w3 _ _ rfl l hl'16).keep HB4.out)).keep HLV4.out.below)
        have HB7 := hid (show Below w.heap.size w W7 by rw [← hW7]; exact HB6'.out)
        have HT7 := hid (HT.out.keep HB7.out)
        have HL9 := hid (show ∀ p ∈ [(w3.heap.size, 0, l), (w4.heap.size, 0, r), (w5.heap.size, 0, m), (w6.heap.size, 0, s)], W7.rangeAt p.1 p.2.1 (p.2.2.map u8) ∧ p.1 < W7.heap.size from fun p hp => by
          simp only [List.mem_cons, List.not_mem_nil, or_false] at hp
          rcases hp with rfl | rfl | rfl | rfl
          · exact ⟨HLV3.out.rg, HLV3.out.lt⟩
          · exact ⟨HLV4.out.rg, HLV4.out.lt⟩
          · exact ⟨HLV5.out.rg, HLV5.out.lt⟩
          · exact ⟨HLV6.out.rg, HLV6.out.lt⟩)
        have heqn := eqIn_dig n1 n2 hn1l hn2l
        have HHN := hid heqn
        clear hW7 heqn
        try simp only [Act.put]
        go_cut [76] (fun u wx => u = .bool T ∧ Below W7.heap.size W7 wx)
        case first =>
          go_wp2_with fail
          by_cases hc1 : l = m
          · by_cases hc2 : r = s
            · have HTC := hid (show T = false by rw [← HTT.out, decide_eq_true hc1, decide_eq_true hc2]; rfl)
              have heq1 : ∀ W, (Op.equalIn 10000 28 (.agg (l.map u8).toArray) (.agg (m.map u8).toArray)).run Tryd.prog W = .ok true W := fun W => by rw [eqIn_dig l m hl'16 hm'16 W, decide_eq_true hc1]
              have heq2 : ∀ W, (Op.equalIn 10000 28 (.agg (r.map u8).toArray) (.agg (s.map u8).toArray)).run Tryd.prog W = .ok true W := fun W => by rw [eqIn_dig r s hr'16 hs'16 W, decide_eq_true hc2]
              have HC := hid (And.intro hc1 hc2)
              clear hc1 hc2
              have HB0S := hid (show W7.heap.size ≤ W7.heap.size from Nat.le_refl _)
              refine wp_region_noPanic ?_
              refine wp_region_held_drew (S := Sx (W7.heap.size) W7 [(w3.heap.size, 0, l), (w4.heap.size, 0, r), (w5.heap.size, 0, m), (w6.heap.size, 0, s)]) (by kernel_rfl) (Sx.start (HL9.out)) (fun hH => ?_)
              refine wpAnyH_take (i := 0) rfl (by kernel_rfl) (by kernel_rfl) (by kernel_rfl) (fun _ _ _ h => h) (yieldsIf_load_mid (by rfl) _ _ rfl w3.heap.size 0 rfl (l.map u8) _ (fun w h => Sx.get h (k := 0) rfl) under28 rfl (info16 l hl'16)) hH ?_
              simp only [List.getElem_toArray, List.getElem_cons_zero, Act.put, List.setIfInBounds_toArray, List.set_cons_zero, List.set_cons_succ]
              refine wpAnyH_take (i := 1) rfl (by kernel_rfl) (by kernel_rfl) (by kernel_rfl) (fun _ _ _ h => h) (yieldsIf_load_mid (by rfl) _ _ rfl w5.heap.size 0 rfl (m.map u8) _ (fun w h => Sx.get h (k := 2) rfl) under28 rfl (info16 m hm'16)) hH ?_
              simp only [List.getElem_toArray, List.getElem_cons_succ, List.getElem_cons_zero, Act.put, List.setIfInBounds_toArray, List.set_cons_zero, List.set_cons_succ]
              refine wpAnyH_take (i := 2) (v := ?_) rfl (by kernel_rfl) (by kernel_rfl) (by kernel_rfl) (fun _ _ _ h => h) (Or.inl ⟨by rfl, ?_⟩) hH ?_
              rotate_left
              · (intro w hSw; simp only [List.getElem_toArray, List.getElem_cons_succ, List.getElem_cons_zero]; first | (go_simp; done) | (go_simp; with_reducible rfl))
              simp only [List.getElem_toArray, List.getElem_cons_succ, List.getElem_cons_zero, Act.put, List.setIfInBounds_toArray, List.set_cons_zero, List.set_cons_succ]
              refine wpAnyH_take (i := 3) (v := ?_) rfl (by kernel_rfl) (by kernel_rfl) (by kernel_rfl) (fun _ _ _ h => h) (Or.inl ⟨by rfl, ?_⟩) hH ?_
              rotate_left
              · (intro w hSw; simp only [List.getElem_toArray, List.getElem_cons_succ, List.getElem_cons_zero]; first | (go_simp; done) | (go_simp; with_reducible rfl))
              simp only [List.getElem_toArray, List.getElem_cons_succ, List.getElem_cons_zero, Act.put, List.setIfInBounds_toArray, List.set_cons_zero, List.set_cons_succ]
              refine wpAnyH_take (i := 4) rfl (by kernel_rfl) (by kernel_rfl) (by kernel_rfl) (fun _ _ _ h => h) (yieldsIf_load_mid (by rfl) _ _ rfl w4.heap.size 0 rfl (r.map u8) _ (fun w h => Sx.get h (k := 1) rfl) under28 rfl (info16 r hr'16)) hH ?_
              simp only [List.getElem_toArray, List.getElem_cons_succ, List.getElem_cons_zero, Act.put, List.setIfInBounds_toArray, List.set_cons_zero, List.set_cons_succ]
              refine wpAnyH_take (i := 5) rfl (by kernel_rfl) (by kernel_rfl) (by kernel_rfl) (fun _ _ _ h => h) (yieldsIf_load_mid (by rfl) _ _ rfl w6.heap.size 0 rfl (s.map u8) _ (fun w h => Sx.get h (k := 3) rfl) under28 rfl (info16 s hs'16)) hH ?_
              simp only [List.getElem_toArray, List.getElem_cons_succ, List.getElem_cons_zero, Act.put, List.setIfInBounds_toArray, List.set_cons_zero, List.set_cons_succ]
              refine wpAnyH_take (i := 6) (v := ?_) rfl (by kernel_rfl) (by kernel_rfl) (by kernel_rfl) (fun _ _ _ h => h) (Or.inl ⟨by rfl, ?_⟩) hH ?_
              rotate_left
              · (intro w hSw; simp only [List.getElem_toArray, List.getElem_cons_succ, List.getElem_cons_zero]; first | (go_simp; done) | (go_simp; with_reducible rfl))
              simp only [List.getElem_toArray, List.getElem_cons_succ, List.getElem_cons_zero, Act.put, List.setIfInBounds_toArray, List.set_cons_zero, List.set_cons_succ]
              refine wpAnyH_take (i := 7) (v := ?_) rfl (by kernel_rfl) (by kernel_rfl) (by kernel_rfl) (fun _ _ _ h => h) (Or.inl ⟨by rfl, ?_⟩) hH ?_
              rotate_left
              · (intro w hSw; simp only [List.getElem_toArray, List.getElem_cons_succ, List.getElem_cons_zero]; first | (go_simp; done) | (go_simp; with_reducible rfl))
              simp only [List.getElem_toArray, List.getElem_cons_succ, List.getElem_cons_zero, Act.put, List.setIfInBounds_toArray, List.set_cons_zero, List.set_cons_succ]
              refine wpAnyH_take (i := 8) (v := ?_) rfl (by kernel_rfl) (by kernel_rfl) (by kernel_rfl) (fun _ _ _ h => h) (Or.inl ⟨by rfl, ?_⟩) hH ?_
              rotate_left
              · (intro w hSw; simp only [List.getElem_toArray, List.getElem_cons_succ, List.getElem_cons_zero]; first | (go_simp; done) | (go_simp; with_reducible rfl))
              simp only [List.getElem_toArray, List.getElem_cons_succ, List.getElem_cons_zero, Act.put, List.setIfInBounds_toArray, List.set_cons_zero, List.set_cons_succ]
              refine wpAnyH_take (i := 9) (v := undef) rfl (by kernel_rfl) (by kernel_rfl) (by kernel_rfl) (fun _ _ _ h => h) (Or.inr ⟨by rfl, rfl⟩) hH ?_
              simp only [List.getElem_toArray, List.getElem_cons_succ, List.getElem_cons_zero, Act.put, List.setIfInBounds_toArray, List.set_cons_zero, List.set_cons_succ]
              refine wpAnyH_take (i := 10) (v := undef) rfl (by kernel_rfl) (by kernel_rfl) (by kernel_rfl) (fun _ _ _ h => h) (Or.inr ⟨by rfl, rfl⟩) hH ?_
              simp only [List.getElem_toArray, List.getElem_cons_succ, List.getElem_cons_zero, Act.put, List.setIfInBounds_toArray, List.set_cons_zero, List.set_cons_succ]
              refine wpAnyH_take (i := 11) (v := undef) rfl (by kernel_rfl) (by kernel_rfl) (by kernel_rfl) (fun _ _ _ h => h) (Or.inr ⟨by rfl, rfl⟩) hH ?_
              simp only [List.getElem_toArray, List.getElem_cons_succ, List.getElem_cons_zero, Act.put, List.setIfInBounds_toArray, List.set_cons_zero, List.set_cons_succ]
              refine wpAnyH_take (i := 12) (v := undef) rfl (by kernel_rfl) (by kernel_rfl) (by kernel_rfl) (fun _ _ _ h => h) (Or.inr ⟨by rfl, rfl⟩) hH ?_
              simp only [List.getElem_toArray, List.getElem_cons_succ, List.getElem_cons_zero, Act.put, List.setIfInBounds_toArray, List.set_cons_zero, List.set_cons_succ]
              refine wpAnyH_take (i := 13) (v := undef) rfl (by kernel_rfl) (by kernel_rfl) (by kernel_rfl) (fun _ _ _ h => h) (Or.inr ⟨by rfl, rfl⟩) hH ?_
              simp only [List.getElem_toArray, List.getElem_cons_succ, List.getElem_cons_zero, Act.put, List.setIfInBounds_toArray, List.set_cons_zero, List.set_cons_succ]
              refine wpAnyH_take (i := 14) (v := undef) rfl (by kernel_rfl) (by kernel_rfl) (by kernel_rfl) (fun _ _ _ h => h) (Or.inr ⟨by rfl, rfl⟩) hH ?_
              simp only [List.getElem_toArray, List.getElem_cons_succ, List.getElem_cons_zero, Act.put, List.setIfInBounds_toArray, List.set_cons_zero, List.set_cons_succ]
              refine wpAnyH_take (i := 15) (v := undef) rfl (by kernel_rfl) (by kernel_rfl) (by kernel_rfl) (fun _ _ _ h => h) (Or.inr ⟨by rfl, rfl⟩) hH ?_
              simp only [List.getElem_toArray, List.getElem_cons_succ, List.getElem_cons_zero, Act.put, List.setIfInBounds_toArray, List.set_cons_zero, List.set_cons_succ]
              refine wpAnyH_take (i := 16) (v := ?_) rfl (by kernel_rfl) (by kernel_rfl) (by kernel_rfl) (fun _ _ _ h => h) (Or.inl ⟨by rfl, ?_⟩) hH ?_
              rotate_left
              · (intro w hSw; simp only [List.getElem_toArray, List.getElem_cons_succ, List.getElem_cons_zero]; first | (go_simp; done) | (go_simp; with_reducible rfl))
              simp only [List.getElem_toArray, List.getElem_cons_succ, List.getElem_cons_zero, Act.put, List.setIfInBounds_toArray, List.set_cons_zero, List.set_cons_succ]
              refine wpAnyH_done (by kernel_rfl) ?_ _
              refine NoPanic.normal ?_
              go_wp2_with fail
              go_meet
              case rel => exact ⟨by rw [HTC.out], hH.below⟩
            · have HTC := hid (show T = decide (n1 = n2) by rw [← HTT.out, decide_eq_true hc1, decide_eq_false hc2]; rfl)
              have heq1 : ∀ W, (Op.equalIn 10000 28 (.agg (l.map u8).toArray) (.agg (m.map u8).toArray)).run Tryd.prog W = .ok true W := fun W => by rw [eqIn_dig l m hl'16 hm'16 W, decide_eq_true hc1]
              have heq2 : ∀ W, (Op.equalIn 10000 28 (.agg (r.map u8).toArray) (.agg (s.map u8).toArray)).run Tryd.prog W = .ok false W := fun W => by rw [eqIn_dig r s hr'16 hs'16 W, decide_eq_false hc2]
              have heqn := HHN.out
              have HC := hid (And.intro hc1 hc2)
              clear hc1 hc2
              have HB0S := hid (show W7.heap.size ≤ W7.heap.size from Nat.le_refl _)
              refine wp_region_noPanic ?_
              refine wp_region_held_drew (S := Sx (W7.heap.size) W7 [(w3.heap.size, 0, l), (w4.heap.size, 0, r), (w5.heap.size, 0, m), (w6.heap.size, 0, s)]) (by kernel_rfl) (Sx.start (HL9.out)) (fun hH => ?_)
              refine wpAnyH_take (i := 0) rfl (by kernel_rfl) (by kernel_rfl) (by kernel_rfl) (fun _ _ _ h => h) (yieldsIf_load_mid (by rfl) _ _ rfl w3.heap.size 0 rfl (l.map u8) _ (fun w h => Sx.get h (k := 0) rfl) under28 rfl (info16 l hl'16)) hH ?_
              simp only [List.getElem_toArray, List.getElem_cons_zero, Act.put, List.setIfInBounds_toArray, List.set_cons_zero, List.set_cons_succ]
              refine wpAnyH_take (i := 1) rfl (by kernel_rfl) (by kernel_rfl) (by kernel_rfl) (fun _ _ _ h => h) (yieldsIf_load_mid (by rfl) _ _ rfl w5.heap.size 0 rfl (m.map u8) _ (fun w h => Sx.get h (k := 2) rfl) under28 rfl (info16 m hm'16)) hH ?_
              simp only [List.getElem_toArray, List.getElem_cons_succ, List.getElem_cons_zero, Act.put, List.setIfInBounds_toArray, List.set_cons_zero, List.set_cons_succ]
              refine wpAnyH_take (i := 2) (v := ?_) rfl (by kernel_rfl) (by kernel_rfl) (by kernel_rfl) (fun _ _ _ h => h) (Or.inl ⟨by rfl, ?_⟩) hH ?_
              rotate_left
              · (intro w hSw; simp only [List.getElem_toArray, List.getElem_cons_succ, List.getElem_cons_zero]; first | (go_simp; done) | (go_simp; with_reducible rfl))
              simp only [List.getElem_toArray, List.getElem_cons_succ, List.getElem_cons_zero, Act.put, List.setIfInBounds_toArray, List.set_cons_zero, List.set_cons_succ]
              refine wpAnyH_take (i := 3) (v := ?_) rfl (by kernel_rfl) (by kernel_rfl) (by kernel_rfl) (fun _ _ _ h => h) (Or.inl ⟨by rfl, ?_⟩) hH ?_
              rotate_left
              · (intro w hSw; simp only [List.getElem_toArray, List.getElem_cons_succ, List.getElem_cons_zero]; first | (go_simp; done) | (go_simp; with_reducible rfl))
              simp only [List.getElem_toArray, List.getElem_cons_succ, List.getElem_cons_zero, Act.put, List.setIfInBounds_toArray, List.set_cons_zero, List.set_cons_succ]
              refine wpAnyH_take (i := 4) rfl (by kernel_rfl) (by kernel_rfl) (by kernel_rfl) (fun _ _ _ h => h) (yieldsIf_load_mid (by rfl) _ _ rfl w4.heap.size 0 rfl (r.map u8) _ (fun w h => Sx.get h (k := 1) rfl) under28 rfl (info16 r hr'16)) hH ?_
              simp only [List.getElem_toArray, List.getElem_cons_succ, List.getElem_cons_zero, Act.put, List.setIfInBounds_toArray, List.set_cons_zero, List.set_cons_succ]
              refine wpAnyH_take (i := 5) rfl (by kernel_rfl) (by kernel_rfl) (by kernel_rfl) (fun _ _ _ h => h) (yieldsIf_load_mid (by rfl) _ _ rfl w6.heap.size 0 rfl (s.map u8) _ (fun w h => Sx.get h (k := 3) rfl) under28 rfl (info16 s hs'16)) hH ?_
              simp only [List.getElem_toArray, List.getElem_cons_succ, List.getElem_cons_zero, Act.put, List.setIfInBounds_toArray, List.set_cons_zero, List.set_cons_succ]
              refine wpAnyH_take (i := 6) (v := ?_) rfl (by kernel_rfl) (by kernel_rfl) (by kernel_rfl) (fun _ _ _ h => h) (Or.inl ⟨by rfl, ?_⟩) hH ?_
              rotate_left
              · (intro w hSw; simp only [List.getElem_toArray, List.getElem_cons_succ, List.getElem_cons_zero]; first | (go_simp; done) | (go_simp; with_reducible rfl))
              simp only [List.getElem_toArray, List.getElem_cons_succ, List.getElem_cons_zero, Act.put, List.setIfInBounds_toArray, List.set_cons_zero, List.set_cons_succ]
              refine wpAnyH_take (i := 7) (v := ?_) rfl (by kernel_rfl) (by kernel_rfl) (by kernel_rfl) (fun _ _ _ h => h) (Or.inl ⟨by rfl, ?_⟩) hH ?_
              rotate_left
              · (intro w hSw; simp only [List.getElem_toArray, List.getElem_cons_succ, List.getElem_cons_zero]; first | (go_simp; done) | (go_simp; with_reducible rfl))
              simp only [List.getElem_toArray, List.getElem_cons_succ, List.getElem_cons_zero, Act.put, List.setIfInBounds_toArray, List.set_cons_zero, List.set_cons_succ]
              refine wpAnyH_take (i := 8) (v := ?_) rfl (by kernel_rfl) (by kernel_rfl) (by kernel_rfl) (fun _ _ _ h => h) (Or.inl ⟨by rfl, ?_⟩) hH ?_
              rotate_left
              · (intro w hSw; simp only [List.getElem_toArray, List.getElem_cons_succ, List.getElem_cons_zero]; first | (go_simp; done) | (go_simp; with_reducible rfl))
              simp only [List.getElem_toArray, List.getElem_cons_succ, List.getElem_cons_zero, Act.put, List.setIfInBounds_toArray, List.set_cons_zero, List.set_cons_succ]
              refine wpAnyH_take (i := 9) rfl (by kernel_rfl) (by kernel_rfl) (by kernel_rfl) (fun _ _ _ h => h) (yieldsIf_load_mid (by rfl) _ _ rfl w3.heap.size 0 rfl (l.map u8) _ (fun w h => Sx.get h (k := 0) rfl) under28 rfl (info16 l hl'16)) hH ?_
              simp only [List.getElem_toArray, List.getElem_cons_succ, List.getElem_cons_zero, Act.put, List.setIfInBounds_toArray, List.set_cons_zero, List.set_cons_succ]
              refine wpAnyH_take (i := 10) rfl (by kernel_rfl) (by kernel_rfl) (by kernel_rfl) (fun _ _ _ h => h) (yieldsIf_load_mid (by rfl) _ _ rfl w4.heap.size 0 rfl (r.map u8) _ (fun w h => Sx.get h (k := 1) rfl) under28 rfl (info16 r hr'16)) hH ?_
              simp only [List.getElem_toArray, List.getElem_cons_succ, List.getElem_cons_zero, Act.put, List.setIfInBounds_toArray, List.set_cons_zero, List.set_cons_succ]
              refine wpAnyH_take (i := 12) rfl (by kernel_rfl) (by kernel_rfl) (by kernel_rfl) (fun _ _ _ h => h) (yieldsIf_load_mid (by rfl) _ _ rfl w5.heap.size 0 rfl (m.map u8) _ (fun w h => Sx.get h (k := 2) rfl) under28 rfl (info16 m hm'16)) hH ?_
              simp only [List.getElem_toArray, List.getElem_cons_succ, List.getElem_cons_zero, Act.put, List.setIfInBounds_toArray, List.set_cons_zero, List.set_cons_succ]
              refine wpAnyH_take (i := 13) rfl (by kernel_rfl) (by kernel_rfl) (by kernel_rfl) (fun _ _ _ h => h) (yieldsIf_load_mid (by rfl) _ _ rfl w6.heap.size 0 rfl (s.map u8) _ (fun w h => Sx.get h (k := 3) rfl) under28 rfl (info16 s hs'16)) hH ?_
              simp only [List.getElem_toArray, List.getElem_cons_succ, List.getElem_cons_zero, Act.put, List.setIfInBounds_toArray, List.set_cons_zero, List.set_cons_succ]
              refine wpAnyH_ready (rs := [11]) (by kernel_rfl) (by simp) ?_
              refine AllReadyH.cons rfl (fun K hK => ?_) AllReadyH.nil
              simp only [List.getElem_toArray, List.getElem_cons_succ, List.getElem_cons_zero]
              go_simp
              (with_reducible refine (HN1.out _ (HT7.out.keep hH.below)).mono ?_)
              rintro e z5 ⟨rfl, hb5⟩
              have HBS := hid hb5
              clear hb5
              go_wp2_with fail
              refine hK.out _ _ ?_ (fun hH => ?_)
              · exact hH.call HBS.out HB0S.out
              clear hK K
              try simp only [Act.put, List.setIfInBounds_toArray, List.set_cons_zero, List.set_cons_succ]
              refine wpAnyH_ready (rs := [14]) (by kernel_rfl) (by simp) ?_
              refine AllReadyH.cons rfl (fun K hK => ?_) AllReadyH.nil
              simp only [List.getElem_toArray, List.getElem_cons_succ, List.getElem_cons_zero]
              go_simp
              (with_reducible refine (HN2.out _ (HT7.out.keep hH.below)).mono ?_)
              rintro e z6 ⟨rfl, hb5⟩
              have HBS := hid hb5
              clear hb5
              go_wp2_with fail
              refine hK.out _ _ ?_ (fun hH => ?_)
              · exact hH.call HBS.out HB0S.out
              clear hK K
              try simp only [Act.put, List.setIfInBounds_toArray, List.set_cons_zero, List.set_cons_succ]
              refine wpAnyH_take (i := 15) (v := ?_) rfl (by kernel_rfl) (by kernel_rfl) (by kernel_rfl) (fun _ _ _ h => h) (Or.inl ⟨by rfl, ?_⟩) hH ?_
              rotate_left
              · (intro w hSw; simp only [List.getElem_toArray, List.getElem_cons_succ, List.getElem_cons_zero]; first | (go_simp; done) | (go_simp; with_reducible rfl))
              simp only [List.getElem_toArray, List.getElem_cons_succ, List.getElem_cons_zero, Act.put, List.setIfInBounds_toArray, List.set_cons_zero, List.set_cons_succ]
              refine wpAnyH_take (i := 16) (v := ?_) rfl (by kernel_rfl) (by kernel_rfl) (by kernel_rfl) (fun _ _ _ h => h) (Or.inl ⟨by rfl, ?_⟩) hH ?_
              rotate_left
              · (intro w hSw; simp only [List.getElem_toArray, List.getElem_cons_succ, List.getElem_cons_zero]; first | (go_simp; done) | (go_simp; with_reducible rfl))
              simp only [List.getElem_toArray, List.getElem_cons_succ, List.getElem_cons_zero, Act.put, List.setIfInBounds_toArray, List.set_cons_zero, List.set_cons_succ]
              refine wpAnyH_done (by kernel_rfl) ?_ _
              refine NoPanic.normal ?_
              go_wp2_with fail
              go_meet
              case rel => exact ⟨by rw [HTC.out], hH.below⟩
          · have HTC := hid (show T = decide (n1 = n2) by rw [← HTT.out, decide_eq_false hc1]; rfl)
            have heq1 : ∀ W, (Op.equalIn 10000 28 (.agg (l.map u8).toArray) (.agg (m.map u8).toArray)).run Tryd.prog W = .ok false W := fun W => by rw [eqIn_dig l m hl'16 hm'16 W, decide_eq_false hc1]
            have heqn := HHN.out
            have HC := hid hc1
            clear hc1
            have HB0S := hid (show W7.heap.size ≤ W7.heap.size from Nat.le_refl _)
            refine wp_region_noPanic ?_
            refine wp_region_held_drew (S := Sx (W7.heap.size) W7 [(w3.heap.size, 0, l), (w4.heap.size, 0, r), (w5.heap.size, 0, m), (w6.heap.size, 0, s)]) (by kernel_rfl) (Sx.start (HL9.out)) (fun hH => ?_)
            refine wpAnyH_take (i := 0) rfl (by kernel_rfl) (by kernel_rfl) (by kernel_rfl) (fun _ _ _ h => h) (yieldsIf_load_mid (by rfl) _ _ rfl w3.heap.size 0 rfl (l.map u8) _ (fun w h => Sx.get h (k := 0) rfl) under28 rfl (info16 l hl'16)) hH ?_
            simp only [List.getElem_toArray, List.getElem_cons_zero, Act.put, List.setIfInBounds_toArray, List.set_cons_zero, List.set_cons_succ]
            refine wpAnyH_take (i := 1) rfl (by kernel_rfl) (by kernel_rfl) (by kernel_rfl) (fun _ _ _ h => h) (yieldsIf_load_mid (by rfl) _ _ rfl w5.heap.size 0 rfl (m.map u8) _ (fun w h => Sx.get h (k := 2) rfl) under28 rfl (info16 m hm'16)) hH ?_
            simp only [List.getElem_toArray, List.getElem_cons_succ, List.getElem_cons_zero, Act.put, List.setIfInBounds_toArray, List.set_cons_zero, List.set_cons_succ]
            refine wpAnyH_take (i := 2) (v := ?_) rfl (by kernel_rfl) (by kernel_rfl) (by kernel_rfl) (fun _ _ _ h => h) (Or.inl ⟨by rfl, ?_⟩) hH ?_
            rotate_left
            · (intro w hSw; simp only [List.getElem_toArray, List.getElem_cons_succ, List.getElem_cons_zero]; first | (go_simp; done) | (go_simp; with_reducible rfl))
            simp only [List.getElem_toArray, List.getElem_cons_succ, List.getElem_cons_zero, Act.put, List.setIfInBounds_toArray, List.set_cons_zero, List.set_cons_succ]
            refine wpAnyH_take (i := 3) (v := ?_) rfl (by kernel_rfl) (by kernel_rfl) (by kernel_rfl) (fun _ _ _ h => h) (Or.inl ⟨by rfl, ?_⟩) hH ?_
            rotate_left
            · (intro w hSw; simp only [List.getElem_toArray, List.getElem_cons_succ, List.getElem_cons_zero]; first | (go_simp; done) | (go_simp; with_reducible rfl))
            simp only [List.getElem_toArray, List.getElem_cons_succ, List.getElem_cons_zero, Act.put, List.setIfInBounds_toArray, List.set_cons_zero, List.set_cons_succ]
            refine wpAnyH_take (i := 4) (v := undef) rfl (by kernel_rfl) (by kernel_rfl) (by kernel_rfl) (fun _ _ _ h => h) (Or.inr ⟨by rfl, rfl⟩) hH ?_
            simp only [List.getElem_toArray, List.getElem_cons_succ, List.getElem_cons_zero, Act.put, List.setIfInBounds_toArray, List.set_cons_zero, List.set_cons_succ]
            refine wpAnyH_take (i := 5) (v := undef) rfl (by kernel_rfl) (by kernel_rfl) (by kernel_rfl) (fun _ _ _ h => h) (Or.inr ⟨by rfl, rfl⟩) hH ?_
            simp only [List.getElem_toArray, List.getElem_cons_succ, List.getElem_cons_zero, Act.put, List.setIfInBounds_toArray, List.set_cons_zero, List.set_cons_succ]
            refine wpAnyH_take (i := 6) (v := undef) rfl (by kernel_rfl) (by kernel_rfl) (by kernel_rfl) (fun _ _ _ h => h) (Or.inr ⟨by rfl, rfl⟩) hH ?_
            simp only [List.getElem_toArray, List.getElem_cons_succ, List.getElem_cons_zero, Act.put, List.setIfInBounds_toArray, List.set_cons_zero, List.set_cons_succ]
            refine wpAnyH_take (i := 7) (v := ?_) rfl (by kernel_rfl) (by kernel_rfl) (by kernel_rfl) (fun _ _ _ h => h) (Or.inl ⟨by rfl, ?_⟩) hH ?_
            rotate_left
            · (intro w hSw; simp only [List.getElem_toArray, List.getElem_cons_succ, List.getElem_cons_zero]; first | (go_simp; done) | (go_simp; with_reducible rfl))
            simp only [List.getElem_toArray, List.getElem_cons_succ, List.getElem_cons_zero, Act.put, List.setIfInBounds_toArray, List.set_cons_zero, List.set_cons_succ]
            refine wpAnyH_take (i := 8) (v := ?_) rfl (by kernel_rfl) (by kernel_rfl) (by kernel_rfl) (fun _ _ _ h => h) (Or.inl ⟨by rfl, ?_⟩) hH ?_
            rotate_left
            · (intro w hSw; simp only [List.getElem_toArray, List.getElem_cons_succ, List.getElem_cons_zero]; first | (go_simp; done) | (go_simp; with_reducible rfl))
            simp only [List.getElem_toArray, List.getElem_cons_succ, List.getElem_cons_zero, Act.put, List.setIfInBounds_toArray, List.set_cons_zero, List.set_cons_succ]
            refine wpAnyH_take (i := 9) rfl (by kernel_rfl) (by kernel_rfl) (by kernel_rfl) (fun _ _ _ h => h) (yieldsIf_load_mid (by rfl) _ _ rfl w3.heap.size 0 rfl (l.map u8) _ (fun w h => Sx.get h (k := 0) rfl) under28 rfl (info16 l hl'16)) hH ?_
            simp only [List.getElem_toArray, List.getElem_cons_succ, List.getElem_cons_zero, Act.put, List.setIfInBounds_toArray, List.set_cons_zero, List.set_cons_succ]
            refine wpAnyH_take (i := 10) rfl (by kernel_rfl) (by kernel_rfl) (by kernel_rfl) (fun _ _ _ h => h) (yieldsIf_load_mid (by rfl) _ _ rfl w4.heap.size 0 rfl (r.map u8) _ (fun w h => Sx.get h (k := 1) rfl) under28 rfl (info16 r hr'16)) hH ?_
            simp only [List.getElem_toArray, List.getElem_cons_succ, List.getElem_cons_zero, Act.put, List.setIfInBounds_toArray, List.set_cons_zero, List.set_cons_succ]
            refine wpAnyH_take (i := 12) rfl (by kernel_rfl) (by kernel_rfl) (by kernel_rfl) (fun _ _ _ h => h) (yieldsIf_load_mid (by rfl) _ _ rfl w5.heap.size 0 rfl (m.map u8) _ (fun w h => Sx.get h (k := 2) rfl) under28 rfl (info16 m hm'16)) hH ?_
            simp only [List.getElem_toArray, List.getElem_cons_succ, List.getElem_cons_zero, Act.put, List.setIfInBounds_toArray, List.set_cons_zero, List.set_cons_succ]
            refine wpAnyH_take (i := 13) rfl (by kernel_rfl) (by kernel_rfl) (by kernel_rfl) (fun _ _ _ h => h) (yieldsIf_load_mid (by rfl) _ _ rfl w6.heap.size 0 rfl (s.map u8) _ (fun w h => Sx.get h (k := 3) rfl) under28 rfl (info16 s hs'16)) hH ?_
            simp only [List.getElem_toArray, List.getElem_cons_succ, List.getElem_cons_zero, Act.put, List.setIfInBounds_toArray, List.set_cons_zero, List.set_cons_succ]
            refine wpAnyH_ready (rs := [11]) (by kernel_rfl) (by simp) ?_
            refine AllReadyH.cons rfl (fun K hK => ?_) AllReadyH.nil
            simp only [List.getElem_toArray, List.getElem_cons_succ, List.getElem_cons_zero]
            go_simp
            (with_reducible refine (HN1.out _ (HT7.out.keep hH.below)).mono ?_)
            rintro e z3 ⟨rfl, hb5⟩
            have HBS := hid hb5
            clear hb5
            go_wp2_with fail
            refine hK.out _ _ ?_ (fun hH => ?_)
            · exact hH.call HBS.out HB0S.out
            clear hK K
            try simp only [Act.put, List.setIfInBounds_toArray, List.set_cons_zero, List.set_cons_succ]
            refine wpAnyH_ready (rs := [14]) (by kernel_rfl) (by simp) ?_
            refine AllReadyH.cons rfl (fun K hK => ?_) AllReadyH.nil
            simp only [List.getElem_toArray, List.getElem_cons_succ, List.getElem_cons_zero]
            go_simp
            (with_reducible refine (HN2.out _ (HT7.out.keep hH.below)).mono ?_)
            rintro e z4 ⟨rfl, hb5⟩
            have HBS := hid hb5
            clear hb5
            go_wp2_with fail
            refine hK.out _ _ ?_ (fun hH => ?_)
            · exact hH.call HBS.out HB0S.out
            clear hK K
            try simp only [Act.put, List.setIfInBounds_toArray, List.set_cons_zero, List.set_cons_succ]
            refine wpAnyH_take (i := 15) (v := ?_) rfl (by kernel_rfl) (by kernel_rfl) (by kernel_rfl) (fun _ _ _ h => h) (Or.inl ⟨by rfl, ?_⟩) hH ?_
            rotate_left
            · (intro w hSw; simp only [List.getElem_toArray, List.getElem_cons_succ, List.getElem_cons_zero]; first | (go_simp; done) | (go_simp; with_reducible rfl))
            simp only [List.getElem_toArray, List.getElem_cons_succ, List.getElem_cons_zero, Act.put, List.setIfInBounds_toArray, List.set_cons_zero, List.set_cons_succ]
            refine wpAnyH_take (i := 16) (v := ?_) rfl (by kernel_rfl) (by kernel_rfl) (by kernel_rfl) (fun _ _ _ h => h) (Or.inl ⟨by rfl, ?_⟩) hH ?_
            rotate_left
            · (intro w hSw; simp only [List.getElem_toArray, List.getElem_cons_succ, List.getElem_cons_zero]; first | (go_simp; done) | (go_simp; with_reducible rfl))
            simp only [List.getElem_toArray, List.getElem_cons_succ, List.getElem_cons_zero, Act.put, List.setIfInBounds_toArray, List.set_cons_zero, List.set_cons_succ]
            refine wpAnyH_done (by kernel_rfl) ?_ _
            refine NoPanic.normal ?_
            go_wp2_with fail
            go_meet
            case rel => exact ⟨by rw [HTC.out], hH.below⟩
        case rest =>
          rename World => W8
          obtain ⟨rfl, hb8⟩ := hcut
          have HB8 := hid (show Below w.heap.size w W8 from HB7.out.trans (hb8.mono HB7.out.size))
          have HCR1 := hid (fun (W : World) (h : Below W8.heap.size W8 W) => HIH.out (ds.take k) (es.take k) (some ⟨b, off, none⟩) k c (some ⟨b', off', none⟩) k c' W (by rw [HLT.out]; omega) (by rw [HLT.out, HLT'.out]) (by rw [HLT.out]; omega) (H16.out.take k) (HE16.out.take k) (HT.out.keep (HB8.out.trans (h.mono HB8.out.size))) HLT.out.symm (by omega) HLT'.out.symm (by omega) (((HDS.out.take k).keep (HB8.out.trans (h.mono HB8.out.size))).mono (Nat.le_trans HB8.out.size h.size)) (((HES.out.take k).keep (HB8.out.trans (h.mono HB8.out.size))).mono (Nat.le_trans HB8.out.size h.size)))
          have HCR2 := hid (fun (W : World) (h : Below W8.heap.size W8 W) => HIH.out (ds.drop k) (es.drop k) (some ⟨b, off + k * 16, none⟩) (ds.length - k) (c - k) (some ⟨b', off' + k * 16, none⟩) (ds.length - k) (c' - k) W (by rw [HLD.out]; omega) (by rw [HLD.out, HLD'.out]) (by rw [HLD.out]; omega) (H16.out.drop k) (HE16.out.drop k) (HT.out.keep (HB8.out.trans (h.mono HB8.out.size))) HLD.out.symm (by omega) HLD'.out.symm (by omega) (((HDS.out.drop k).keep (HB8.out.trans (h.mono HB8.out.size))).mono (Nat.le_trans HB8.out.size h.size)) (((HES.out.drop k).keep (HB8.out.trans (h.mono HB8.out.size))).mono (Nat.le_trans HB8.out.size h.size)))
          have HL15 := hid (show ∀ p ∈ ([] : List (Nat × Nat × List UInt8)), W8.rangeAt p.1 p.2.1 (p.2.2.map u8) ∧ p.1 < W8.heap.size from fun p hp => by cases hp)
          clear hb8
          cases T
          · obtain ⟨R1, hR1⟩ : ∃ R, diffF (ds.take k) (es.take k) = R := ⟨_, rfl⟩
            obtain ⟨R2, hR2⟩ : ∃ R, diffF (ds.drop k) (es.drop k) = R := ⟨_, rfl⟩
            rw [hR1] at HE HCR1
            rw [hR2] at HE HCR2
            have HF := hid (show diffF ds es = (R1 || R2) by rw [HE.out, if_neg (by decide)])
            clear hR1 hR2
            go_wp2_with fail
            cases R1
            ·
              have HB0S := hid (show W8.heap.size ≤ W8.heap.size from Nat.le_refl _)
              refine wp_region_noPanic ?_
              refine wp_region_held_drew (S := Sx (W8.heap.size) W8 []) (by kernel_rfl) (Sx.start (HL15.out)) (fun hH => ?_)
              refine wpAnyH_take (i := 0) (v := ?_) rfl (by kernel_rfl) (by kernel_rfl) (by kernel_rfl) (fun _ _ _ h => h) (Or.inl ⟨by rfl, ?_⟩) hH ?_
              rotate_left
              · (intro w hSw; simp only [List.getElem_toArray, List.getElem_cons_zero]; first | (go_simp; done) | (go_simp; with_reducible rfl))
              simp only [List.getElem_toArray, List.getElem_cons_zero, Act.put, List.setIfInBounds_toArray, List.set_cons_zero, List.set_cons_succ]
              refine wpAnyH_take (i := 1) (v := ?_) rfl (by kernel_rfl) (by kernel_rfl) (by kernel_rfl) (fun _ _ _ h => h) (Or.inl ⟨by rfl, ?_⟩) hH ?_
              rotate_left
              · (intro w hSw; simp only [List.getElem_toArray, List.getElem_cons_succ, List.getElem_cons_zero]; first | (go_simp; done) | (go_simp; with_reducible rfl))
              simp only [List.getElem_toArray, List.getElem_cons_succ, List.getElem_cons_zero, Act.put, List.setIfInBounds_toArray, List.set_cons_zero, List.set_cons_succ]
              refine wpAnyH_take (i := 2) (v := ?_) rfl (by kernel_rfl) (by kernel_rfl) (by kernel_rfl) (fun _ _ _ h => h) (Or.inl ⟨by rfl, ?_⟩) hH ?_
              rotate_left
              · (intro w hSw; simp only [List.getElem_toArray, List.getElem_cons_succ, List.getElem_cons_zero]; first | (go_simp; done) | (go_simp; with_reducible rfl))
              simp only [List.getElem_toArray, List.getElem_cons_succ, List.getElem_cons_zero, Act.put, List.setIfInBounds_toArray, List.set_cons_zero, List.set_cons_succ]
              refine wpAnyH_take (i := 3) (v := ?_) rfl (by kernel_rfl) (by kernel_rfl) (by kernel_rfl) (fun _ _ _ h => h) (Or.inl ⟨by rfl, ?_⟩) hH ?_
              rotate_left
              · (intro w hSw; simp only [List.getElem_toArray, List.getElem_cons_succ, List.getElem_cons_zero]; first | (go_simp; done) | (go_simp; with_reducible rfl))
              simp only [List.getElem_toArray, List.getElem_cons_succ, List.getElem_cons_zero, Act.put, List.setIfInBounds_toArray, List.set_cons_zero, List.set_cons_succ]
              refine wpAnyH_take (i := 4) (v := ?_) rfl (by kernel_rfl) (by kernel_rfl) (by kernel_rfl) (fun _ _ _ h => h) (Or.inl ⟨by rfl, ?_⟩) hH ?_
              rotate_left
              · (intro w hSw; simp only [List.getElem_toArray, List.getElem_cons_succ, List.getElem_cons_zero]; first | (go_simp; done) | (go_simp; with_reducible rfl))
              simp only [List.getElem_toArray, List.getElem_cons_succ, List.getElem_cons_zero, Act.put, List.setIfInBounds_toArray, List.set_cons_zero, List.set_cons_succ]
              refine wpAnyH_take (i := 5) (v := ?_) rfl (by kernel_rfl) (by kernel_rfl) (by kernel_rfl) (fun _ _ _ h => h) (Or.inl ⟨by rfl, ?_⟩) hH ?_
              rotate_left
              · (intro w hSw; simp only [List.getElem_toArray, List.getElem_cons_succ, List.getElem_cons_zero]; first | (go_simp; done) | (go_simp; with_reducible rfl))
              simp only [List.getElem_toArray, List.getElem_cons_succ, List.getElem_cons_zero, Act.put, List.setIfInBounds_toArray, List.set_cons_zero, List.set_cons_succ]
              refine wpAnyH_ready (rs := [6]) (by kernel_rfl) (by simp) ?_
              refine AllReadyH.cons rfl (fun K hK => ?_) AllReadyH.nil
              simp only [List.getElem_toArray, List.getElem_cons_succ, List.getElem_cons_zero]
              go_simp
              (with_reducible refine (HCR1.out _ hH.below).mono ?_)
              rintro e z7 ⟨rfl, hb5⟩
              have HBS := hid hb5
              clear hb5
              go_wp2_with fail
              refine hK.out _ _ ?_ (fun hH => ?_)
              · exact hH.call HBS.out HB0S.out
              clear hK K
              try simp only [Act.put, List.setIfInBounds_toArray, List.set_cons_zero, List.set_cons_succ]
              refine wpAnyH_take (i := 7) (v := ?_) rfl (by kernel_rfl) (by kernel_rfl) (by kernel_rfl) (fun _ _ _ h => h) (Or.inl ⟨by rfl, ?_⟩) hH ?_
              rotate_left
              · (intro w hSw; simp only [List.getElem_toArray, List.getElem_cons_succ, List.getElem_cons_zero]; first | (go_simp; done) | (go_simp; with_reducible rfl))
              simp only [List.getElem_toArray, List.getElem_cons_succ, List.getElem_cons_zero, Act.put, List.setIfInBounds_toArray, List.set_cons_zero, List.set_cons_succ]
              refine wpAnyH_take (i := 8) (v := ?_) rfl (by kernel_rfl) (by kernel_rfl) (by kernel_rfl) (fun _ _ _ h => h) (Or.inl ⟨by rfl, ?_⟩) hH ?_
              rotate_left
              · (intro w hSw; simp only [List.getElem_toArray, List.getElem_cons_succ, List.getElem_cons_zero]; first | (go_simp; done) | (go_simp; with_reducible rfl))
              simp only [List.getElem_toArray, List.getElem_cons_succ, List.getElem_cons_zero, Act.put, List.setIfInBounds_toArray, List.set_cons_zero, List.set_cons_succ]
              refine wpAnyH_take (i := 9) (v := ?_) rfl (by kernel_rfl) (by kernel_rfl) (by kernel_rfl) (fun _ _ _ h => h) (Or.inl ⟨by rfl, ?_⟩) hH ?_
              rotate_left
              · (intro w hSw; simp only [List.getElem_toArray, List.getElem_cons_succ, List.getElem_cons_zero]; first | (go_simp; done) | (go_simp; with_reducible rfl))
              simp only [List.getElem_toArray, List.getElem_cons_succ, List.getElem_cons_zero, Act.put, List.setIfInBounds_toArray, List.set_cons_zero, List.set_cons_succ]
              refine wpAnyH_take (i := 10) (v := ?_) rfl (by kernel_rfl) (by kernel_rfl) (by kernel_rfl) (fun _ _ _ h => h) (Or.inl ⟨by rfl, ?_⟩) hH ?_
              rotate_left
              · (intro w hSw; simp only [List.getElem_toArray, List.getElem_cons_succ, List.getElem_cons_zero]; first | (go_simp; done) | (go_simp; with_reducible rfl))
              simp only [List.getElem_toArray, List.getElem_cons_succ, List.getElem_cons_zero, Act.put, List.setIfInBounds_toArray, List.set_cons_zero, List.set_cons_succ]
              refine wpAnyH_take (i := 11) (v := ?_) rfl (by kernel_rfl) (by kernel_rfl) (by kernel_rfl) (fun _ _ _ h => h) (Or.inl ⟨by rfl, ?_⟩) hH ?_
              rotate_left
              · (intro w hSw; simp only [List.getElem_toArray, List.getElem_cons_succ, List.getElem_cons_zero]; first | (go_simp; done) | (go_simp; with_reducible rfl))
              simp only [List.getElem_toArray, List.getElem_cons_succ, List.getElem_cons_zero, Act.put, List.setIfInBounds_toArray, List.set_cons_zero, List.set_cons_succ]
              refine wpAnyH_take (i := 12) (v := ?_) rfl (by kernel_rfl) (by kernel_rfl) (by kernel_rfl) (fun _ _ _ h => h) (Or.inl ⟨by rfl, ?_⟩) hH ?_
              rotate_left
              · (intro w hSw; simp only [List.getElem_toArray, List.getElem_cons_succ, List.getElem_cons_zero]; first | (go_simp; done) | (go_simp; with_reducible rfl))
              simp only [List.getElem_toArray, List.getElem_cons_succ, List.getElem_cons_zero, Act.put, List.setIfInBounds_toArray, List.set_cons_zero, List.set_cons_succ]
              refine wpAnyH_take (i := 13) (v := ?_) rfl (by kernel_rfl) (by kernel_rfl) (by kernel_rfl) (fun _ _ _ h => h) (Or.inl ⟨by rfl, ?_⟩) hH ?_
              rotate_left
              · (intro w hSw; simp only [List.getElem_toArray, List.getElem_cons_succ, List.getElem_cons_zero]; first | (go_simp; done) | (go_simp; with_reducible rfl))
              simp only [List.getElem_toArray, List.getElem_cons_succ, List.getElem_cons_zero, Act.put, List.setIfInBounds_toArray, List.set_cons_zero, List.set_cons_succ]
              refine wpAnyH_ready (rs := [14]) (by kernel_rfl) (by simp) ?_
              refine AllReadyH.cons rfl (fun K hK => ?_) AllReadyH.nil
              simp only [List.getElem_toArray, List.getElem_cons_succ, List.getElem_cons_zero]
              go_simp
              (with_reducible refine (HCR2.out _ hH.below).mono ?_)
              rintro e z8 ⟨rfl, hb5⟩
              have HBS := hid hb5
              clear hb5
              go_wp2_with fail
              refine hK.out _ _ ?_ (fun hH => ?_)
              · exact hH.call HBS.out HB0S.out
              clear hK K
              try simp only [Act.put, List.setIfInBounds_toArray, List.set_cons_zero, List.set_cons_succ]
              refine wpAnyH_take (i := 15) (v := ?_) rfl (by kernel_rfl) (by kernel_rfl) (by kernel_rfl) (fun _ _ _ h => h) (Or.inl ⟨by rfl, ?_⟩) hH ?_
              rotate_left
              · (intro w hSw; simp only [List.getElem_toArray, List.getElem_cons_succ, List.getElem_cons_zero]; first | (go_simp; done) | (go_simp; with_reducible rfl))
              simp only [List.getElem_toArray, List.getElem_cons_succ, List.getElem_cons_zero, Act.put, List.setIfInBounds_toArray, List.set_cons_zero, List.set_cons_succ]
              refine wpAnyH_take (i := 16) (v := ?_) rfl (by kernel_rfl) (by kernel_rfl) (by kernel_rfl) (fun _ _ _ h => h) (Or.inl ⟨by rfl, ?_⟩) hH ?_
              rotate_left
              · (intro w hSw; simp only [List.getElem_toArray, List.getElem_cons_succ, List.getElem_cons_zero]; first | (go_simp; done) | (go_simp; with_reducible rfl))
              simp only [List.getElem_toArray, List.getElem_cons_succ, List.getElem_cons_zero, Act.put, List.setIfInBounds_toArray, List.set_cons_zero, List.set_cons_succ]
              refine wpAnyH_done (by kernel_rfl) ?_ _
              refine NoPanic.normal ?_
              go_wp2_with fail
              go_ret
              exact ⟨ret_bool (by rw [HF.out]; rfl), HB8.out.trans (hH.below.mono HB8.out.size)⟩
            ·
              have HB0S := hid (show W8.heap.size ≤ W8.heap.size from Nat.le_refl _)
              refine wp_region_noPanic ?_
              refine wp_region_held_drew (S := Sx (W8.heap.size) W8 []) (by kernel_rfl) (Sx.start (HL15.out)) (fun hH => ?_)
              refine wpAnyH_take (i := 0) (v := ?_) rfl (by kernel_rfl) (by kernel_rfl) (by kernel_rfl) (fun _ _ _ h => h) (Or.inl ⟨by rfl, ?_⟩) hH ?_
              rotate_left
              · (intro w hSw; simp only [List.getElem_toArray, List.getElem_cons_zero]; first | (go_simp; done) | (go_simp; with_reducible rfl))
              simp only [List.getElem_toArray, List.getElem_cons_zero, Act.put, List.setIfInBounds_toArray, List.set_cons_zero, List.set_cons_succ]
              refine wpAnyH_take (i := 1) (v := ?_) rfl (by kernel_rfl) (by kernel_rfl) (by kernel_rfl) (fun _ _ _ h => h) (Or.inl ⟨by rfl, ?_⟩) hH ?_
              rotate_left
              · (intro w hSw; simp only [List.getElem_toArray, List.getElem_cons_succ, List.getElem_cons_zero]; first | (go_simp; done) | (go_simp; with_reducible rfl))
              simp only [List.getElem_toArray, List.getElem_cons_succ, List.getElem_cons_zero, Act.put, List.setIfInBounds_toArray, List.set_cons_zero, List.set_cons_succ]
              refine wpAnyH_take (i := 2) (v := ?_) rfl (by kernel_rfl) (by kernel_rfl) (by kernel_rfl) (fun _ _ _ h => h) (Or.inl ⟨by rfl, ?_⟩) hH ?_
              rotate_left
              · (intro w hSw; simp only [List.getElem_toArray, List.getElem_cons_succ, List.getElem_cons_zero]; first | (go_simp; done) | (go_simp; with_reducible rfl))
              simp only [List.getElem_toArray, List.getElem_cons_succ, List.getElem_cons_zero, Act.put, List.setIfInBounds_toArray, List.set_cons_zero, List.set_cons_succ]
              refine wpAnyH_take (i := 3) (v := ?_) rfl (by kernel_rfl) (by kernel_rfl) (by kernel_rfl) (fun _ _ _ h => h) (Or.inl ⟨by rfl, ?_⟩) hH ?_
              rotate_left
              · (intro w hSw; simp only [List.getElem_toArray, List.getElem_cons_succ, List.getElem_cons_zero]; first | (go_simp; done) | (go_simp; with_reducible rfl))
              simp only [List.getElem_toArray, List.getElem_cons_succ, List.getElem_cons_zero, Act.put, List.setIfInBounds_toArray, List.set_cons_zero, List.set_cons_succ]
              refine wpAnyH_take (i := 4) (v := ?_) rfl (by kernel_rfl) (by kernel_rfl) (by kernel_rfl) (fun _ _ _ h => h) (Or.inl ⟨by rfl, ?_⟩) hH ?_
              rotate_left
              · (intro w hSw; simp only [List.getElem_toArray, List.getElem_cons_succ, List.getElem_cons_zero]; first | (go_simp; done) | (go_simp; with_reducible rfl))
              simp only [List.getElem_toArray, List.getElem_cons_succ, List.getElem_cons_zero, Act.put, List.setIfInBounds_toArray, List.set_cons_zero, List.set_cons_succ]
              refine wpAnyH_take (i := 5) (v := ?_) rfl (by kernel_rfl) (by kernel_rfl) (by kernel_rfl) (fun _ _ _ h => h) (Or.inl ⟨by rfl, ?_⟩) hH ?_
              rotate_left
              · (intro w hSw; simp only [List.getElem_toArray, List.getElem_cons_succ, List.getElem_cons_zero]; first | (go_simp; done) | (go_simp; with_reducible rfl))
              simp only [List.getElem_toArray, List.getElem_cons_succ, List.getElem_cons_zero, Act.put, List.setIfInBounds_toArray, List.set_cons_zero, List.set_cons_succ]
              refine wpAnyH_ready (rs := [6]) (by kernel_rfl) (by simp) ?_
              refine AllReadyH.cons rfl (fun K hK => ?_) AllReadyH.nil
              simp only [List.getElem_toArray, List.getElem_cons_succ, List.getElem_cons_zero]
              go_simp
              (with_reducible refine (HCR1.out _ hH.below).mono ?_)
              rintro e z9 ⟨rfl, hb5⟩
              have HBS := hid hb5
              clear hb5
              go_wp2_with fail
              refine hK.out _ _ ?_ (fun hH => ?_)
              · exact hH.call HBS.out HB0S.out
              clear hK K
              try simp only [Act.put, List.setIfInBounds_toArray, List.set_cons_zero, List.set_cons_succ]
              refine wpAnyH_take (i := 7) (v := ?_) rfl (by kernel_rfl) (by kernel_rfl) (by kernel_rfl) (fun _ _ _ h => h) (Or.inl ⟨by rfl, ?_⟩) hH ?_
              rotate_left
              · (intro w hSw; simp only [List.getElem_toArray, List.getElem_cons_succ, List.getElem_cons_zero]; first | (go_simp; done) | (go_simp; with_reducible rfl))
              simp only [List.getElem_toArray, List.getElem_cons_succ, List.getElem_cons_zero, Act.put, List.setIfInBounds_toArray, List.set_cons_zero, List.set_cons_succ]
              refine wpAnyH_take (i := 8) (v := undef) rfl (by kernel_rfl) (by kernel_rfl) (by kernel_rfl) (fun _ _ _ h => h) (Or.inr ⟨by rfl, rfl⟩) hH ?_
              simp only [List.getElem_toArray, List.getElem_cons_succ, List.getElem_cons_zero, Act.put, List.setIfInBounds_toArray, List.set_cons_zero, List.set_cons_succ]
              refine wpAnyH_take (i := 9) (v := undef) rfl (by kernel_rfl) (by kernel_rfl) (by kernel_rfl) (fun _ _ _ h => h) (Or.inr ⟨by rfl, rfl⟩) hH ?_
              simp only [List.getElem_toArray, List.getElem_cons_succ, List.getElem_cons_zero, Act.put, List.setIfInBounds_toArray, List.set_cons_zero, List.set_cons_succ]
              refine wpAnyH_take (i := 10) (v := undef) rfl (by kernel_rfl) (by kernel_rfl) (by kernel_rfl) (fun _ _ _ h => h) (Or.inr ⟨by rfl, rfl⟩) hH ?_
              simp only [List.getElem_toArray, List.getElem_cons_succ, List.getElem_cons_zero, Act.put, List.setIfInBounds_toArray, List.set_cons_zero, List.set_cons_succ]
              refine wpAnyH_take (i := 11) (v := undef) rfl (by kernel_rfl) (by kernel_rfl) (by kernel_rfl) (fun _ _ _ h => h) (Or.inr ⟨by rfl, rfl⟩) hH ?_
              simp only [List.getElem_toArray, List.getElem_cons_succ, List.getElem_cons_zero, Act.put, List.setIfInBounds_toArray, List.set_cons_zero, List.set_cons_succ]
              refine wpAnyH_take (i := 12) (v := undef) rfl (by kernel_rfl) (by kernel_rfl) (by kernel_rfl) (fun _ _ _ h => h) (Or.inr ⟨by rfl, rfl⟩) hH ?_
              simp only [List.getElem_toArray, List.getElem_cons_succ, List.getElem_cons_zero, Act.put, List.setIfInBounds_toArray, List.set_cons_zero, List.set_cons_succ]
              refine wpAnyH_take (i := 13) (v := undef) rfl (by kernel_rfl) (by kernel_rfl) (by kernel_rfl) (fun _ _ _ h => h) (Or.inr ⟨by rfl, rfl⟩) hH ?_
              simp only [List.getElem_toArray, List.getElem_cons_succ, List.getElem_cons_zero, Act.put, List.setIfInBounds_toArray, List.set_cons_zero, List.set_cons_succ]
              refine wpAnyH_take (i := 14) (v := undef) rfl (by kernel_rfl) (by kernel_rfl) (by kernel_rfl) (fun _ _ _ h => h) (Or.inr ⟨by rfl, rfl⟩) hH ?_
              simp only [List.getElem_toArray, List.getElem_cons_succ, List.getElem_cons_zero, Act.put, List.setIfInBounds_toArray, List.set_cons_zero, List.set_cons_succ]
              refine wpAnyH_take (i := 15) (v := ?_) rfl (by kernel_rfl) (by kernel_rfl) (by kernel_rfl) (fun _ _ _ h => h) (Or.inl ⟨by rfl, ?_⟩) hH ?_
              rotate_left
              · (intro w hSw; simp only [List.getElem_toArray, List.getElem_cons_succ, List.getElem_cons_zero]; first | (go_simp; done) | (go_simp; with_reducible rfl))
              simp only [List.getElem_toArray, List.getElem_cons_succ, List.getElem_cons_zero, Act.put, List.setIfInBounds_toArray, List.set_cons_zero, List.set_cons_succ]
              refine wpAnyH_take (i := 16) (v := ?_) rfl (by kernel_rfl) (by kernel_rfl) (by kernel_rfl) (fun _ _ _ h => h) (Or.inl ⟨by rfl, ?_⟩) hH ?_
              rotate_left
              · (intro w hSw; simp only [List.getElem_toArray, List.getElem_cons_succ, List.getElem_cons_zero]; first | (go_simp; done) | (go_simp; with_reducible rfl))
              simp only [List.getElem_toArray, List.getElem_cons_succ, List.getElem_cons_zero, Act.put, List.setIfInBounds_toArray, List.set_cons_zero, List.set_cons_succ]
              refine wpAnyH_done (by kernel_rfl) ?_ _
              refine NoPanic.normal ?_
              go_wp2_with fail
              go_ret
              exact ⟨ret_bool (by rw [HF.out]; rfl), HB8.out.trans (hH.below.mono HB8.out.size)⟩
          · have HF := hid (show diffF ds es = true by rw [HE.out, if_pos rfl])
            go_wp2_with fail
            go_ret
            exact ⟨ret_bool HF.out.symm, HB8.out⟩
        --]B
end Go.Proofs.YtbjfkliijhnloaaDoor
