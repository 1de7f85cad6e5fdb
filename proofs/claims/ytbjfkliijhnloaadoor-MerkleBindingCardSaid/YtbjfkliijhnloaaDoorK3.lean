/- MerkleBinding walked: it answers true. -/
import Derived.Test.YtbjfkliijhnloaaDoorR10
import Derived.Test.YtbjfkliijhnloaaDoorE3
namespace Go.Proofs.YtbjfkliijhnloaaDoor
open Go.RowKit
set_option linter.unusedVariables false

set_option maxRecDepth 100000 in
set_option maxHeartbeats 4000000 in
theorem lbinding_any (ds es : List (List UInt8)) (h16 : All16 ds) (he16 : All16 es) (a a' : Option Addr) (n c n' c' : Nat) (w : World) (hT : Tab w) (hn : n = ds.length) (hc : n ≤ c) (hn' : n' = es.length) (hc' : n' ≤ c') (hds : DigB w.heap.size w a ds) (hes : DigB w.heap.size w a' es) :
    Calls Tryd.prog 7 #[.slice a n c, .slice a' n' c'] w fun e w' => e = .returned (.bool true) ∧ Below w.heap.size w w' := by
  subst hn hn'
  have HSA := hid (sanity_any w hT)
  have HT := hid hT; have HDS := hid hds; have HES := hid hes; have H16 := hid h16; have HE16 := hid he16
  clear hT hds hes h16 he16
  by_cases hbig : ds.length > 40
  · have b1 : (ds.length : Int) > 40 := by omega
    clear hbig
    go_enter Tryd.func7, Tryd.ntmps7
    go_wp2_with ((with_reducible refine (HSA.out).mono ?_); rintro e w1 ⟨rfl, hb⟩; have HB := hid hb; clear hb)
    go_ret
    exact ⟨rfl, HB.out⟩
  · have b1 : ¬ ((ds.length : Int) > 40) := by omega
    have d1 : decide ((40 : Int) < (ds.length : Int)) = false := by simp; omega
    by_cases hlen : ds.length = es.length
    · have HLEN := hid hlen
      rw [← hlen] at hc' ⊢
      have HSM := hid (fun (W : World) (hb : Below w.heap.size w W) => same_any ds es H16.out HE16.out a a' ds.length c ds.length c' rfl hlen (by omega) W ((HDS.out.keep hb).mono hb.size) ((HES.out.keep hb).mono hb.size))
      obtain ⟨r, hr⟩ : ∃ r, rootF ds = r := ⟨_, rfl⟩
      obtain ⟨s, hs⟩ : ∃ s, rootF es = s := ⟨_, rfl⟩
      have hr16 : r.length = 16 := by rw [← hr]; exact rootF_length _
      have hs16 : s.length = 16 := by rw [← hs]; exact rootF_length _
      have HRT1 := hid (fun (W : World) (hb : Below w.heap.size w W) => (show Calls Tryd.prog 18 #[.slice a ds.length c] W fun e w' => e = .returned (dv r) ∧ Below W.heap.size W w' by
        rw [← hr]; exact root_any (ds.length + 1) ds a ds.length c W (Nat.lt_succ_self _) H16.out (HT.out.keep hb) rfl hc (by omega) ((HDS.out.keep hb).mono hb.size)))
      have HRT2 := hid (fun (W : World) (hb : Below w.heap.size w W) => (show Calls Tryd.prog 18 #[.slice a' ds.length c'] W fun e w' => e = .returned (dv s) ∧ Below W.heap.size W w' by
        rw [← hs]; exact root_any (es.length + 1) es a' ds.length c' W (Nat.lt_succ_self _) HE16.out (HT.out.keep hb) hlen hc' (by omega) ((HES.out.keep hb).mono hb.size)))
      have HDF := hid (fun (W : World) (hb : Below w.heap.size w W) => diff_any (ds.length + 1) ds es a ds.length c a' ds.length c' W (Nat.lt_succ_self _) hlen (by omega) H16.out HE16.out (HT.out.keep hb) rfl hc hlen hc' ((HDS.out.keep hb).mono hb.size) ((HES.out.keep hb).mono hb.size))
      have HBN := hid (fun (h : r = s) => binding (ds.length + 1) ds es (Nat.lt_succ_self _) hlen (by rw [hr, hs]; exact h))
      have HNE := hid (fun (h : r ≠ s) => (show ds ≠ es from fun e => h (by rw [← hr, ← hs, e])))
      clear hr hs hlen
      by_cases hrs : r = s
      · have heq : ∀ W, (Op.equalIn 10000 28 (.agg (r.map u8).toArray) (.agg (s.map u8).toArray)).run Tryd.prog W = .ok true W := fun W => by rw [eqIn_dig r s hr16 hs16 W, decide_eq_true hrs]
        have HB2 := hid (HBN.out hrs)
        clear hrs
        by_cases hde : ds = es
        · have HDE := hid hde
          have hdd : decide (ds = es) = true := decide_eq_true hde
          rw [hdd] at HSM
          clear hde hdd
          go_enter Tryd.func7, Tryd.ntmps7
          go_wp2_with (first
            | (go_at_call 15; (with_reducible refine (HSA.out).mono ?_); rintro e w1 ⟨rfl, hb⟩; have HB1 := hid hb; clear hb)
            | (go_at_call 20; (with_reducible refine (HSM.out _ HB1.out).mono ?_); rintro e w2 ⟨rfl, hb⟩; have HB2' := hid (HB1.out.trans (hb.mono HB1.out.size)); clear hb)
            | (go_at_call 18; (with_reducible refine (HRT1.out _ HB2'.out).mono ?_); rintro e w3 ⟨rfl, hb⟩; have HB3 := hid (HB2'.out.trans (hb.mono HB2'.out.size)); clear hb)
            | (go_at_call 18; (with_reducible refine (HRT2.out _ HB3.out).mono ?_); rintro e w4 ⟨rfl, hb⟩; have HB4 := hid (HB3.out.trans (hb.mono HB3.out.size)); clear hb))
          go_ret
          exact ⟨rfl, HB4.out⟩
        · have hct : diffF ds es = true := HB2.out.resolve_left hde
          have hdd : decide (ds = es) = false := decide_eq_false hde
          rw [hdd] at HSM
          rw [hct] at HDF
          clear hde hct hdd
          go_enter Tryd.func7, Tryd.ntmps7
          go_wp2_with (first
            | (go_at_call 15; (with_reducible refine (HSA.out).mono ?_); rintro e w1 ⟨rfl, hb⟩; have HB1 := hid hb; clear hb)
            | (go_at_call 20; (with_reducible refine (HSM.out _ HB1.out).mono ?_); rintro e w2 ⟨rfl, hb⟩; have HB2' := hid (HB1.out.trans (hb.mono HB1.out.size)); clear hb)
            | (go_at_call 18; (with_reducible refine (HRT1.out _ HB2'.out).mono ?_); rintro e w3 ⟨rfl, hb⟩; have HB3 := hid (HB2'.out.trans (hb.mono HB2'.out.size)); clear hb)
            | (go_at_call 18; (with_reducible refine (HRT2.out _ HB3.out).mono ?_); rintro e w4 ⟨rfl, hb⟩; have HB4 := hid (HB3.out.trans (hb.mono HB3.out.size)); clear hb)
            | (go_at_call 24; (with_reducible refine (HDF.out _ HB4.out).mono ?_); rintro e w5 ⟨rfl, hb⟩; have HB5 := hid (HB4.out.trans (hb.mono HB4.out.size)); clear hb))
          go_ret
          exact ⟨rfl, HB5.out⟩
      · have heq : ∀ W, (Op.equalIn 10000 28 (.agg (r.map u8).toArray) (.agg (s.map u8).toArray)).run Tryd.prog W = .ok false W := fun W => by rw [eqIn_dig r s hr16 hs16 W, decide_eq_false hrs]
        have hdd : decide (ds = es) = false := decide_eq_false (HNE.out hrs)
        rw [hdd] at HSM
        clear hrs hdd
        go_enter Tryd.func7, Tryd.ntmps7
        go_wp2_with (first
          | (go_at_call 15; (with_reducible refine (HSA.out).mono ?_); rintro e w1 ⟨rfl, hb⟩; have HB1 := hid hb; clear hb)
          | (go_at_call 20; (with_reducible refine (HSM.out _ HB1.out).mono ?_); rintro e w2 ⟨rfl, hb⟩; have HB2' := hid (HB1.out.trans (hb.mono HB1.out.size)); clear hb)
          | (go_at_call 18; (with_reducible refine (HRT1.out _ HB2'.out).mono ?_); rintro e w3 ⟨rfl, hb⟩; have HB3 := hid (HB2'.out.trans (hb.mono HB2'.out.size)); clear hb)
          | (go_at_call 18; (with_reducible refine (HRT2.out _ HB3.out).mono ?_); rintro e w4 ⟨rfl, hb⟩; have HB4 := hid (HB3.out.trans (hb.mono HB3.out.size)); clear hb))
        go_ret
        exact ⟨rfl, HB4.out⟩
    · have b2 : ¬ ((ds.length : Int) = (es.length : Int)) := by omega
      have d2 : ((ds.length : Int) == (es.length : Int)) = false := beq_eq_false_iff_ne.2 b2
      have d3 : ((ds.length : Int) != (es.length : Int)) = true := by simp only [bne, d2]; rfl
      have b3 : ¬ (ds.length = es.length) := hlen
      go_enter Tryd.func7, Tryd.ntmps7
      go_wp2_with ((with_reducible refine (HSA.out).mono ?_); rintro e w1 ⟨rfl, hb⟩; have HB := hid hb; clear hb)
      go_ret
      exact ⟨rfl, HB.out⟩
end Go.Proofs.YtbjfkliijhnloaaDoor
