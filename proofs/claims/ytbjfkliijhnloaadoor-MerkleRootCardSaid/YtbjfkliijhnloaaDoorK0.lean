/- MerkleRoot walked: it answers true. -/
import Derived.Test.YtbjfkliijhnloaaDoorR6
import Derived.Test.YtbjfkliijhnloaaDoorE3
namespace Go.Proofs.YtbjfkliijhnloaaDoor
open Go.RowKit
set_option linter.unusedVariables false

theorem dig_of_own {base : Nat} {w : World} {a : Option Addr} {n c : Nat} {q : List (List UInt8)} (h : OwnD base w (.slice a n c) q) (h16 : All16 q) : DigB w.heap.size w a q := by
  obtain ⟨a', c', e', -, -, hd⟩ := h.digB h16
  simp only [Value.slice.injEq] at e'
  obtain ⟨rfl, -, -⟩ := e'
  exact hd

set_option maxRecDepth 100000 in
set_option maxHeartbeats 4000000 in
theorem lroot_any (ds : List (List UInt8)) (h16 : All16 ds) (a : Option Addr) (n c : Nat) (i : Int) (hi : -9223372036854775808 ≤ i ∧ i ≤ 9223372036854775807) (w : World) (hT : Tab w) (hn : n = ds.length) (hc : n ≤ c) (hds : DigB w.heap.size w a ds) :
    Calls Tryd.prog 3 #[.slice a n c, .int .i64 i] w fun e w' => e = .returned (.bool true) ∧ Below w.heap.size w w' := by
  subst hn
  have HT := hid hT
  have HDS := hid hds
  have H16 := hid h16
  have HSA := hid (sanity_any w hT)
  clear hT hds h16
  by_cases h40 : ds.length > 40
  · have b1 : (ds.length : Int) > 40 := by omega
    go_enter Tryd.func3, Tryd.ntmps3
    go_wp2_with ((with_reducible refine (HSA.out).mono ?_); rintro e w1 ⟨rfl, hb⟩; have HB := hid hb; clear hb)
    go_ret
    exact ⟨rfl, HB.out⟩
  · have b1 : ¬ ((ds.length : Int) > 40) := by omega
    obtain ⟨r, hr⟩ : ∃ r, rootF ds = r := ⟨_, rfl⟩
    have hr16 : r.length = 16 := by rw [← hr]; exact rootF_length _
    have HR1 := hid (fun (W : World) (hb : Below w.heap.size w W) => (show Calls Tryd.prog 18 #[.slice a ds.length c] W fun e w' => e = .returned (dv r) ∧ Below W.heap.size W w' by
      rw [← hr]; exact root_any (ds.length + 1) ds a ds.length c W (Nat.lt_succ_self _) H16.out (HT.out.keep hb) rfl hc (by omega) ((HDS.out.keep hb).mono hb.size)))
    have HR2 := hid (fun (W : World) (hb : Below w.heap.size w W) => (show Calls Tryd.prog 19 #[.slice a ds.length c] W fun e w' => e = .returned (dv r) ∧ Below W.heap.size W w' by
      rw [← hr]; exact root1_any (ds.length + 1) ds a ds.length c W (Nat.lt_succ_self _) H16.out (HT.out.keep hb) rfl hc (by omega) ((HDS.out.keep hb).mono hb.size)))
    have heq : ∀ W, (Op.equalIn 10000 28 (.agg (r.map u8).toArray) (.agg (r.map u8).toArray)).run Tryd.prog W = .ok true W := fun W => by rw [eqIn_dig r r hr16 hr16 W, decide_eq_true rfl]
    clear hr
    by_cases hin : 0 ≤ i ∧ i < (ds.length : Int)
    · obtain ⟨k, rfl⟩ : ∃ k : Nat, i = k := ⟨i.toNat, by omega⟩
      have hk : k < ds.length := by omega
      obtain ⟨q, hq⟩ : ∃ q, proveF ds k = q := ⟨_, rfl⟩
      have HQ16 := hid (show All16 q by rw [← hq]; exact (proveF_all16 (ds.length + 1) ds k (Nat.lt_succ_self _)).1)
      have HQL := hid (show q.length ≤ ds.length by rw [← hq]; exact (proveF_all16 (ds.length + 1) ds k (Nat.lt_succ_self _)).2)
      have HP1 := hid (fun (W : World) (hb : Below w.heap.size w W) => prove_ok ds a ds.length c k W H16.out (HT.out.keep hb) rfl hc (by omega) hk ((HDS.out.keep hb).mono hb.size))
      have HP2 := hid (fun (W : World) (hb : Below w.heap.size w W) => prove1_any (ds.length + 1) ds a ds.length c k W (Nat.lt_succ_self _) H16.out (HT.out.keep hb) rfl (by omega) hc (by omega) hk ((HDS.out.keep hb).mono hb.size))
      rw [hq] at HP1 HP2
      clear hq hin
      go_enter Tryd.func3, Tryd.ntmps3
      go_wp2_with (first
        | (go_at_call 15; (with_reducible refine (HSA.out).mono ?_); rintro e w1 ⟨rfl, hb⟩; have HB1 := hid hb; clear hb)
        | (go_at_call 16; (with_reducible refine (HP1.out _ HB1.out).mono ?_); rintro e w2 ⟨⟨pa, pc, rfl, hop⟩, hb2⟩; have HOP := hid hop; have HB2 := hid (HB1.out.trans (hb2.mono HB1.out.size)); clear hop hb2)
        | (go_at_call 17; (with_reducible refine (HP2.out _ HB2.out).mono ?_); rintro e w3 ⟨⟨pa', pc', rfl, hop⟩, hb3⟩; have HOP' := hid hop; have HOP2 := hid (HOP.out.keep hb3); have HB3 := hid (HB2.out.trans (hb3.mono HB2.out.size)); clear hop hb3)
        | (go_at_call 18; (with_reducible refine (HR1.out _ HB3.out).mono ?_); rintro e w4 ⟨rfl, hb4⟩; have HOP3 := hid (HOP2.out.keep hb4); have HOP3' := hid (HOP'.out.keep hb4); have HB4 := hid (HB3.out.trans (hb4.mono HB3.out.size)); clear hb4)
        | (go_at_call 19; (with_reducible refine (HR2.out _ HB4.out).mono ?_); rintro e w5 ⟨rfl, hb5⟩; have HD1 := hid (dig_of_own (HOP3.out.keep hb5) HQ16.out); have HD1' := hid (dig_of_own (HOP3'.out.keep hb5) HQ16.out); have HB5 := hid (HB4.out.trans (hb5.mono HB4.out.size)); clear hb5)
        | (go_at_call 20; (with_reducible refine (same_any q q HQ16.out HQ16.out pa pa' q.length pc q.length pc' rfl rfl (by have := HQL.out; omega) w5 HD1.out HD1'.out).mono ?_); rintro e w6 ⟨rfl, hb6⟩; have HB6 := hid (HB5.out.trans (hb6.mono HB5.out.size)); clear hb6))
      go_ret
      exact ⟨ret_bool (by simp), HB6.out⟩
    · have hbad : i < 0 ∨ (ds.length : Int) ≤ i := by omega
      have HP1 := hid (fun (W : World) => prove_bad a ds.length c i W hbad)
      have HP2 := hid (fun (W : World) => prove1_bad a ds.length c i W hbad)
      have HS0 := hid (fun (W : World) => (show Calls Tryd.prog 20 #[.slice none 0 0, .slice none 0 0] W fun e w' => e = .returned (.bool true) ∧ Below W.heap.size W w' from same_any [] [] (fun d h => by cases h) (fun d h => by cases h) none none 0 0 0 0 rfl rfl (by omega) W (fun i h => by cases h) (fun i h => by cases h)))
      clear hin hbad
      go_enter Tryd.func3, Tryd.ntmps3
      go_wp2_with (first
        | (go_at_call 15; (with_reducible refine (HSA.out).mono ?_); rintro e w1 ⟨rfl, hb⟩; have HB1 := hid hb; clear hb)
        | (go_at_call 16; (with_reducible refine (HP1.out _).mono ?_); rintro e w2 ⟨rfl, rfl⟩)
        | (go_at_call 17; (with_reducible refine (HP2.out _).mono ?_); rintro e w3 ⟨rfl, rfl⟩)
        | (go_at_call 18; (with_reducible refine (HR1.out _ HB1.out).mono ?_); rintro e w4 ⟨rfl, hb4⟩; have HB4 := hid (HB1.out.trans (hb4.mono HB1.out.size)); clear hb4)
        | (go_at_call 19; (with_reducible refine (HR2.out _ HB4.out).mono ?_); rintro e w5 ⟨rfl, hb5⟩; have HB5 := hid (HB4.out.trans (hb5.mono HB4.out.size)); clear hb5)
        | (go_at_call 20; (with_reducible refine (HS0.out w5).mono ?_); rintro e w6 ⟨rfl, hb6⟩; have HB6 := hid (HB5.out.trans (hb6.mono HB5.out.size)); clear hb6))
      go_ret
      exact ⟨ret_bool (by simp), HB6.out⟩
end Go.Proofs.YtbjfkliijhnloaaDoor
