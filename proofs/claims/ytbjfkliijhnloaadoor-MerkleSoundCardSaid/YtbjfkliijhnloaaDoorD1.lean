/- merkle's leafDigest, join and split walked. -/
import Derived.Test.YtbjfkliijhnloaaDoorD0
namespace Go.Proofs.YtbjfkliijhnloaaDoor
open Go.RowKit
set_option linter.unusedVariables false

def leafD (d : List UInt8) : List UInt8 := digest 1 [d]
def nodeD (l r : List UInt8) : List UInt8 := digest 2 [l, r]
theorem leafD_length (d : List UInt8) : (leafD d).length = 16 := digest_length _ _
theorem nodeD_length (l r : List UInt8) : (nodeD l r).length = 16 := digest_length _ _
theorem bytes_of_range {w : World} {b o : Nat} {bs : List UInt8} (h : w.rangeAt b o (bs.map u8)) (hb : b < w.heap.size) : BytesAt w (some ⟨b, o, none⟩) bs := fun i hi => by
  have hv : (bs.map u8)[i]? = some (u8 (bs.getD i 0)) := by simp [hi, List.getD]
  exact ⟨b, o, rfl, hb, h i _ hv⟩
/-- One row of slices that was just made. -/
theorem parts_new {W w : World} {n₀ : Nat} (cs : Array Value) (t : TypeId) (ps : List (List UInt8)) (hn : W.heap.size < n₀) (hb : Below n₀ (W.alloc (.cells cs t)) w) (hcs : cs.size = ps.length)
    (h : ∀ i (hi : i < ps.length), ∃ p c, cs[i]? = some (.slice p ps[i].length c) ∧ BytesB n₀ (W.alloc (.cells cs t)) p ps[i]) : PartsB n₀ w (some ⟨W.heap.size, 0, none⟩) ps := by
  intro i hi
  obtain ⟨p, c, hc, hx⟩ := h i hi
  refine ⟨W.heap.size, 0, p, c, rfl, hn, Nat.lt_of_lt_of_le (by simp) hb.size, ?_, hx.keep hb⟩
  rw [hb.cell (p := ⟨W.heap.size, 0 + i, none⟩) hn, Nat.zero_add]
  exact lit1 rfl hc

theorem bytesB_of_range {w : World} {n₀ b o : Nat} {bs : List UInt8} (h : w.rangeAt b o (bs.map u8)) (hb : b < w.heap.size) (hn : b < n₀) : BytesB n₀ w (some ⟨b, o, none⟩) bs :=
  ⟨bytes_of_range h hb, fun b' off e _ => by cases e; exact hn⟩
theorem dig_range (w : World) (d : List UInt8) (t : TypeId) : (w.alloc (.cells (d.map u8).toArray t)).rangeAt w.heap.size 0 (d.map u8) := by simpa using alloc_range w (d.map u8).toArray t
theorem leaf_parts (w : World) (d : List UInt8) (hd : d.length = 16) (t t' t'' : TypeId) (Z : Array Value) :
    PartsB (((w.alloc (.cells (d.map u8).toArray t)).alloc (.cells Z t')).alloc (.cells #[.slice (some ⟨w.heap.size, 0, none⟩) 16 16] t'')).heap.size (((w.alloc (.cells (d.map u8).toArray t)).alloc (.cells Z t')).alloc (.cells #[.slice (some ⟨w.heap.size, 0, none⟩) 16 16] t'')) (some ⟨w.heap.size + 1 + 1, 0, none⟩) [d] := by
  have h := parts_new (W := (w.alloc (.cells (d.map u8).toArray t)).alloc (.cells Z t')) (n₀ := w.heap.size + 1 + 1 + 1) #[.slice (some ⟨w.heap.size, 0, none⟩) 16 16] t'' [d] (by simp) (Below.refl _ _) rfl (fun i hi => by
    have hi : i < 1 := hi
    obtain rfl : i = 0 := by omega
    refine ⟨some ⟨w.heap.size, 0, none⟩, 16, by simp [hd], ?_⟩
    refine bytesB_of_range ?_ (by simp; omega) (by omega)
    exact range_keep (range_keep (dig_range w d t) (below_alloc _ _) (by simp)) (below_alloc _ _) (by first | (simp; done) | (simp; omega)))
  simpa using h
theorem digest_1 (a : Option Addr) (n c : Nat) (ps : List (List UInt8)) (w : World) (hT : Tab w) (hn : n = ps.length) (hps : PartsB w.heap.size w a ps) (hM : ∀ p ∈ ps, p.length ≤ 1000000000) (hk : ps.length ≤ 100) :
    Calls Tryd.prog 38 #[.int .i64 1, .slice a n c] w fun e w' => e = .returned (dv (digest 1 ps)) ∧ Below w.heap.size w w' := digest_any 1 (by omega) a n c ps w hT hn hps hM hk
theorem digest_2 (a : Option Addr) (n c : Nat) (ps : List (List UInt8)) (w : World) (hT : Tab w) (hn : n = ps.length) (hps : PartsB w.heap.size w a ps) (hM : ∀ p ∈ ps, p.length ≤ 1000000000) (hk : ps.length ≤ 100) :
    Calls Tryd.prog 38 #[.int .i64 2, .slice a n c] w fun e w' => e = .returned (dv (digest 2 ps)) ∧ Below w.heap.size w w' := digest_any 2 (by omega) a n c ps w hT hn hps hM hk
theorem below_alloc3 (w : World) (o o' o'' : Obj) : Below w.heap.size w (((w.alloc o).alloc o').alloc o'') := ((below_alloc w o).alloc (by simp) _).alloc (by simp; omega) _

theorem there_mid (w : World) (Z : Array Value) (h : Z.size = 16) (o o'' : Obj) (t : TypeId) : (((w.alloc o).alloc (.cells Z t)).alloc o'').there (w.heap.size + 1) 0 16 := by
  have := there_keep (n := w.heap.size + 1 + 1) (alloc_there (w.alloc o) Z t 16 h) ((below_alloc ((w.alloc o).alloc (.cells Z t)) o'').mono (by simp)) (by simp)
  rwa [World.size_alloc] at this

set_option maxRecDepth 100000 in
set_option maxHeartbeats 1000000 in
theorem leaf_any (d : List UInt8) (hd : d.length = 16) (w : World) (hT : Tab w) :
    Calls Tryd.prog 43 #[.agg (d.map u8).toArray] w fun e w' => e = .returned (dv (leafD d)) ∧ Below w.heap.size w w' := by
  have HT := hid hT
  have HD := hid hd
  clear hT
  have hs : (List.map u8 d).toArray.size = 16 := by simp [hd]
  obtain ⟨L, hL⟩ : ∃ L, leafD d = L := ⟨_, rfl⟩
  have HL := hid (show L.length = 16 by rw [← hL]; exact leafD_length d)
  have HLE := hid (show digest 1 [d] = L from hL)
  have HI2 := hid (info16a L HL.out)
  have HA := hid (all_u8 L)
  rw [hL]
  clear hL
  have HC := hid (fun (Z : Array Value) t t' t'' => digest_1 (some ⟨w.heap.size + 1 + 1, 0, none⟩) 1 1 [d] (((w.alloc (.cells (d.map u8).toArray t)).alloc (.cells Z t')).alloc (.cells #[.slice (some ⟨w.heap.size, 0, none⟩) 16 16] t'')) (HT.out.keep (below_alloc3 _ _ _ _)) rfl (leaf_parts w d hd t t' t'' Z) (by simp [hd]) (by simp))
  have HTH := hid (there_mid w)
  go_enter Tryd.func43, Tryd.ntmps43
  go_wp2_with (first
    | (go_at_call 38; (with_reducible refine (HC.out _ _ _ _).mono ?_); rw [HLE.out]; rintro e w3 ⟨rfl, hb3⟩; have HB3 := hid ((below_alloc3 _ _ _ _).trans (hb3.mono (below_alloc3 _ _ _ _).size)); have HTH3 := hid (there_keep (HTH.out _ rfl _ _ _) hb3 (by first | (simp; done) | (simp; omega))); clear hb3)
    | (refine wpList_store_mid rfl _ _ _ rfl (w.heap.size + 1) 0 _ rfl rfl (there16 HTH3.out _ HL.out) HI2.out HA.out ?_))
  refine bodyPost_ret (ret_dig rfl _ _ (w.heap.size + 1) _ HL.out rfl HTH3.out) rfl ⟨rfl, ?_⟩
  exact below_setCells (by omega) _ _ _ HB3.out

theorem below_alloc4d (w : World) (o o' o'' o3 : Obj) : Below w.heap.size w ((((w.alloc o).alloc o').alloc o'').alloc o3).drew := ((((below_alloc w o).alloc (by simp) _).alloc (by simp; omega) _).alloc (by simp; omega) _).drew
theorem node_parts (w : World) (l r : List UInt8) (hl : l.length = 16) (hr : r.length = 16) (t t1 t' t'' : TypeId) (Z : Array Value) :
    PartsB ((((w.alloc (.cells (l.map u8).toArray t)).alloc (.cells (r.map u8).toArray t1)).alloc (.cells Z t')).alloc (.cells #[.slice (some ⟨w.heap.size, 0, none⟩) 16 16, .slice (some ⟨w.heap.size + 1, 0, none⟩) 16 16] t'')).drew.heap.size
      ((((w.alloc (.cells (l.map u8).toArray t)).alloc (.cells (r.map u8).toArray t1)).alloc (.cells Z t')).alloc (.cells #[.slice (some ⟨w.heap.size, 0, none⟩) 16 16, .slice (some ⟨w.heap.size + 1, 0, none⟩) 16 16] t'')).drew (some ⟨w.heap.size + 1 + 1 + 1, 0, none⟩) [l, r] := by
  have h := parts_new (W := ((w.alloc (.cells (l.map u8).toArray t)).alloc (.cells (r.map u8).toArray t1)).alloc (.cells Z t')) (n₀ := w.heap.size + 1 + 1 + 1 + 1) #[.slice (some ⟨w.heap.size, 0, none⟩) 16 16, .slice (some ⟨w.heap.size + 1, 0, none⟩) 16 16] t'' [l, r] (by simp) ((Below.refl _ _).drew) rfl (fun i hi => by
    have hi : i < 2 := hi
    rcases (show i = 0 ∨ i = 1 by omega) with rfl | rfl
    · refine ⟨some ⟨w.heap.size, 0, none⟩, 16, by simp [hl], ?_⟩
      refine bytesB_of_range ?_ (by first | (simp; done) | (simp; omega)) (by omega)
      exact range_keep (range_keep (range_keep (dig_range w l t) (below_alloc _ _) (by simp)) (below_alloc _ _) (by first | (simp; done) | (simp; omega))) (below_alloc _ _) (by first | (simp; done) | (simp; omega))
    · refine ⟨some ⟨w.heap.size + 1, 0, none⟩, 16, by simp [hr], ?_⟩
      refine bytesB_of_range ?_ (by first | (simp; done) | (simp; omega)) (by omega)
      have hd := dig_range (w.alloc (.cells (l.map u8).toArray t)) r t1
      rw [World.size_alloc] at hd
      exact range_keep (range_keep hd (below_alloc _ _) (by simp)) (below_alloc _ _) (by first | (simp; done) | (simp; omega)))
  simpa using h
theorem there_mid2 (w : World) (Z : Array Value) (h : Z.size = 16) (o o' o'' : Obj) (t : TypeId) : ((((w.alloc o).alloc o').alloc (.cells Z t)).alloc o'').drew.there (w.heap.size + 1 + 1) 0 16 := by
  have := there_mid (w.alloc o) Z h o' o'' t
  rw [World.size_alloc] at this
  exact this
theorem one_u8 (bs : List UInt8) : ∀ v ∈ bs.map u8, v.oneCell' = true := fun v hv => by obtain ⟨y, _, rfl⟩ := List.mem_map.1 hv; rfl

set_option maxRecDepth 100000 in
set_option maxHeartbeats 1000000 in
theorem node_any (l r : List UInt8) (hl : l.length = 16) (hr : r.length = 16) (w : World) (hT : Tab w) :
    Calls Tryd.prog 44 #[.agg (l.map u8).toArray, .agg (r.map u8).toArray] w fun e w' => e = .returned (dv (nodeD l r)) ∧ Below w.heap.size w w' := by
  have HT := hid hT
  clear hT
  have hs1 : (List.map u8 l).toArray.size = 16 := by simp [hl]
  have hs2 : (List.map u8 r).toArray.size = 16 := by simp [hr]
  obtain ⟨L, hL⟩ : ∃ L, nodeD l r = L := ⟨_, rfl⟩
  have HL := hid (show L.length = 16 by rw [← hL]; exact nodeD_length l r)
  have HLE := hid (show digest 2 [l, r] = L from hL)
  have HI2 := hid (info16a L HL.out)
  have HA := hid (all_u8 L)
  rw [hL]
  clear hL
  have HC := hid (fun (Z : Array Value) t t1 t' t'' => digest_2 (some ⟨w.heap.size + 1 + 1 + 1, 0, none⟩) 2 2 [l, r] ((((w.alloc (.cells (l.map u8).toArray t)).alloc (.cells (r.map u8).toArray t1)).alloc (.cells Z t')).alloc (.cells #[.slice (some ⟨w.heap.size, 0, none⟩) 16 16, .slice (some ⟨w.heap.size + 1, 0, none⟩) 16 16] t'')).drew (HT.out.keep (below_alloc4d _ _ _ _ _)) rfl (node_parts w l r hl hr t t1 t' t'' Z) (by simp [hl, hr]) (by simp))
  have HTH := hid (there_mid2 w)
  have hone := one_u8 L
  have hinf := HI2.out
  go_enter Tryd.func44, Tryd.ntmps44
  go_wp2_with fail
  go_region_held3 (fun W => True) (trivial) (first
    | (go_at_call 38; (with_reducible refine (HC.out _ _ _ _ _).mono ?_); rw [HLE.out]; rintro e w3 ⟨rfl, hb3⟩; have HB3 := hid ((below_alloc4d _ _ _ _ _).trans (hb3.mono (below_alloc4d _ _ _ _ _).size)); have HTH3 := hid (there_keep (HTH.out _ rfl _ _ _ _) hb3 (by first | (simp; done) | (simp; omega))); have hth := there16 HTH3.out L HL.out; clear hb3))
  go_wp2_with fail
  refine bodyPost_ret (ret_dig rfl _ _ (w.heap.size + 1 + 1) _ HL.out rfl HTH3.out) rfl ⟨rfl, ?_⟩
  exact below_setCells (by omega) _ _ _ HB3.out
end Go.Proofs.YtbjfkliijhnloaaDoor
