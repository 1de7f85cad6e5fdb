/- wire.Bytes, sha.store. -/
import Derived.Test.YtbjfkliijhnloaaDoorB1
namespace Go.Proofs.YtbjfkliijhnloaaDoor
open Go.RowKit
set_option linter.unusedVariables false

def encBytes (bs : List UInt8) : List UInt8 := encInt bs.length ++ bs
theorem encBytes_def (bs : List UInt8) : encBytes bs = encInt bs.length ++ bs := rfl
theorem encInt_length (n : Int) : (encInt n).length ≤ 10 := vintF_length 9 _

set_option maxRecDepth 100000 in
set_option maxHeartbeats 1000000 in
theorem bytes_any (s : ByteArray) (w : World) (hs : s.size ≤ 10000000000000) :
    Calls Tryd.prog 58 #[.string s] w fun e w' => (∃ v, e = .returned v ∧ Own w.heap.size w' v (encBytes s.data.toList)) ∧ Below w.heap.size w w' := by
  have hlen : s.data.toList.length = s.size := Array.length_toList
  have he := encBytes_def s.data.toList
  rw [hlen] at he
  have HI := hid (int_any (s.size : Int) w (by omega))
  have HL := hid (encInt_length (s.size : Int)); have HE := hid he
  clear he hlen
  go_enter Tryd.func58, Tryd.ntmps58
  go_wp2_with (first | ((with_reducible refine (HI.out).mono ?_); rintro e w' ⟨⟨v, rfl, hv⟩, hb⟩; have HV := hid hv; have HB := hid hb; clear hv hb) | (at_builtin; refine wp_app_str rfl _ _ rfl w.heap.size _ _ rfl HV.out _ rfl (by have := HL.out; omega) HB.out.size (fun v2 w2 hv2 hb2 => ?_); have HV2 := hid hv2; have HB2 := hid hb2; clear hv2 hb2))
  go_ret
  refine ⟨⟨_, rfl, ?_⟩, HB.out.trans HB2.out⟩
  rw [HE.out]; exact HV2.out

/-- The first bytes of n's m bytes. -/
def beTop (n m j : Nat) : List UInt8 := (List.range j).map fun k => UInt8.ofNat (n / 2 ^ (8 * (m - 1 - k)) % 256)
theorem beTop_succ (n m k : Nat) : beTop n m (k + 1) = beTop n m k ++ [UInt8.ofNat (n / 2 ^ (8 * (m - 1 - k)) % 256)] := by unfold beTop; rw [List.range_succ, List.map_append]; rfl
theorem beTop_length (n m k : Nat) : (beTop n m k).length = k := by simp [beTop]

set_option maxRecDepth 100000 in
set_option maxHeartbeats 1000000 in
theorem store_any (base : Nat) (v : Value) (bs : List UInt8) (n : Nat) (m : Nat) (w : World) (hown : Own base w v bs) (hbase : base ≤ w.heap.size) (hn : n < 18446744073709551616) (hm : m ≤ 8) (hl : bs.length ≤ 10000000000000) :
    Calls Tryd.prog 68 #[v, .int .u64 n, .int .i64 m] w fun e w' => (∃ v', e = .returned v' ∧ Own base w' v' (bs ++ beTop n m m)) ∧ Below base w w' := by
  have HO := hid hown; have HBS := hid hbase
  clear hown hbase
  go_enter Tryd.func68, Tryd.ntmps68
  go_wp2_with fail
  go_loopw [0, 7] (fun o i wr => ∃ k : Nat, k ≤ m ∧ i = .int .i64 ((m : Int) - 1 - k) ∧ Own base wr o (bs ++ beTop n m k) ∧ Below base w wr) (fun _ i _ => (intOf i + 1).toNat)
  case atStart => exact ⟨0, Nat.zero_le _, by go_num, by simpa [beTop] using HO.out, Below.refl _ _⟩
  case round =>
    obtain ⟨k, hk, rfl, hown, hbel⟩ := hrel
    have HOW := hid hown; have HBE := hid hbel; have HS0 := hid (Nat.le_trans HBS.out hbel.size)
    clear hown hbel
    by_cases hlt : k < m
    · have d1 : decide ((m : Int) - 1 - k ≥ 0) = true := by simp; omega
      have HN := hid (beTop_succ n m k); have HBL := hid (beTop_length n m k)
      have HV8 := hid (show Value.int .u8 ((n : Int) / 2 ^ (8 * (m - 1 - k)) % 256) = u8 (UInt8.ofNat (n / 2 ^ (8 * (m - 1 - k)) % 256)) by
        unfold u8; rw [n8_of _ (by omega)]; rw [Int.natCast_emod, Int.natCast_ediv, Int.natCast_pow]; rfl)
      have HL1 := hid (show (bs ++ beTop n m k).length + [UInt8.ofNat (n / 2 ^ (8 * (m - 1 - k)) % 256)].length ≤ 100000000000000 by simp [beTop_length]; omega)
      go_wp2_with (at_builtin; refine wp_app rfl _ _ rfl base _ _ [UInt8.ofNat (n / 2 ^ (8 * (m - 1 - k)) % 256)] rfl (HOW.out.alloc _) (some ⟨wr.heap.size, 0, none⟩) 1 1 rfl rfl (fun h => by cases h) (bytes_one' wr _ _ _ HV8.out) HL1.out (alloc_le HS0.out _) (fun v2 w2 hv2 hb2 => ?_); have HV := hid hv2; have HB := hid hb2; clear hv2 hb2)
      go_roundw
      case rel => exact ⟨k + 1, hlt, by go_num, by rw [HN.out, ← List.append_assoc]; exact HV.out, HBE.out.trans (((below_alloc wr _).mono HS0.out).trans HB.out)⟩
      case measure => simp [intOf]; omega
    · obtain rfl : k = m := by omega
      have d1 : decide ((k : Int) - 1 - k ≥ 0) = false := by simp; omega
      go_wp2_with fail
      go_ret
      exact ⟨⟨_, rfl, HOW.out⟩, HBE.out⟩
end Go.Proofs.YtbjfkliijhnloaaDoor
