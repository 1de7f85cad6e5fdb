/- The reference's integers and byte strings: bootchainref01's zigzag, Int and Bytes. -/
import Derived.Laws.IdiomStrings
import Derived.Test.YtbjfkliijhnloaaDoorB2
namespace Go.Proofs.YtbjfkliijhnloaaDoor
open Go.RowKit
set_option linter.unusedVariables false

theorem val_u8 (n : Nat) (h : n < 256) : Value.int .u8 (n : Int) = u8 (UInt8.ofNat n) := by unfold u8; rw [n8_of n h]
theorem val_u8c (x : Nat) : Value.int .u8 (128 + (x : Int) % 128) = u8 (UInt8.ofNat (x % 128 + 128)) := by
  unfold u8; rw [n8_of _ (by omega)]; congr 1; omega

set_option maxRecDepth 100000 in
theorem zig1_any (n : Int) (w : World) (hn : -9223372036854775808 ≤ n ∧ n ≤ 9223372036854775807) :
    Calls Tryd.prog 65 #[.int .i64 n] w fun e w' => e = .returned (.int .u64 (zz n)) ∧ w = w' := by
  obtain ⟨h0, h1⟩ := hn
  by_cases hneg : n < 0
  · have hs : IntKind.u64.wrap (IntKind.u64.wrap (2 * IntKind.u64.wrap (-(n + 1))) + 1) = (zz n : Int) := by
      rw [zz, if_pos hneg]; simp [IntKind.wrap, IntKind.bits, IntKind.signed]; omega
    have hz : (2 * (-(n + 1)) + 1) = (zz n : Int) := by rw [zz, if_pos hneg]; omega
    have HZ := hid hz
    clear hz hs
    have b1 : ¬ (0 ≤ n) := by omega
    go_enter Tryd.func65, Tryd.ntmps65
    go_wp2_with fail
    go_ret
    exact ⟨ret_int HZ.out, rfl⟩
  · have hz : 2 * n = (zz n : Int) := by rw [zz, if_neg hneg]; omega
    have HZ := hid hz
    clear hz
    have b1 : 0 ≤ n := by omega
    go_enter Tryd.func65, Tryd.ntmps65
    go_wp2_with fail
    go_ret
    exact ⟨ret_int HZ.out, rfl⟩

set_option maxRecDepth 100000 in
set_option maxHeartbeats 1000000 in
theorem int1_any (n : Int) (w : World) (hn : -9223372036854775808 ≤ n ∧ n ≤ 9223372036854775807) :
    Calls Tryd.prog 50 #[.int .i64 n] w fun e w' => (∃ v, e = .returned v ∧ Own w.heap.size w' v (encInt n)) ∧ Below w.heap.size w w' := by
  have hz := zz_lt n hn
  have he := encInt_def n
  have HZG := hid (zig1_any n · hn)
  obtain ⟨z, hzz⟩ : ∃ z, z = zz n := ⟨_, rfl⟩
  rw [← hzz] at hz he HZG
  have hL : Left z [] z := ⟨9, rfl, by omega, by simp⟩
  have HL := hid hL; have HE := hid he; have HZ := hid hz
  clear hL he hzz hz hn
  go_enter Tryd.func50, Tryd.ntmps50
  go_wp2_with ((with_reducible refine (HZG.out _).mono ?_); rintro e w2 ⟨rfl, rfl⟩)
  go_loopw [3, 4] (fun u o wr => ∃ (x : Nat) (out : List UInt8), u = .int .u64 x ∧ Left z out x ∧ x < 18446744073709551616 ∧ Own w.heap.size wr o out ∧ Below w.heap.size w wr) (fun u _ _ => (intOf u).toNat)
  case atStart => exact ⟨z, [], rfl, HL.out, HZ.out, Own.nil _ _, Below.refl _ _⟩
  case round =>
    obtain ⟨x, out, rfl, hleft, hx, hown, hbel⟩ := hrel
    have hlen := hleft.len
    have HLF := hid hleft; have HOW := hid hown; have HBE := hid hbel; have HS0 := hid hbel.size
    clear hleft hown hbel
    by_cases hlt : x < 128
    · have d2 : ¬ ((x : Int) ≥ 128) := by omega
      have HV8 := hid (val_u8 x (by omega))
      have HL1 := hid (show out.length + [UInt8.ofNat x].length ≤ 100000000000000 by simp; omega)
      go_wp2_with (at_builtin; refine wp_app rfl _ _ rfl w.heap.size _ out [UInt8.ofNat x] rfl (HOW.out.alloc _) (some ⟨wr.heap.size, 0, none⟩) 1 1 rfl rfl (fun h => by cases h) (bytes_one' wr _ _ _ HV8.out) HL1.out (alloc_le HS0.out _) (fun v2 w2 hv2 hb2 => ?_); have HV := hid hv2; have HB := hid hb2; clear hv2 hb2)
      go_ret
      refine ⟨⟨_, rfl, ?_⟩, ?_⟩
      · rw [HE.out, ← HLF.out.last hlt]; exact HV.out
      · exact below_app HBE.out HB.out
    · have d2 : (x : Int) ≥ 128 := by omega
      have HV8 := hid (val_u8c x)
      have HL1 := hid (show out.length + [UInt8.ofNat (x % 128 + 128)].length ≤ 100000000000000 by simp; omega)
      go_wp2_with (at_builtin; refine wp_app rfl _ _ rfl w.heap.size _ out [UInt8.ofNat (x % 128 + 128)] rfl (HOW.out.alloc _) (some ⟨wr.heap.size, 0, none⟩) 1 1 rfl rfl (fun h => by cases h) (bytes_one' wr _ _ _ HV8.out) HL1.out (alloc_le HS0.out _) (fun v2 w2 hv2 hb2 => ?_); have HV := hid hv2; have HB := hid hb2; clear hv2 hb2)
      go_roundw
      case rel => exact ⟨x / 128, _, by go_num, HLF.out.next (by omega), by omega, HV.out, below_app HBE.out HB.out⟩
      case measure => simp [intOf]; omega

theorem conv_str (s : ByteArray) (W : World) : ∃ cap W', (convert 9 58 (.string s)).run Tryd.prog W = .ok (.slice (some ⟨W.heap.size, 0, none⟩) s.size cap) W' ∧ Below W.heap.size W W' ∧ BytesAt W' (some ⟨W.heap.size, 0, none⟩) s.data.toList := by
  have h1 : Tryd.prog.underlying 58 = some (.slice 5) := by kernel_rfl
  have h2 : Tryd.prog.underlying 5 = some (.int .u8) := by kernel_rfl
  have h3 : Tryd.prog.underlying 9 = some .string := by kernel_rfl
  refine ⟨_, _, run_bytes_of_string W _ _ _ s h3 h1 h2, ((Below.refl _ _).drew).alloc (by simp) _, fun i hi => ⟨W.heap.size, 0, rfl, by simp, ?_⟩⟩
  have := World.cell?_alloc_mark W.drew (bytesRow s (grownCap W s.size 0 5)) 5 ((bytesRow s (grownCap W s.size 0 5)).size, (bytesRow s (grownCap W s.size 0 5)).size + 1) (0 + i)
  rw [show W.drew.heap.size = W.heap.size by simp] at this
  rw [this, Nat.zero_add, bytesRow_at _ _ _ (by simpa using hi)]
  have hi' : i < s.data.size := by simpa using hi
  simp [u8, n8, List.getD, Array.getElem?_eq_getElem hi']

set_option maxRecDepth 100000 in
set_option maxHeartbeats 1000000 in
theorem bytes1_any (s : ByteArray) (w : World) (hs : s.size ≤ 10000000000000) :
    Calls Tryd.prog 62 #[.string s] w fun e w' => (∃ v, e = .returned v ∧ Own w.heap.size w' v (encBytes s.data.toList)) ∧ Below w.heap.size w w' := by
  have hlen : s.data.toList.length = s.size := Array.length_toList
  have he := encBytes_def s.data.toList
  rw [hlen] at he
  have HI := hid (int1_any (s.size : Int) w (by omega))
  have HL := hid (encInt_length (s.size : Int)); have HE := hid he
  have HLL := hid hlen
  clear he hlen
  go_enter Tryd.func62, Tryd.ntmps62
  go_wp2_with (first | ((with_reducible refine (HI.out).mono ?_); rintro e w1 ⟨⟨v, rfl, hv⟩, hb⟩; have HV := hid hv; have HB := hid hb; obtain ⟨cap, w2, hcv, hb2, hx2⟩ := conv_str s w1; have HB2 := hid hb2; have HX2 := hid hx2; clear hv hb hb2 hx2) | (at_builtin; refine wp_app rfl _ _ rfl w.heap.size _ _ s.data.toList rfl (HV.out.keep HB2.out) (some ⟨w1.heap.size, 0, none⟩) _ _ HLL.out.symm rfl (fun h => by cases h) HX2.out (by have := HL.out; have := HLL.out; omega) (Nat.le_trans HB.out.size HB2.out.size) (fun v3 w3 hv3 hb3 => ?_); have HV3 := hid hv3; have HB3 := hid hb3; clear hv3 hb3))
  go_ret
  refine ⟨⟨_, rfl, ?_⟩, HB.out.trans ((HB2.out.mono HB.out.size).trans HB3.out)⟩
  rw [HE.out]; exact HV3.out
end Go.Proofs.YtbjfkliijhnloaaDoor
