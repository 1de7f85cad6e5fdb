/-
  Words of the proofs of this seat: hidden facts, what a call leaves as it was, rows of cells; 32-bit words as bit vectors. No condition beyond what each lemma states.
-/
import Derived.Test.YtbjfkliijhnloaaDoorRows
import Derived.WalkKit
import Derived.WalkSpells
import Derived.WalkLawsBesides
import Derived.BigQuiet
import Derived.Deep.QuietTactic
import Derived.Deep.RegionWith
import Derived.BigRegion
import Derived.Deep.DeepCutAuto
import Derived.Deep.CutRange
import Derived.Deep.CutBlock
import Derived.Deep.OwnRows
import Derived.Deep.LoopGhost
import Derived.Laws.EntriesVeiled
namespace Go.Proofs.YtbjfkliijhnloaaDoor
open Go.RowKit

theorem hid {p : Prop} (h : p) : Hid p := h
theorem ret_bool {a b : Bool} (h : a = b) : Ending.returned (.bool a) = .returned (.bool b) := by rw [h]
theorem ret_int {k : IntKind} {a b : Int} (h : a = b) : Ending.returned (.int k a) = .returned (.int k b) := by rw [h]
theorem cell_lt {w : World} {a : Addr} {v : Value} (h : w.cell? a = some v) : a.block < w.heap.size := by
  rcases Nat.lt_or_ge a.block w.heap.size with h' | h'
  · exact h'
  · simp [World.cell?, Array.getElem?_eq_none h'] at h
theorem below_alloc (W : World) (o : Obj) : Below W.heap.size W (W.alloc o) := (Below.refl _ _).alloc (Nat.le_refl _) _

/-- The slice that starts at a reads as n cells f 0, f 1, .. -/
def RowAt (w : World) (a : Option Addr) (n : Nat) (f : Nat → Value) : Prop :=
  ∀ i, i < n → ∃ b off, a = some ⟨b, off, none⟩ ∧ b < w.heap.size ∧ w.cell? ⟨b, off + i, none⟩ = some (f i)
theorem RowAt.keep {w w' : World} {a : Option Addr} {n : Nat} {f : Nat → Value} (h : RowAt w a n f) (hb : Below w.heap.size w w') : RowAt w' a n f := by
  intro i hi
  obtain ⟨b, off, rfl, hlt, hc⟩ := h i hi
  exact ⟨b, off, rfl, Nat.lt_of_lt_of_le hlt hb.size, by rw [hb.cell (p := ⟨b, off + i, none⟩) hlt]; exact hc⟩
def IntsAt (w : World) (a : Option Addr) (xs : List Int) : Prop := RowAt w a xs.length fun i => .int .i64 (xs.getD i 0)
theorem IntsAt.keep {w w' : World} {a : Option Addr} {xs : List Int} (h : IntsAt w a xs) (k : Below w.heap.size w w') : IntsAt w' a xs := RowAt.keep h k
theorem IntsAt.get {w : World} {a : Option Addr} {xs : List Int} (h : IntsAt w a xs) {i : Nat} (hi : i < xs.length) :
    ∃ b off, a = some ⟨b, off, none⟩ ∧ b < w.heap.size ∧ w.cell? ⟨b, off + i, none⟩ = some (.int .i64 xs[i]) := by
  obtain ⟨b, off, h1, h2, h3⟩ := h i hi
  exact ⟨b, off, h1, h2, by simpa [hi] using h3⟩
/-- A byte as a number (a name of its own, so that the walk leaves it whole). -/
def n8 (b : UInt8) : Int := (b.toNat : Int)
theorem n8_bd (b : UInt8) : 0 ≤ n8 b ∧ n8 b < 256 := by unfold n8; have := b.toNat_lt; omega
/-- A byte as a value. -/
def u8 (b : UInt8) : Value := .int .u8 (n8 b)
def BytesAt (w : World) (a : Option Addr) (bs : List UInt8) : Prop := RowAt w a bs.length fun i => u8 (bs.getD i 0)
theorem BytesAt.keep {w w' : World} {a : Option Addr} {bs : List UInt8} (h : BytesAt w a bs) (k : Below w.heap.size w w') : BytesAt w' a bs := RowAt.keep h k
theorem BytesAt.get {w : World} {a : Option Addr} {bs : List UInt8} (h : BytesAt w a bs) {i : Nat} (hi : i < bs.length) :
    ∃ b off, a = some ⟨b, off, none⟩ ∧ b < w.heap.size ∧ w.cell? ⟨b, off + i, none⟩ = some (.int .u8 (n8 bs[i])) := by
  obtain ⟨b, off, h1, h2, h3⟩ := h i hi
  exact ⟨b, off, h1, h2, by simpa [hi, u8] using h3⟩

/-! ### 32-bit words -/
/-- A word as a number (a name of its own, so that the walk leaves it whole). -/
def n32 (x : BitVec 32) : Int := (x.toNat : Int)
theorem n32_def (x : BitVec 32) : n32 x = (x.toNat : Int) := rfl
theorem n32_bd (x : BitVec 32) : 0 ≤ n32 x ∧ n32 x < 4294967296 := by unfold n32; have := x.isLt; omega
theorem n32_inj {x y : BitVec 32} (h : n32 x = n32 y) : x = y := by unfold n32 at h; exact BitVec.eq_of_toNat_eq (by omega)
theorem ofInt32 (x : BitVec 32) : BitVec.ofInt 32 (n32 x) = x := by
  unfold n32; rw [BitVec.ofInt_natCast]; simp
theorem wrap_u32 (n : Nat) : IntKind.u32.wrap (n : Int) = ((n % 4294967296 : Nat) : Int) := by
  simp [IntKind.wrap, IntKind.bits, IntKind.signed]
theorem wrap_n32 (x : BitVec 32) : IntKind.u32.wrap (x.toNat : Int) = n32 x := by
  rw [wrap_u32]; unfold n32; have := x.isLt; congr 1; omega
@[go_sem] theorem xor32 (x y : BitVec 32) : bits BinOp.xor IntKind.u32 (n32 x) (n32 y) = n32 (x ^^^ y) := by
  show IntKind.u32.wrap ((BitVec.ofInt 32 (n32 x) ^^^ BitVec.ofInt 32 (n32 y)).toNat : Int) = _
  rw [ofInt32, ofInt32, wrap_n32]
@[go_sem] theorem and32 (x y : BitVec 32) : bits BinOp.and IntKind.u32 (n32 x) (n32 y) = n32 (x &&& y) := by
  show IntKind.u32.wrap ((BitVec.ofInt 32 (n32 x) &&& BitVec.ofInt 32 (n32 y)).toNat : Int) = _
  rw [ofInt32, ofInt32, wrap_n32]
@[go_sem] theorem or32 (x y : BitVec 32) : bits BinOp.or IntKind.u32 (n32 x) (n32 y) = n32 (x ||| y) := by
  show IntKind.u32.wrap ((BitVec.ofInt 32 (n32 x) ||| BitVec.ofInt 32 (n32 y)).toNat : Int) = _
  rw [ofInt32, ofInt32, wrap_n32]
@[go_sem] theorem not32 (x : BitVec 32) : bits BinOp.xor IntKind.u32 4294967295 (n32 x) = n32 (~~~x) := by
  show IntKind.u32.wrap ((BitVec.ofInt 32 4294967295 ^^^ BitVec.ofInt 32 (n32 x)).toNat : Int) = _
  have : (BitVec.ofInt 32 4294967295 : BitVec 32) = BitVec.allOnes 32 := by decide
  rw [ofInt32, this, BitVec.allOnes_xor, wrap_n32]
theorem add32 (x y : BitVec 32) : IntKind.u32.wrap (n32 x + n32 y) = n32 (x + y) := by
  unfold n32; rw [← Int.natCast_add, wrap_u32, BitVec.toNat_add]
@[go_sem] theorem add32m (x y : BitVec 32) : (n32 x + n32 y) % 4294967296 = n32 (x + y) := by
  rw [← add32]; simp [IntKind.wrap, IntKind.bits, IntKind.signed]
theorem shl32 (x : BitVec 32) (n : Nat) : n32 x * 2 ^ n % 4294967296 = n32 (x <<< n) := by
  unfold n32
  have : (x.toNat : Int) * 2 ^ n = ((x.toNat * 2 ^ n : Nat) : Int) := by simp
  rw [this, BitVec.toNat_shiftLeft, Nat.shiftLeft_eq]; omega
theorem shr32 (x : BitVec 32) (n : Nat) : n32 x / 2 ^ n = n32 (x >>> n) := by
  unfold n32
  rw [BitVec.toNat_ushiftRight, Nat.shiftRight_eq_div_pow]; simp
@[go_sem] theorem shr3 (x : BitVec 32) : n32 x / 8 = n32 (x >>> 3) := shr32 x 3
@[go_sem] theorem shr10 (x : BitVec 32) : n32 x / 1024 = n32 (x >>> 10) := shr32 x 10
@[go_sem] theorem shl8 (x : BitVec 32) : n32 x * 256 % 4294967296 = n32 (x <<< 8) := shl32 x 8

def rr (x : BitVec 32) (r : Nat) : BitVec 32 := x <<< (32 - r) ||| x >>> r

theorem amount (r : Nat) (h : r < 32) (h0 : 0 < r) : bits BinOp.and IntKind.u64 (IntKind.u64.wrap (-(r : Int))) 31 = ((32 - r : Nat) : Int) := by
  have : ∀ r : Fin 32, 0 < r.val → bits BinOp.and IntKind.u64 (IntKind.u64.wrap (-(r.val : Int))) 31 = ((32 - r.val : Nat) : Int) := by decide +kernel
  exact this ⟨r, h⟩ h0

set_option maxHeartbeats 400000 in
theorem rotl_any (x : BitVec 32) (r : Nat) (w : World) (hr : r < 32) (hr0 : 0 < r) :
    Calls Tryd.prog 78 #[.int .u32 (n32 x), .int .i64 (-(r : Int))] w fun e w' => e = .returned (.int .u32 (n32 (rr x r))) ∧ w = w' := by
  have ha := amount r hr hr0
  obtain ⟨hb0, hb1⟩ := n32_bd x
  obtain ⟨s, hs⟩ : ∃ s, s = 32 - r := ⟨_, rfl⟩
  rw [← hs] at ha
  have hsr : (32 : Int) - (s : Int) = (r : Int) := by omega
  have hw : IntKind.u64.wrap ((32 : Int) - (s : Int)) = (r : Int) := by rw [hsr]; simp [IntKind.wrap, IntKind.bits, IntKind.signed]; omega
  have HS := hid hs
  clear hs hsr
  go_enter Tryd.func78, Tryd.ntmps78
  go_wp2
  go_ret
  refine ⟨ret_int ?_, rfl⟩
  have hmin : min (32 - r) 32 = 32 - r := by omega
  have e1 : n32 x * 2 ^ min (32 - r) 32 % 4294967296 = n32 (x <<< (32 - r)) := by
    rw [hmin, ← shl32]
  rw [rr, ← or32, ← e1, ← shr32, HS.out]

/-- Rotations of a word, combined. -/
def rrs (x : BitVec 32) (ks : List Nat) : BitVec 32 := ks.foldl (fun o k => o ^^^ rr x k) 0

set_option maxHeartbeats 400000 in
theorem rotr_any (x : BitVec 32) (ks : List Nat) (a : Option Addr) (ca : Nat) (w : World) (hk : ∀ k ∈ ks, 0 < k ∧ k < 32) (hl : ks.length ≤ 100) (hx : IntsAt w a (ks.map fun k : Nat => (k : Int))) :
    Calls Tryd.prog 74 #[.int .u32 (n32 x), .slice a ks.length ca] w fun e w' => e = .returned (.int .u32 (n32 (rrs x ks))) ∧ w = w' := by
  have HK := hid hk
  clear hk
  go_enter Tryd.func74, Tryd.ntmps74
  go_wp2_with fail
  go_loop [5, 10] (fun o i => ∃ k : Nat, k ≤ ks.length ∧ i = .int .i64 k ∧ o = .int .u32 (n32 (rrs x (ks.take k)))) (fun _ i => ks.length - (intOf i).toNat)
  case atStart => exact ⟨0, Nat.zero_le _, rfl, rfl⟩
  case round =>
    obtain ⟨k, hk, rfl, rfl⟩ := hrel
    by_cases hlt : k < ks.length
    · obtain ⟨b, off, rfl, _, hc⟩ := hx.get (i := k) (by simpa using hlt)
      simp only [List.getElem_map] at hc
      obtain ⟨hp, hp2⟩ := HK.out ks[k] (List.getElem_mem hlt)
      have HR := hid (rotl_any x ks[k] w hp2 hp)
      have hst : rrs x (ks.take (k + 1)) = rrs x (ks.take k) ^^^ rr x ks[k] := by
        unfold rrs; rw [List.take_succ_eq_append_getElem hlt, List.foldl_append]; rfl
      have HST := hid hst
      have hneg : wrap64 (-(ks[k] : Int)) = -(ks[k] : Int) := by unfold wrap64; omega
      clear hx hst
      go_wp2_with ((with_reducible refine (HR.out).mono ?_); rintro e w' ⟨rfl, rfl⟩)
      go_round
      case rel => exact ⟨k + 1, by omega, by go_num, by rw [HST.out]⟩
      case measure => simp [intOf]; omega
    · obtain rfl : k = ks.length := by omega
      go_wp2_with fail
      go_ret
      exact ⟨rfl, rfl⟩

/-- A byte as a word. -/
def w8 (b : UInt8) : BitVec 32 := BitVec.ofNat 32 b.toNat
theorem n8_w8 (b : UInt8) : n8 b = n32 (w8 b) := by
  unfold n8 n32 w8
  have := b.toNat_lt
  rw [BitVec.toNat_ofNat]; congr 1; omega
def loadF (bs : List UInt8) : BitVec 32 := bs.foldl (fun n b => n <<< 8 ||| w8 b) 0

set_option maxHeartbeats 400000 in
theorem load_any (bs : List UInt8) (a : Option Addr) (ca : Nat) (w : World) (hl : bs.length ≤ 100) (hx : BytesAt w a bs) :
    Calls Tryd.prog 73 #[.slice a bs.length ca] w fun e w' => e = .returned (.int .u32 (n32 (loadF bs))) ∧ w = w' := by
  go_enter Tryd.func73, Tryd.ntmps73
  go_wp2_with fail
  go_loop [3, 8] (fun o i => ∃ k : Nat, k ≤ bs.length ∧ i = .int .i64 k ∧ o = .int .u32 (n32 (loadF (bs.take k)))) (fun _ i => bs.length - (intOf i).toNat)
  case atStart => exact ⟨0, Nat.zero_le _, rfl, rfl⟩
  case round =>
    obtain ⟨k, hk, rfl, rfl⟩ := hrel
    by_cases hlt : k < bs.length
    · obtain ⟨b, off, rfl, _, hc⟩ := hx.get hlt
      obtain ⟨b0, b1⟩ := n8_bd bs[k]
      obtain ⟨x, hxx⟩ : ∃ x, x = bs[k] := ⟨_, rfl⟩
      obtain ⟨c0, c1⟩ := n32_bd (loadF (bs.take k))
      have hst : loadF (bs.take (k + 1)) = loadF (bs.take k) <<< 8 ||| w8 bs[k] := by
        unfold loadF; rw [List.take_succ_eq_append_getElem hlt, List.foldl_append]; rfl
      have HST := hid hst
      clear hx hst hxx
      go_wp2_with fail
      go_outline
      go_round
      case rel => exact ⟨k + 1, by omega, by go_num, by rw [HST.out, ← or32, ← n8_w8, ← shl32]; rfl⟩
      case measure => simp [intOf]; omega
    · obtain rfl : k = bs.length := by omega
      go_wp2_with fail
      go_ret
      exact ⟨rfl, rfl⟩
end Go.Proofs.YtbjfkliijhnloaaDoor
