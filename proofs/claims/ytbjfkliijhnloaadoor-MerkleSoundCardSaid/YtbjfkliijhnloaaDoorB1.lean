/- Byte slices of the call's own; the encodings of integers and byte strings. -/
import Derived.Test.YtbjfkliijhnloaaDoorB0
import Derived.Lib.AppendStr
import Derived.Laws.BytesString
import Derived.Laws.AppendOwnNone
namespace Go.Proofs.YtbjfkliijhnloaaDoor
open Go.RowKit
set_option linter.unusedVariables false

/-- v is a slice of bytes of the call's own (from block base on), which reads bs. -/
def Own (base : Nat) (w : World) (v : Value) (bs : List UInt8) : Prop := w.ownsRow base 5 1 v bs.length (bs.map u8)

theorem infoByte : (Tryd.prog.info? 5).map (fun i => (i.zero, i.size, i.bytes)) = some (some (.int .u8 0), 1, 1) := by kernel_rfl
theorem infoByte' : ∃ i, Tryd.prog.info? 5 = some i ∧ i.zero = some (.int .u8 0) ∧ i.size = 1 ∧ i.bytes = 1 := by
  obtain ⟨i, hi, hzz⟩ := Option.map_eq_some_iff.1 infoByte
  simp only [Prod.mk.injEq] at hzz
  exact ⟨i, hi, hzz.1, hzz.2.1, hzz.2.2⟩

theorem Own.nil (base : Nat) (w : World) : Own base w (.slice none 0 0) [] := ⟨rfl, Or.inl ⟨rfl, rfl⟩⟩
theorem Own.ownBlock {base : Nat} {w : World} {v : Value} {bs : List UInt8} (h : Own base w v bs) : ∀ k, v.ownBlock = some k → base ≤ k := by
  intro k hk
  obtain ⟨_, h'⟩ := h
  rcases h' with ⟨rfl, _⟩ | ⟨g', cap, cur, rfl, hbg, _⟩
  · simp [Value.ownBlock] at hk
  · simp [Value.ownBlock] at hk; omega
theorem Own.form {base : Nat} {w : World} {v : Value} {bs : List UInt8} (h : Own base w v bs) : ∃ a c, v = .slice a bs.length c ∧ (a = none → c = 0) ∧ (∀ b, a = some b → base ≤ b.block ∧ b.block < w.heap.size) ∧ BytesAt w a bs := by
  obtain ⟨_, h⟩ := h
  rcases h with ⟨rfl, hn⟩ | ⟨g, cap, cur, rfl, hb, hh, hle, _, hsz, htk⟩
  · exact ⟨none, 0, by rw [hn], fun _ => rfl, (fun b h => by cases h), fun i hi => by omega⟩
  · have hg : g < w.heap.size := by
      rcases Nat.lt_or_ge g w.heap.size with h' | h'
      · exact h'
      · simp [Array.getElem?_eq_none h'] at hh
    refine ⟨_, _, rfl, (fun h => by cases h), (fun b h => by cases h; exact ⟨hb, hg⟩), fun i hi => ⟨g, 0, rfl, hg, ?_⟩⟩
    have e : cur[i]? = some (u8 bs[i]) := by
      have h1 : (cur.toList.take (bs.length * 1))[i]? = some (u8 bs[i]) := by rw [htk]; simp [hi]
      rw [List.getElem?_take_of_lt (by omega)] at h1
      simpa using h1
    simp [World.cell?, hh, e, hi]
theorem Own.keep {base : Nat} {w w' : World} {v : Value} {bs : List UInt8} (h : Own base w v bs) (k : Below w.heap.size w w') : Own base w' v bs := by
  obtain ⟨hl, h⟩ := h
  refine ⟨hl, ?_⟩
  rcases h with h | ⟨g, cap, cur, hv, hb, hh, rest⟩
  · exact Or.inl h
  · refine Or.inr ⟨g, cap, cur, hv, hb, ?_, rest⟩
    rw [k.block g (Array.getElem?_eq_some_iff.1 hh).1]; exact hh
theorem Own.alloc {base : Nat} {w : World} {v : Value} {bs : List UInt8} (h : Own base w v bs) (o : Obj) : Own base (w.alloc o) v bs := h.keep (below_alloc w o)
/-- An empty slice in a new block. -/
theorem Own.empty (w : World) : Own w.heap.size (w.alloc (.cells #[] 5)) (.slice (some ⟨w.heap.size, 0, none⟩) 0 0) [] :=
  ⟨rfl, Or.inr ⟨w.heap.size, 0, #[], rfl, Nat.le_refl _, by show (w.heap.push _)[w.heap.size]? = _; simp, Nat.le_refl _, by simp [maxLen], rfl, rfl⟩⟩
/-- A literal of one byte in a new block. -/
theorem Own.one (w : World) (b : UInt8) : Own w.heap.size (w.alloc (.cells #[u8 b] 5)) (.slice (some ⟨w.heap.size, 0, none⟩) 1 1) [b] :=
  ⟨rfl, Or.inr ⟨w.heap.size, 1, #[u8 b], rfl, Nat.le_refl _, by show (w.heap.push _)[w.heap.size]? = _; simp, Nat.le_refl _, by simp [maxLen], rfl, rfl⟩⟩
theorem bytes_one (w : World) (b : UInt8) (t : TypeId) : BytesAt (w.alloc (.cells #[u8 b] t)) (some ⟨w.heap.size, 0, none⟩) [b] := fun i hi => by
  have hi' : i < 1 := hi
  obtain rfl : i = 0 := by omega
  exact ⟨w.heap.size, 0, rfl, by simp, by rw [World.cell?_alloc_at (hn := rfl)]; rfl⟩

theorem bytes_one' (w : World) (b : UInt8) (v : Value) (t : TypeId) (hv : v = u8 b) : BytesAt (w.alloc (.cells #[v] t)) (some ⟨w.heap.size, 0, none⟩) [b] := by
  subst hv; exact bytes_one w b t
theorem alloc_le {n : Nat} {w : World} (h : n ≤ w.heap.size) (o : Obj) : n ≤ (w.alloc o).heap.size := by simp; omega
theorem below_app {w wr w2 : World} {o : Obj} (h : Below w.heap.size w wr) (hb : Below w.heap.size (wr.alloc o) w2) : Below w.heap.size w w2 := h.trans (((below_alloc wr o).mono h.size).trans hb)
theorem bytes_news {w : World} {ad : Addr} {bs : List UInt8} (hx : BytesAt w (some ad) bs) : ∀ j u, (bs.map u8)[j]? = some u → w.cell? (ad.add j) = some u := by
  intro j u hu
  simp only [List.getElem?_map, Option.map_eq_some_iff] at hu
  obtain ⟨x, hx1, rfl⟩ := hu
  have hj : j < bs.length := by
    rcases Nat.lt_or_ge j bs.length with h | h
    · exact h
    · simp [List.getElem?_eq_none h] at hx1
  obtain ⟨b, off, e, _, hc⟩ := hx.get hj
  obtain rfl := Option.some.inj e
  rw [List.getElem?_eq_getElem hj] at hx1
  rw [← Option.some.inj hx1]
  by_cases h0 : j = 0
  · subst h0; simpa [Addr.add, u8] using hc
  · simpa [Addr.add, h0, u8] using hc

/-- append(s, x...) onto a slice of the call's own. -/
theorem wp_app {w : World} {ops : Array Oper} {rest : List Oper} {o : Oper} {a : Act} {Q : Exit → Act → World → Prop} (hgd : o.guard = none) (s x : Operand)
    (ho : o.op = .call { callee := .builtin .append, args := #[s, x], argTypes := #[58, 58] })
    (base : Nat) (v : Value) (bs ys : List UInt8) (hs : a.eval s = v) (hown : Own base w v bs) (ad : Option Addr) (m c : Nat) (hm : m = ys.length) (hx : a.eval x = .slice ad m c) (hc0 : ad = none → c = 0) (hys : BytesAt w ad ys)
    (hlen : bs.length + ys.length ≤ 100000000000000) (hbase : base ≤ w.heap.size)
    (h : ∀ v' w', Own base w' v' (bs ++ ys) → Below base w w' → wpList Tryd.prog ops Q rest (a.put o.dst v') w') : wpList Tryd.prog ops Q (o :: rest) a w := by
  obtain ⟨i, hi, hz, hsz, hby⟩ := infoByte'
  subst hm
  cases ad with
  | none =>
    have h0 : ys = [] := by
      cases ys with
      | nil => rfl
      | cons y ys => obtain ⟨_, _, e, _⟩ := hys.get (i := 0) (by simp); cases e
    subst h0
    obtain rfl := hc0 rfl
    refine wpList_append_own_none hgd s x 58 ho base 5 i 1 Tryd.underlying58 hi v bs.length (bs.map u8) hs hown hx ?_
    exact h v w (by simpa using hown) (Below.refl _ _)
  | some ad =>
    refine wpList_append_own w hgd s x 58 ho base 5 i (.int .u8 0) 1 1 Tryd.underlying58 hi hz hsz hby rfl (by decide) v bs.length (bs.map u8) hs hown ad ys.length c (ys.map u8) hx (by simp) (bytes_news hys) (fun u hu => by obtain ⟨y, _, rfl⟩ := List.mem_map.1 hu; rfl)
      (by simp only [maxLen]; omega) (by omega) hbase (fun v' w' ho' hg _ => ?_)
    refine h v' w' ?_ ((Below.refl base w).grown hg hbase hown.ownBlock)
    unfold Own
    rw [List.length_append, List.map_append]
    exact ho'

/-- append(s, x...) of a string. -/
theorem wp_app_str {w : World} {ops : Array Oper} {rest : List Oper} {o : Oper} {a : Act} {Q : Exit → Act → World → Prop} (hgd : o.guard = none) (sl x : Operand)
    (ho : o.op = .call { callee := .builtin .append, args := #[sl, x], argTypes := #[58, 9] })
    (base : Nat) (v : Value) (bs : List UInt8) (hs : a.eval sl = v) (hown : Own base w v bs) (s : ByteArray) (hx : a.eval x = .string s)
    (hlen : bs.length + s.size ≤ 100000000000000) (hbase : base ≤ w.heap.size)
    (h : ∀ v' w', Own base w' v' (bs ++ s.data.toList) → Below base w w' → wpList Tryd.prog ops Q rest (a.put o.dst v') w') : wpList Tryd.prog ops Q (o :: rest) a w := by
  obtain ⟨i, hi, hz, hsz, hby⟩ := infoByte'
  refine Lib.wpList_append_own_string w hgd sl x 58 9 ho base 5 i Tryd.underlying58 Tryd.underlying9 hi hz hsz hby v bs.length (bs.map u8) hs hown s hx (by simp only [maxLen]; omega) (by omega) hbase (fun v' w' ho' hg _ => ?_)
  refine h v' w' ?_ ((Below.refl base w).grown hg hbase hown.ownBlock)
  unfold Own
  rw [List.length_append, List.map_append]
  have : s.data.toList.length = s.size := Array.length_toList
  rw [this]
  exact ho'

/-! ### wire.Int -/
/-- The groups of seven bits of a number. -/
def vintF : Nat → Nat → List UInt8
  | 0, u => [UInt8.ofNat u]
  | k + 1, u => if u < 128 then [UInt8.ofNat u] else UInt8.ofNat (u % 128 + 128) :: vintF k (u / 128)
def zz (n : Int) : Nat := if n < 0 then (-2 * n - 1).toNat else (2 * n).toNat
def encInt (n : Int) : List UInt8 := vintF 9 (zz n)
theorem encInt_def (n : Int) : encInt n = vintF 9 (zz n) := rfl
theorem vintF_length (k u : Nat) : (vintF k u).length ≤ k + 1 := by
  induction k generalizing u with
  | zero => simp [vintF]
  | succ k ih =>
    unfold vintF
    split
    · exact Nat.succ_le_succ (Nat.zero_le _)
    · rw [List.length_cons]; exact Nat.succ_le_succ (ih _)
theorem vintF_small (k u : Nat) (h : u < 128) : vintF k u = [UInt8.ofNat u] := by
  cases k with
  | zero => rfl
  | succ k => rw [vintF, if_pos h]
theorem n8_of (n : Nat) (h : n < 256) : n8 (UInt8.ofNat n) = (n : Int) := by
  unfold n8; rw [UInt8.toNat_ofNat_of_lt' h]

theorem not64 (m : Nat) (h : m < 18446744073709551616) : bits BinOp.xor IntKind.u64 IntKind.u64.max (m : Int) = ((18446744073709551615 - m : Nat) : Int) := by
  show IntKind.u64.wrap ((BitVec.ofInt 64 IntKind.u64.max ^^^ BitVec.ofInt 64 (m : Int)).toNat : Int) = _
  have e : BitVec.ofInt 64 IntKind.u64.max = BitVec.allOnes 64 := by decide
  rw [e, BitVec.allOnes_xor, BitVec.toNat_not, BitVec.ofInt_natCast, BitVec.toNat_ofNat, Nat.mod_eq_of_lt h]
  simp [IntKind.wrap, IntKind.bits, IntKind.signed]
  omega
theorem zig_neg (n : Int) (h0 : -9223372036854775808 ≤ n) (h : n < 0) : bits BinOp.xor IntKind.u64 IntKind.u64.max (IntKind.u64.wrap (IntKind.u64.wrap n * 2)) = (zz n : Int) := by
  have e : IntKind.u64.wrap (IntKind.u64.wrap n * 2) = ((2 * n + 18446744073709551616).toNat : Int) := by
    simp [IntKind.wrap, IntKind.bits, IntKind.signed]; omega
  rw [e, not64 _ (by omega), zz, if_pos h]
  omega
theorem zz_lt (n : Int) (hn : -9223372036854775808 ≤ n ∧ n ≤ 9223372036854775807) : zz n < 18446744073709551616 := by unfold zz; split <;> omega

/-- What the loop of wire.Int has done: out, with the groups of u behind it, is the whole. -/
def Left (z : Nat) (out : List UInt8) (u : Nat) : Prop := ∃ k, out ++ vintF k u = vintF 9 z ∧ u < 128 ^ (k + 1) ∧ out.length + k ≤ 9
theorem Left.last {z u : Nat} {out : List UInt8} (h : Left z out u) (hu : u < 128) : out ++ [UInt8.ofNat u] = vintF 9 z := by
  obtain ⟨k, h1, _, _⟩ := h
  rw [vintF_small k u hu] at h1
  exact h1
theorem Left.next {z u : Nat} {out : List UInt8} (h : Left z out u) (hu : 128 ≤ u) : Left z (out ++ [UInt8.ofNat (u % 128 + 128)]) (u / 128) := by
  obtain ⟨k, h1, h2, h3⟩ := h
  cases k with
  | zero => simp at h2; omega
  | succ k =>
    refine ⟨k, ?_, ?_, by simp; omega⟩
    · rw [vintF, if_neg (by omega)] at h1
      rw [← h1]; simp
    · rw [Nat.pow_succ] at h2
      omega
theorem Left.len {z u : Nat} {out : List UInt8} (h : Left z out u) : out.length ≤ 9 := by obtain ⟨k, _, _, h3⟩ := h; omega

theorem low_or (u : Nat) : bits BinOp.or IntKind.u8 ((u % 256 : Nat) : Int) 128 = ((u % 128 + 128 : Nat) : Int) := by
  have key : ∀ r : Fin 256, bits BinOp.or IntKind.u8 ((r.val : Nat) : Int) 128 = ((r.val % 128 + 128 : Nat) : Int) := by decide +kernel
  have := key ⟨u % 256, Nat.mod_lt _ (by omega)⟩
  simp only at this
  rw [this]
  omega

set_option maxRecDepth 100000 in
set_option maxHeartbeats 1000000 in
theorem int_any (n : Int) (w : World) (hn : -9223372036854775808 ≤ n ∧ n ≤ 9223372036854775807) :
    Calls Tryd.prog 49 #[.int .i64 n] w fun e w' => (∃ v, e = .returned v ∧ Own w.heap.size w' v (encInt n)) ∧ Below w.heap.size w w' := by
  obtain ⟨h0, h1⟩ := hn
  have hz := zz_lt n ⟨h0, h1⟩
  have he := encInt_def n
  obtain ⟨z, hzz⟩ : ∃ z, z = zz n := ⟨_, rfl⟩
  rw [← hzz] at hz he
  have hL : Left z [] z := ⟨9, rfl, by omega, by simp⟩
  have HL := hid hL; have HE := hid he; have HZ := hid hz
  clear hL he
  by_cases hneg : n < 0
  · have d1 : decide (n < 0) = true := by simpa using hneg
    have hs := zig_neg n h0 hneg
    rw [← hzz] at hs
    clear hzz
    go_enter Tryd.func49, Tryd.ntmps49
    go_wp2_with fail
    go_step3
    go_wp2_with fail
    go_step3
    go_wp2_with fail
    go_loopw [3, 4] (fun u o wr => ∃ (x : Nat) (out : List UInt8), u = .int .u64 x ∧ Left z out x ∧ x < 18446744073709551616 ∧ Own w.heap.size wr o out ∧ Below w.heap.size w wr) (fun u _ _ => (intOf u).toNat)
    case atStart => exact ⟨z, [], rfl, HL.out, HZ.out, Own.nil _ _, Below.refl _ _⟩
    case round =>
      obtain ⟨x, out, rfl, hleft, hx, hown, hbel⟩ := hrel
      have hlen := hleft.len
      have HLF := hid hleft; have HOW := hid hown; have HBE := hid hbel; have HS0 := hid hbel.size
      clear hleft hown hbel
      by_cases hlt : x < 128
      · clear hs h0 h1 hneg d1 hz
        have HV8 := hid (show Value.int .u8 (x : Int) = u8 (UInt8.ofNat x) by unfold u8; rw [n8_of x (by omega)])
        have HL1 := hid (show out.length + [UInt8.ofNat x].length ≤ 100000000000000 by simp; omega)
        go_wp2_with (at_builtin; refine wp_app rfl _ _ rfl w.heap.size _ out [UInt8.ofNat x] rfl (HOW.out.alloc _) (some ⟨wr.heap.size, 0, none⟩) 1 1 rfl rfl (fun h => by cases h) (bytes_one' wr _ _ _ HV8.out) HL1.out (alloc_le HS0.out _) (fun v2 w2 hv2 hb2 => ?_); have HV := hid hv2; have HB := hid hb2; clear hv2 hb2)
        rw [Exit.noGoto_ret]
        go_ret
        refine ⟨⟨_, rfl, ?_⟩, ?_⟩
        · rw [HE.out, ← HLF.out.last hlt]; exact HV.out
        · exact below_app HBE.out HB.out
      · have d2 : decide ((x : Int) < 128) = false := by simp; omega
        have HV8 := hid (show Value.int .u8 (bits BinOp.or IntKind.u8 ((x : Int) % 256) 128) = u8 (UInt8.ofNat (x % 128 + 128)) by
          unfold u8; rw [n8_of _ (by omega)]; have := low_or x; rw [Int.natCast_emod] at this; exact congrArg _ this)
        have HL1 := hid (show out.length + [UInt8.ofNat (x % 128 + 128)].length ≤ 100000000000000 by simp; omega)
        go_wp2_with (at_builtin; refine wp_app rfl _ _ rfl w.heap.size _ out [UInt8.ofNat (x % 128 + 128)] rfl (HOW.out.alloc _) (some ⟨wr.heap.size, 0, none⟩) 1 1 rfl rfl (fun h => by cases h) (bytes_one' wr _ _ _ HV8.out) HL1.out (alloc_le HS0.out _) (fun v2 w2 hv2 hb2 => ?_); have HV := hid hv2; have HB := hid hb2; clear hv2 hb2)
        go_roundw
        case rel => exact ⟨x / 128, _, by go_num, HLF.out.next (by omega), by omega, HV.out, below_app HBE.out HB.out⟩
        case measure => simp [intOf]; omega
  · have d1 : decide (n < 0) = false := by simpa using hneg
    have hs : n * 2 = (z : Int) := by rw [hzz, zz, if_neg hneg]; omega
    clear hzz
    go_enter Tryd.func49, Tryd.ntmps49
    go_wp2_with fail
    go_step3
    go_wp2_with fail
    go_step3
    go_wp2_with fail
    go_loopw [3, 4] (fun u o wr => ∃ (x : Nat) (out : List UInt8), u = .int .u64 x ∧ Left z out x ∧ x < 18446744073709551616 ∧ Own w.heap.size wr o out ∧ Below w.heap.size w wr) (fun u _ _ => (intOf u).toNat)
    case atStart => exact ⟨z, [], rfl, HL.out, HZ.out, Own.nil _ _, Below.refl _ _⟩
    case round =>
      obtain ⟨x, out, rfl, hleft, hx, hown, hbel⟩ := hrel
      have hlen := hleft.len
      have HLF := hid hleft; have HOW := hid hown; have HBE := hid hbel; have HS0 := hid hbel.size
      clear hleft hown hbel
      by_cases hlt : x < 128
      · clear hs h0 h1 hneg d1 hz
        have HV8 := hid (show Value.int .u8 (x : Int) = u8 (UInt8.ofNat x) by unfold u8; rw [n8_of x (by omega)])
        have HL1 := hid (show out.length + [UInt8.ofNat x].length ≤ 100000000000000 by simp; omega)
        go_wp2_with (at_builtin; refine wp_app rfl _ _ rfl w.heap.size _ out [UInt8.ofNat x] rfl (HOW.out.alloc _) (some ⟨wr.heap.size, 0, none⟩) 1 1 rfl rfl (fun h => by cases h) (bytes_one' wr _ _ _ HV8.out) HL1.out (alloc_le HS0.out _) (fun v2 w2 hv2 hb2 => ?_); have HV := hid hv2; have HB := hid hb2; clear hv2 hb2)
        rw [Exit.noGoto_ret]
        go_ret
        refine ⟨⟨_, rfl, ?_⟩, ?_⟩
        · rw [HE.out, ← HLF.out.last hlt]; exact HV.out
        · exact below_app HBE.out HB.out
      · have d2 : decide ((x : Int) < 128) = false := by simp; omega
        have HV8 := hid (show Value.int .u8 (bits BinOp.or IntKind.u8 ((x : Int) % 256) 128) = u8 (UInt8.ofNat (x % 128 + 128)) by
          unfold u8; rw [n8_of _ (by omega)]; have := low_or x; rw [Int.natCast_emod] at this; exact congrArg _ this)
        have HL1 := hid (show out.length + [UInt8.ofNat (x % 128 + 128)].length ≤ 100000000000000 by simp; omega)
        go_wp2_with (at_builtin; refine wp_app rfl _ _ rfl w.heap.size _ out [UInt8.ofNat (x % 128 + 128)] rfl (HOW.out.alloc _) (some ⟨wr.heap.size, 0, none⟩) 1 1 rfl rfl (fun h => by cases h) (bytes_one' wr _ _ _ HV8.out) HL1.out (alloc_le HS0.out _) (fun v2 w2 hv2 hb2 => ?_); have HV := hid hv2; have HB := hid hb2; clear hv2 hb2)
        go_roundw
        case rel => exact ⟨x / 128, _, by go_num, HLF.out.next (by omega), by omega, HV.out, below_app HBE.out HB.out⟩
        case measure => simp [intOf]; omega
end Go.Proofs.YtbjfkliijhnloaaDoor
