/- The reference's words: bootchainref02's rot, word, words. -/
import Derived.Test.YtbjfkliijhnloaaDoorC1
import Derived.Test.YtbjfkliijhnloaaDoorR0
namespace Go.Proofs.YtbjfkliijhnloaaDoor
open Go.RowKit
set_option linter.unusedVariables false

set_option maxHeartbeats 400000 in
theorem rot1_any (x : BitVec 32) (r : Nat) (w : World) (hr : r < 32) (hr0 : 0 < r) :
    Calls Tryd.prog 77 #[.int .u32 (n32 x), .int .i64 (r : Int)] w fun e w' => e = .returned (.int .u32 (n32 (rr x r))) ∧ ∃ q, w' = w.drewN q := by
  obtain ⟨hb0, hb1⟩ := n32_bd x
  obtain ⟨s, hs⟩ : ∃ s, s = 32 - r := ⟨_, rfl⟩
  have hsr : (32 : Int) - (r : Int) = (s : Int) := by omega
  have HS := hid hs
  clear hs
  go_enter Tryd.func77, Tryd.ntmps77
  go_wp2_with fail
  go_quiet (fail)
  go_wp2_with fail
  go_ret
  refine ⟨ret_int ?_, _, rfl⟩
  rw [shr32, shl32, or32, HS.out, rr, BitVec.or_comm]

def hexd (b : UInt8) : Nat := if 97 ≤ b.toNat then b.toNat - 87 else b.toNat - 48
def isHex (b : UInt8) : Prop := 48 ≤ b.toNat ∧ b.toNat ≤ 57 ∨ 97 ≤ b.toNat ∧ b.toNat ≤ 102
theorem hexd_lt {b : UInt8} (h : isHex b) : hexd b ≤ 15 := by
  unfold hexd
  rcases h with h | h
  · rw [if_neg (by omega)]; omega
  · rw [if_pos (by omega)]; omega
def hexVal (l : List UInt8) : Nat := l.foldl (fun n b => 16 * n + hexd b) 0
theorem hexVal_snoc (l : List UInt8) (b : UInt8) : hexVal (l ++ [b]) = 16 * hexVal l + hexd b := by unfold hexVal; rw [List.foldl_append]; rfl
theorem hexVal_lt (n : Nat) : ∀ l : List UInt8, l.length = n → (∀ b ∈ l, isHex b) → hexVal l < 16 ^ n := by
  induction n with
  | zero => intro l hl _; rw [List.length_eq_zero_iff.1 hl]; decide
  | succ n ih =>
    intro l hl h
    have hne : l ≠ [] := by intro e; rw [e] at hl; cases hl
    rw [← List.dropLast_concat_getLast hne, hexVal_snoc]
    have h1 := ih l.dropLast (by simp [hl]) (fun b hb => h b (List.dropLast_subset _ hb))
    have h2 := hexd_lt (h _ (List.getLast_mem hne))
    rw [Nat.pow_succ]; omega

set_option maxRecDepth 100000 in
set_option maxHeartbeats 1000000 in
theorem word1_any (s : ByteArray) (i : Nat) (w : World) (hi : 8 * i + 8 ≤ s.size) (hs : s.size ≤ 1000000) (hx : ∀ b ∈ s.data.toList, isHex b) :
    Calls Tryd.prog 76 #[.string s, .int .i64 (i : Int)] w fun e w' => e = .returned (.int .u32 (hexVal ((s.data.toList.drop (8 * i)).take 8) : Nat)) ∧ w = w' := by
  have HX := hid hx
  clear hx
  have hlen : s.data.toList.length = s.size := Array.length_toList
  obtain ⟨L, hL⟩ : ∃ L, s.data.toList.drop (8 * i) = L := ⟨_, rfl⟩
  have HL := hid hL
  have HLL := hid hlen
  rw [hL]
  clear hlen hL
  go_enter Tryd.func76, Tryd.ntmps76
  go_wp2_with fail
  go_loop [5, 6] (fun x k => ∃ j : Nat, j ≤ 8 ∧ k = .int .i64 ((8 * i + j : Nat) : Int) ∧ x = .int .u32 (hexVal (L.take j) : Nat)) (fun _ k => 8 * i + 8 - (intOf k).toNat)
  case atStart => exact ⟨0, by omega, by go_num, rfl⟩
  case round =>
    obtain ⟨j, hj, rfl, rfl⟩ := hrel
    by_cases hlt : j < 8
    · have hLj : 8 * i + j < s.data.toList.length := by rw [HLL.out]; omega
      have hLl : j < L.length := by rw [← HL.out, List.length_drop]; omega
      have e0 : L[j] = s.data.toList[8 * i + j] := by
        simp only [← HL.out, List.getElem_drop]
      have hhex := HX.out _ (List.getElem_mem hLj)
      have hst : hexVal (L.take (j + 1)) = 16 * hexVal (L.take j) + hexd s[8 * i + j] := by
        rw [List.take_succ_eq_append_getElem hLl, hexVal_snoc, e0]; rfl
      have hb := hexVal_lt j (L.take j) (by rw [List.length_take]; omega) (fun b hb => HX.out b (by rw [← HL.out] at hb; exact List.mem_of_mem_drop (List.mem_of_mem_take hb)))
      have hb2 : (16 : Nat) ^ j ≤ 16 ^ 7 := Nat.pow_le_pow_right (by omega) (by omega)
      have hb3 : hexVal (L.take j) < 268435456 := by omega
      have HST := hid hst
      obtain ⟨x, hxx⟩ : ∃ x, s[8 * i + j] = x := ⟨_, rfl⟩
      have hhx : isHex x := by rw [← hxx]; exact hhex
      have d0 : ((8 * i + j : Nat) : Int) < 8 * (i : Int) + 8 := by omega
      have hbd : ((8 * i + j : Nat) : Int) < (s.size : Int) := by omega
      have hk8 : 8 * i + j < s.size := by omega
      clear e0 hhex hst hb hb2
      rcases hhx with hhx | hhx
      · obtain ⟨h1, h2⟩ := hhx
        have hd : (hexd x : Int) = (x.toNat : Int) - 48 := by unfold hexd; rw [if_neg (by omega)]; omega
        have HD := hid hd
        have HXX := hid hxx
        clear hd
        go_wp2_with fail
        go_round
        case rel => exact ⟨j + 1, by omega, by go_num, by rw [HST.out, HXX.out]; refine congrArg (Value.int .u32) ?_; have := HD.out; omega⟩
        case measure => simp [intOf]; omega
      · obtain ⟨h1, h2⟩ := hhx
        have hd : (hexd x : Int) = (x.toNat : Int) - 97 + 10 := by unfold hexd; rw [if_pos (by omega)]; omega
        have HD := hid hd
        have HXX := hid hxx
        clear hd
        go_wp2_with fail
        go_round
        case rel => exact ⟨j + 1, by omega, by go_num, by rw [HST.out, HXX.out]; refine congrArg (Value.int .u32) ?_; have := HD.out; omega⟩
        case measure => simp [intOf]; omega
    · obtain rfl : j = 8 := by omega
      go_wp2_with fail
      go_ret
      exact ⟨rfl, rfl⟩

/-! ### A row of words of one's own -/
def w32 (x : BitVec 32) : Value := .int .u32 (n32 x)
def Row32 (w : World) (a : Option Addr) (xs : List (BitVec 32)) : Prop := RowAt w a xs.length fun i => w32 (xs.getD i 0)
theorem Row32.keep {w w' : World} {a : Option Addr} {xs : List (BitVec 32)} (h : Row32 w a xs) (k : Below w.heap.size w w') : Row32 w' a xs := RowAt.keep h k
theorem Row32.get {w : World} {a : Option Addr} {xs : List (BitVec 32)} (h : Row32 w a xs) {i : Nat} (hi : i < xs.length) :
    ∃ b off, a = some ⟨b, off, none⟩ ∧ b < w.heap.size ∧ w.cell? ⟨b, off + i, none⟩ = some (.int .u32 (n32 (xs.getD i 0))) := h i hi
def OwnW (base : Nat) (w : World) (v : Value) (xs : List (BitVec 32)) : Prop := w.ownsRow base 89 1 v xs.length (xs.map w32)
theorem infoWord : (Tryd.prog.info? 89).map (fun i => (i.zero, i.size, i.bytes)) = some (some (.int .u32 0), 1, 4) := by kernel_rfl
theorem infoWord' : ∃ i, Tryd.prog.info? 89 = some i ∧ i.zero = some (.int .u32 0) ∧ i.size = 1 ∧ i.bytes = 4 := by
  obtain ⟨i, hi, hzz⟩ := Option.map_eq_some_iff.1 infoWord
  simp only [Prod.mk.injEq] at hzz
  exact ⟨i, hi, hzz.1, hzz.2.1, hzz.2.2⟩
theorem OwnW.nil (base : Nat) (w : World) : OwnW base w (.slice none 0 0) [] := ⟨rfl, Or.inl ⟨rfl, rfl⟩⟩
theorem OwnW.ownBlock {base : Nat} {w : World} {v : Value} {ps : List (BitVec 32)} (h : OwnW base w v ps) : ∀ k, v.ownBlock = some k → base ≤ k := by
  intro k hk
  rcases h.2 with ⟨rfl, -⟩ | ⟨g, cap, cur, rfl, hg, -⟩
  · cases hk
  · simp only [Value.ownBlock, Option.some.injEq] at hk; omega
theorem OwnW.keep {base : Nat} {w w' : World} {v : Value} {ps : List (BitVec 32)} (h : OwnW base w v ps) (k : Below w.heap.size w w') : OwnW base w' v ps := by
  refine ⟨h.1, ?_⟩
  rcases h.2 with hn | ⟨g, cap, cur, hv, hb, hh, r⟩
  · exact .inl hn
  · exact .inr ⟨g, cap, cur, hv, hb, by rw [k.block g (Array.getElem?_eq_some_iff.1 hh).1]; exact hh, r⟩
theorem OwnW.row {base : Nat} {w : World} {v : Value} {xs : List (BitVec 32)} (h : OwnW base w v xs) : ∃ a c, v = .slice a xs.length c ∧ xs.length ≤ c ∧ Row32 w a xs := by
  rcases h.2 with ⟨rfl, hn⟩ | ⟨g, cap, cur, rfl, hb, hh, hle, _, hsz, htk⟩
  · exact ⟨none, 0, by rw [hn], by omega, fun i hi => by omega⟩
  · refine ⟨_, _, rfl, hle, fun i hi => ⟨g, 0, rfl, (Array.getElem?_eq_some_iff.1 hh).1, ?_⟩⟩
    have e : cur[i]? = some (w32 xs[i]) := by
      have h1 : (cur.toList.take (xs.length * 1))[i]? = some (w32 xs[i]) := by rw [htk]; simp [hi]
      rw [List.getElem?_take_of_lt (by omega)] at h1
      simpa using h1
    simp [World.cell?, hh, e, hi]
theorem wp_appW {w : World} {ops : Array Oper} {rest : List Oper} {o : Oper} {a : Act} {Q : Exit → Act → World → Prop} (hgd : o.guard = none) (s x : Operand)
    (ho : o.op = .call { callee := .builtin .append, args := #[s, x], argTypes := #[97, 97] })
    (base : Nat) (v : Value) (bs : List (BitVec 32)) (hs : a.eval s = v) (hown : OwnW base w v bs) (B c : Nat) (y : BitVec 32) (hx : a.eval x = .slice (some ⟨B, 0, none⟩) 1 c) (hy : w.cell? ⟨B, 0, none⟩ = some (w32 y))
    (hlen : bs.length ≤ 1000000) (hbase : base ≤ w.heap.size)
    (h : ∀ v' w', OwnW base w' v' (bs ++ [y]) → Below base w w' → wpList Tryd.prog ops Q rest (a.put o.dst v') w') : wpList Tryd.prog ops Q (o :: rest) a w := by
  obtain ⟨i, hi, hz, hsz, hby⟩ := infoWord'
  refine wpList_append_own w hgd s x 97 ho base 89 i (.int .u32 0) 1 4 Tryd.underlying97 hi hz hsz hby rfl (by decide) v bs.length (bs.map w32) hs hown ⟨B, 0, none⟩ 1 c [w32 y] hx rfl
    (fun j u hu => by
      have hj : j < 1 := (List.getElem?_eq_some_iff.1 hu).1
      obtain rfl : j = 0 := by omega
      have e : u = w32 y := by simpa using hu.symm
      rw [Addr.add_mid, e]; exact hy) (fun u hu => by simp at hu; subst hu; rfl) (by simp only [maxLen]; omega) (by omega) hbase (fun v' w' ho' hg _ => ?_)
  refine h v' w' ?_ ((Below.refl base w).grown hg hbase hown.ownBlock)
  unfold OwnW
  rw [List.length_append, List.map_append]
  exact ho'

/-- The words of a hexadecimal text. -/
def hexWord (s : ByteArray) (i : Nat) : BitVec 32 := BitVec.ofNat 32 (hexVal ((s.data.toList.drop (8 * i)).take 8))
def hexWords (s : ByteArray) (n : Nat) : List (BitVec 32) := (List.range n).map (hexWord s)
theorem hexWords_succ (s : ByteArray) (n : Nat) : hexWords s (n + 1) = hexWords s n ++ [hexWord s n] := by unfold hexWords; rw [List.range_succ, List.map_append]; rfl
theorem hexWords_length (s : ByteArray) (n : Nat) : (hexWords s n).length = n := by simp [hexWords]
theorem word32_any (s : ByteArray) (i : Nat) (w : World) (hi : 8 * i + 8 ≤ s.size) (hs : s.size ≤ 1000000) (hx : ∀ b ∈ s.data.toList, isHex b) :
    Calls Tryd.prog 76 #[.string s, .int .i64 (i : Int)] w fun e w' => e = .returned (.int .u32 (n32 (hexWord s i))) ∧ w = w' := by
  have hl : ((s.data.toList.drop (8 * i)).take 8).length = 8 := by
    have hlen : s.data.toList.length = s.size := Array.length_toList
    rw [List.length_take, List.length_drop, hlen]; omega
  have hb := hexVal_lt 8 _ hl (fun b hb => hx b (List.mem_of_mem_drop (List.mem_of_mem_take hb)))
  have e : n32 (hexWord s i) = ((hexVal ((s.data.toList.drop (8 * i)).take 8) : Nat) : Int) := by
    unfold n32 hexWord
    rw [BitVec.toNat_ofNat, Nat.mod_eq_of_lt (by omega)]
  rw [e]
  exact word1_any s i w hi hs hx
theorem cell_lit1 (w : World) (v u : Value) (t : TypeId) (h : v = u) : (w.alloc (.cells #[v] t)).cell? ⟨w.heap.size, 0, none⟩ = some u := by
  rw [World.cell?_alloc_at (hn := rfl), h]; rfl

set_option maxRecDepth 100000 in
set_option maxHeartbeats 1000000 in
theorem words1_any (s : ByteArray) (n : Nat) (w : World) (hn : 8 * n ≤ s.size) (hs : s.size ≤ 1000000) (hx : ∀ b ∈ s.data.toList, isHex b) :
    Calls Tryd.prog 71 #[.string s, .int .i64 (n : Int)] w fun e w' => (∃ v, e = .returned v ∧ OwnW w.heap.size w' v (hexWords s n)) ∧ Below w.heap.size w w' := by
  have HX := hid hx
  clear hx
  go_enter Tryd.func71, Tryd.ntmps71
  go_wp2_with fail
  go_loopw [5, 6] (fun o i wr => ∃ k : Nat, k ≤ n ∧ i = .int .i64 k ∧ OwnW w.heap.size wr o (hexWords s k) ∧ Below w.heap.size w wr) (fun _ i _ => n - (intOf i).toNat)
  case atStart => exact ⟨0, Nat.zero_le _, rfl, OwnW.nil _ _, Below.refl _ _⟩
  case round =>
    obtain ⟨k, hk, rfl, hown, hbel⟩ := hrel
    have HOW := hid hown; have HBE := hid hbel; have HS0 := hid hbel.size
    clear hown hbel
    by_cases hlt : k < n
    · have d1 : (k : Int) < (n : Int) := by omega
      have HW := hid (word32_any s k · (by omega) hs HX.out)
      obtain ⟨y, hy⟩ : ∃ y, hexWord s k = y := ⟨_, rfl⟩
      have HST := hid (show hexWords s (k + 1) = hexWords s k ++ [y] by rw [hexWords_succ, hy])
      rw [hy] at HW
      have HL := hid (show (hexWords s k).length ≤ 1000000 by rw [hexWords_length]; omega)
      clear hy
      go_wp2_with (first
        | ((with_reducible refine (HW.out _).mono ?_); rintro e w2 ⟨rfl, rfl⟩)
        | (at_builtin; refine wp_appW rfl _ _ rfl w.heap.size _ _ rfl (HOW.out.keep (below_alloc _ _)) wr.heap.size 1 y rfl (cell_lit1 _ _ _ _ rfl) HL.out (alloc_le HS0.out _) (fun v2 w2 hv2 hb2 => ?_); have HV := hid hv2; have HB := hid hb2; clear hv2 hb2))
      go_roundw
      case rel => exact ⟨k + 1, hlt, by go_num, by rw [HST.out]; exact HV.out, below_app HBE.out HB.out⟩
      case measure => simp [intOf]; omega
    · obtain rfl : k = n := by omega
      go_wp2_with fail
      go_ret
      exact ⟨⟨_, rfl, HOW.out⟩, HBE.out⟩
end Go.Proofs.YtbjfkliijhnloaaDoor
