/- sha.join, sha.short and sha.Digest walked. -/
import Derived.Laws.IdiomStrings
import Derived.Test.YtbjfkliijhnloaaDoorC4
namespace Go.Proofs.YtbjfkliijhnloaaDoor
open Go.RowKit
set_option linter.unusedVariables false

/-- Bytes that lie below n₀ (or are none). -/
def BytesB (n₀ : Nat) (w : World) (a : Option Addr) (bs : List UInt8) : Prop := BytesAt w a bs ∧ ∀ b off, a = some ⟨b, off, none⟩ → 0 < bs.length → b < n₀
theorem BytesB.keep {n₀ : Nat} {w w' : World} {a : Option Addr} {bs : List UInt8} (h : BytesB n₀ w a bs) (k : Below n₀ w w') : BytesB n₀ w' a bs := by
  refine ⟨fun i hi => ?_, h.2⟩
  obtain ⟨b, off, rfl, hlt, hc⟩ := h.1 i hi
  have hb := h.2 b off rfl (by omega)
  exact ⟨b, off, rfl, Nat.lt_of_lt_of_le hlt k.size, by rw [k.cell (p := ⟨b, off + i, none⟩) hb]; exact hc⟩
/-- Slices of bytes in a row, all below n₀. -/
def PartsB (n₀ : Nat) (w : World) (a : Option Addr) (ps : List (List UInt8)) : Prop :=
  ∀ i (hi : i < ps.length), ∃ b off p c, a = some ⟨b, off, none⟩ ∧ b < n₀ ∧ b < w.heap.size ∧ w.cell? ⟨b, off + i, none⟩ = some (.slice p ps[i].length c) ∧ BytesB n₀ w p ps[i]
theorem PartsB.keep {n₀ : Nat} {w w' : World} {a : Option Addr} {ps : List (List UInt8)} (h : PartsB n₀ w a ps) (k : Below n₀ w w') : PartsB n₀ w' a ps := by
  intro i hi
  obtain ⟨b, off, p, c, rfl, hb, hlt, hc, hx⟩ := h i hi
  exact ⟨b, off, p, c, rfl, hb, Nat.lt_of_lt_of_le hlt k.size, by rw [k.cell (p := ⟨b, off + i, none⟩) hb]; exact hc, hx.keep k⟩
theorem conv_bytes (w : World) (a : Option Addr) (c : Nat) (bs : List UInt8) (h : BytesAt w a bs) : (convert 58 9 (.slice a bs.length c)).run Tryd.prog w = .ok (.string ⟨bs.toArray⟩) w := by
  cases a with
  | none =>
    have h0 : bs = [] := by
      cases bs with
      | nil => rfl
      | cons y ys => obtain ⟨_, _, e, _⟩ := h.get (i := 0) (by simp); cases e
    subst h0
    have h1 : Tryd.prog.underlying 58 = some (.slice 5) := by kernel_rfl
    have h2 : Tryd.prog.underlying 5 = some (.int .u8) := by kernel_rfl
    have h3 : Tryd.prog.underlying 9 = some .string := by kernel_rfl
    exact run_convert_bytes_nil w 58 5 h1 h2 0 c 9 h3
  | some ad =>
    have h1 : Tryd.prog.underlying 58 = some (.slice 5) := by kernel_rfl
    have h2 : Tryd.prog.underlying 5 = some (.int .u8) := by kernel_rfl
    have h3 : Tryd.prog.underlying 9 = some .string := by kernel_rfl
    refine run_convert_bytes_back w 58 9 5 ad c bs h1 h2 h3 (fun j hj => ?_)
    obtain ⟨b, off, e, -, hc⟩ := h.get hj
    cases e
    rw [Addr.add_mid, hc]; rfl
theorem flatMap_take (ps : List (List UInt8)) (k : Nat) (h : k < ps.length) : (ps.take (k + 1)).flatMap encBytes = (ps.take k).flatMap encBytes ++ encBytes ps[k] := by
  rw [List.take_succ_eq_append_getElem h, List.flatMap_append]; simp
theorem encBytes_length (bs : List UInt8) : (encBytes bs).length ≤ 10 + bs.length := by unfold encBytes; have := encInt_length bs.length; simp; omega
theorem flatMap_length (M : Nat) (ps : List (List UInt8)) (k : Nat) (hM : ∀ p ∈ ps, p.length ≤ M) : ((ps.take k).flatMap encBytes).length ≤ (10 + M) * k := by
  induction k with
  | zero => simp
  | succ k ih =>
    rcases Nat.lt_or_ge k ps.length with h | h
    · rw [flatMap_take _ _ h, List.length_append]
      have h1 := encBytes_length ps[k]
      have h2 := hM ps[k] (List.getElem_mem h)
      rw [Nat.mul_succ]; omega
    · rw [List.take_of_length_le (by omega)]
      rw [List.take_of_length_le h] at ih
      rw [Nat.mul_succ]; omega

set_option maxRecDepth 100000 in
set_option maxHeartbeats 1000000 in
theorem join_any (n₀ : Nat) (v : Value) (bs : List UInt8) (a : Option Addr) (n c : Nat) (ps : List (List UInt8)) (w : World) (hown : Own n₀ w v bs) (hbase : n₀ ≤ w.heap.size) (hn : n = ps.length) (hps : PartsB n₀ w a ps)
    (hM : ∀ p ∈ ps, p.length ≤ 10000000000) (hl : bs.length ≤ 1000000) (hk : ps.length ≤ 100) :
    Calls Tryd.prog 61 #[v, .slice a n c] w fun e w' => (∃ v', e = .returned v' ∧ Own n₀ w' v' (bs ++ ps.flatMap encBytes)) ∧ Below n₀ w w' := by
  subst hn
  have HO := hid hown; have HBS := hid hbase; have HP := hid hps; have HM := hid hM
  clear hown hbase hps hM
  go_enter Tryd.func61, Tryd.ntmps61
  go_wp2_with fail
  go_loopw [0, 9] (fun o i wr => ∃ k : Nat, k ≤ ps.length ∧ i = .int .i64 k ∧ Own n₀ wr o (bs ++ (ps.take k).flatMap encBytes) ∧ Below n₀ w wr) (fun _ i _ => ps.length - (intOf i).toNat)
  case atStart => exact ⟨0, Nat.zero_le _, rfl, by simpa using HO.out, Below.refl _ _⟩
  case round =>
    obtain ⟨k, hk', rfl, hown, hbel⟩ := hrel
    have HOW := hid hown; have HBE := hid hbel; have HS0 := hid (Nat.le_trans HBS.out hbel.size)
    clear hown hbel
    by_cases hlt : k < ps.length
    · have b1 : (k : Int) < (ps.length : Int) := by omega
      have b0 : (0 : Int) ≤ (k : Int) := by omega
      obtain ⟨b, off, p, cc, rfl, hb, hlt', hc, hx⟩ := (HP.out.keep HBE.out) k hlt
      have HX := hid hx
      have hcv := conv_bytes wr p cc ps[k] hx.1
      have hpm := HM.out ps[k] (List.getElem_mem hlt)
      have HSZ := hid hpm
      have hfl := flatMap_length 10000000000 ps k HM.out
      have hfk : (10 + 10000000000) * k ≤ (10 + 10000000000) * 100 := Nat.mul_le_mul_left _ (by omega)
      obtain ⟨part, hpt⟩ : ∃ part, ps[k] = part := ⟨_, rfl⟩
      have HFT := hid (flatMap_take ps k hlt)
      rw [hpt] at hc hcv hpm HFT
      have hel := encBytes_length part
      have HB := hid (bytes_any ⟨part.toArray⟩ wr (by simp [ByteArray.size]; omega))
      have HL1 := hid (show (bs ++ (ps.take k).flatMap encBytes).length + (encBytes part).length ≤ 100000000000000 by rw [List.length_append]; omega)
      clear hx hpm hfl hfk hel
      go_wp2_with (first
        | ((with_reducible refine (HB.out).mono ?_); rintro e w3 ⟨⟨v3, rfl, hv⟩, hb3⟩; obtain ⟨a3, c3, rfl, hz3, hq3, hx3⟩ := hv.form; have HX3 := hid hx3; have HZ3 := hid hz3; have HB3 := hid hb3; clear hv hb3 hx3 hq3 hz3)
        | (at_builtin; refine wp_app rfl _ _ rfl n₀ _ _ (encBytes part) rfl (HOW.out.keep HB3.out) a3 _ c3 rfl rfl HZ3.out HX3.out HL1.out (Nat.le_trans HS0.out HB3.out.size) (fun v4 w4 hv4 hb4 => ?_); have HV4 := hid hv4; have HB4 := hid hb4; clear hv4 hb4))
      go_roundw
      case rel => exact ⟨k + 1, hlt, by go_num, by rw [HFT.out, ← List.append_assoc]; exact HV4.out, HBE.out.trans ((HB3.out.mono HS0.out).trans HB4.out)⟩
      case measure => simp [intOf]; omega
    · obtain rfl : k = ps.length := by omega
      go_wp2_with fail
      go_ret
      exact ⟨⟨_, rfl, by have := HOW.out; rw [List.take_of_length_le (Nat.le_refl _)] at this; exact this⟩, HBE.out⟩

/-- A digest, or a hash, as a value. -/
@[reducible] def dv (d : List UInt8) : Value := .agg (d.map u8).toArray
theorem dv_def (d : List UInt8) : dv d = .agg (d.map u8).toArray := rfl
theorem to_array16 (a : Addr) (n c : Nat) (hn : 16 ≤ n) (w : World) : (Instr.arrayAt 28 (.slice (some a) n c)).run Tryd.prog w = .ok (.pointer (some a)) w := by
  have h : Tryd.prog.underlying 28 = some (.array 16 5) := by kernel_rfl
  simp [Instr.arrayAt, run_underlying h, Nat.not_lt.2 hn]
theorem info16 (bs : List UInt8) (h : bs.length = 16) : (Tryd.prog.info? 28).map (·.size) = some (bs.map u8).length := by rw [List.length_map, h]; kernel_rfl
theorem info16a (bs : List UInt8) (h : bs.length = 16) : (Tryd.prog.info? 28).map (·.size) = some (bs.map u8).toArray.size := by rw [List.size_toArray]; exact info16 bs h
theorem all_u8 (bs : List UInt8) : (bs.map u8).toArray.all (·.oneCell') = true := all_oneCell_toArray (fun v hv => by obtain ⟨y, _, rfl⟩ := List.mem_map.1 hv; rfl)
theorem alloc_range (w : World) (cs : Array Value) (t : TypeId) : (w.alloc (.cells cs t)).rangeAt w.heap.size 0 cs.toList := fun j v hv => by
  rw [World.cell?_alloc_at (hn := rfl)]; simpa using hv
theorem alloc_there (w : World) (cs : Array Value) (t : TypeId) (n : Nat) (h : cs.size = n) : (w.alloc (.cells cs t)).there w.heap.size 0 n := fun j hj => by
  rw [World.cell?_alloc_at (hn := rfl), World.frozen?_alloc_at (hn := rfl)]; simp [h, hj]
theorem range_keep {w w' : World} {n b o : Nat} {cs : List Value} (h : w.rangeAt b o cs) (k : Below n w w') (hb : b < n) : w'.rangeAt b o cs := fun j v hv => by
  rw [k.cell (p := ⟨b, o + j, none⟩) hb]; exact h j v hv
theorem there_keep {w w' : World} {n b o m : Nat} (h : w.there b o m) (k : Below n w w') (hb : b < n) : w'.there b o m := fun j hj => by
  rw [k.cell (p := ⟨b, o + j, none⟩) hb, k.frozen (p := ⟨b, o + j, none⟩) hb]; exact h j hj
theorem range_take {w : World} {b o m : Nat} {bs : List UInt8} (h : w.rangeAt b o (bs.map u8)) : w.rangeAt b o ((bs.take m).map u8) := fun j v hv => by
  refine h j v ?_
  rw [List.map_take] at hv
  rw [List.getElem?_take] at hv
  split at hv
  · exact hv
  · cases hv
/-- The digest that was stored is handed back. -/
theorem ret_dig {fn : Func} {p : Tmp} (h : fn.results = #[.cell p 28]) (tmps : Array Value) (w : World) (b : Nat) (d : List UInt8) (hd : d.length = 16) (hp : tmps.getD p undef = .pointer (some ⟨b, 0, none⟩)) (ht : w.there b 0 16) :
    (results fn tmps).run Tryd.prog (w.setCells b 0 (d.map u8).toArray.toList) = .ok (dv d) (w.setCells b 0 (d.map u8).toArray.toList) :=
  have h1 : Tryd.prog.underlying 28 = some (.array 16 5) := by kernel_rfl
  results_mid h tmps _ b 0 (d.map u8) (.array 16 5) hp (World.rangeAt_setCells_same w b 0 _ (by simpa [hd] using ht)) h1 rfl (info16 d hd)
theorem there16 {w : World} {b : Nat} (h : w.there b 0 16) (d : List UInt8) (hd : d.length = 16) : w.there b 0 (d.map u8).toArray.size := by simpa [hd] using h

set_option maxRecDepth 100000 in
set_option maxHeartbeats 1000000 in
theorem short_any (bs : List UInt8) (h32 : bs.length = 32) (w : World) :
    Calls Tryd.prog 59 #[.agg (bs.map u8).toArray] w fun e w' => e = .returned (dv (bs.take 16)) ∧ Below w.heap.size w w' := by
  have hl : (bs.take 16).length = 16 := by simp; omega
  have hta := to_array16 ⟨w.heap.size, 0, none⟩ 16 32 (by omega)
  have HI := hid (info16 _ hl)
  have HI2 := hid (info16a _ hl)
  have HA := hid (all_u8 (bs.take 16))
  have HR := hid (fun o => range_keep (range_take (m := 16) (by simpa using alloc_range w (bs.map u8).toArray 80)) (below_alloc (w.alloc (.cells (bs.map u8).toArray 80)) o) (by simp))
  have HT := hid (fun cs (h : cs.size = 16) => there16 (alloc_there (w.alloc (.cells (bs.map u8).toArray 80)) cs 28 16 h) _ hl)
  have HT2 := hid (fun cs (h : cs.size = 16) => alloc_there (w.alloc (.cells (bs.map u8).toArray 80)) cs 28 16 h)
  have HL := hid hl
  clear hl
  rw [World.size_alloc] at HT HT2
  go_enter Tryd.func59, Tryd.ntmps59
  go_wp2_with (first
    | (refine wpList_load_mid rfl _ _ rfl w.heap.size 0 rfl _ _ (HR.out _) rfl rfl HI.out ?_)
    | (refine wpList_store_mid rfl _ _ _ rfl (w.heap.size + 1) 0 _ rfl rfl (HT.out _ rfl) HI2.out HA.out ?_))
  refine bodyPost_ret (ret_dig rfl _ _ (w.heap.size + 1) _ HL.out rfl (HT2.out _ rfl)) rfl ⟨rfl, ?_⟩
  exact below_setCells (by omega) _ _ _ ((below_alloc w _).alloc (by simp) _)
end Go.Proofs.YtbjfkliijhnloaaDoor
