/- What the rows' readings give: the hash tables as the package lays them; a list of digests. The last step of a row. -/
import Derived.Test.YtbjfkliijhnloaaDoorD2
import Derived.ProofKit
import Derived.OpenShut
import Derived.SizedLaws
import Derived.Deep.Slices
import Derived.Deep.DeepHandedRow
import Derived.Lib.LaidTab
import Derived.DataShut
namespace Go.Proofs.YtbjfkliijhnloaaDoor
open Go.ChangeShapes Go.WideShapes Go.ChangeAt Go.RowKit Go.Deep
set_option linter.unusedVariables false

theorem cellsDig : Tryd.prog.cellsOf 28 = 16 := by kernel_rfl
theorem cellsByte : Tryd.prog.cellsOf 5 = 1 := by kernel_rfl
theorem gConst : Tryd.prog.globalNamed "bootchain/sha.constants" = some 1 := by kernel_rfl
theorem gStart : Tryd.prog.globalNamed "bootchain/sha.start" = some 0 := by kernel_rfl
theorem tConst : (Tryd.prog.globals[1]?).map (·.type) = some 100 := by kernel_rfl
theorem tStart : (Tryd.prog.globals[0]?).map (·.type) = some 91 := by kernel_rfl
theorem uConst : Tryd.prog.underlying 100 = some (.array 64 89) := by kernel_rfl
theorem uStart : Tryd.prog.underlying 91 = some (.array 8 89) := by kernel_rfl
theorem uWord : Tryd.prog.underlying 89 = some (.int .u32) := by kernel_rfl
theorem cWord : Tryd.prog.cellsOf 89 = 1 := by kernel_rfl
theorem cConst : Tryd.prog.cellsOf 100 = 64 := by kernel_rfl
theorem cStart : Tryd.prog.cellsOf 91 = 8 := by kernel_rfl
def zsConst : List Int := consts.map n32
def zsStart : List Int := [n32 start.a, n32 start.b, n32 start.c, n32 start.d, n32 start.e, n32 start.f, n32 start.g, n32 start.h]
theorem laid_tail {P : Program} {x : String × DataW Unit} {rest : List (String × DataW Unit)} {W : World} (h : laidMet P (x :: rest) W) : laidMet P rest W := by
  obtain ⟨ps, hl, hn, hp⟩ := h
  obtain ⟨n, d⟩ := x
  obtain ⟨g, t, cs, fuel, p, q, _, _, _, _, hq, rfl⟩ := hl
  rw [List.nodup_append] at hn
  exact ⟨q, hq, hn.2.1, fun b off hb => hp b off (List.mem_append_right _ hb)⟩
theorem tab_of_laid {W : World} (h : laidMet Tryd.prog [("bootchain/sha.constants", Lib.tabData .u32 zsConst), ("bootchain/sha.start", Lib.tabData .u32 zsStart)] W) : Tab W := by
  have h1 := Lib.tabIs_of_head gConst tConst uConst uWord cWord cConst h
  have h2 := Lib.tabIs_of_head gStart tStart uStart uWord cWord cStart (laid_tail h)
  refine ⟨fun j hj => ?_, fun j v hv => ?_, ?_⟩
  · have hc := h2.cell gStart j hj
    rw [hc]
    rcases (show j = 0 ∨ j = 1 ∨ j = 2 ∨ j = 3 ∨ j = 4 ∨ j = 5 ∨ j = 6 ∨ j = 7 by omega) with rfl | rfl | rfl | rfl | rfl | rfl | rfl | rfl <;> rfl
  · have hj : j < 64 := (List.getElem?_eq_some_iff.1 hv).1
    have hc := h1.cell gConst j (by unfold zsConst; rw [List.length_map]; exact hj)
    rw [Nat.zero_add, hc, ← hv]
    have hj' : j < consts.length := hj
    simp [zsConst, constVs, List.getD, hj']
  · exact cell_lt (h1.cell gConst 0 (by decide))

theorem spot_of {w : World} {b o : Nat} {s : Option Nat} {v : Value} (h : w.cell? ⟨b, o, s⟩ = some v) : s = none := by
  cases s with
  | none => rfl
  | some s => simp [World.cell?] at h; split at h <;> simp_all
theorem add_at (b o n : Nat) : Addr.add ⟨b, o, none⟩ n = ⟨b, o + n, none⟩ := by
  unfold Addr.add
  by_cases h : n = 0 <;> simp [h]
section
variable {H : Type} {enc : TypeId × Value → H} {w : World} {held : Bool}
theorem open_dig {fuel : Nat} {cs : List Value} {x : DataW H × List MemPlace} (h : DataW.trod enc Tryd.prog w 0 (fun _ => true) held fuel 28 cs = some x) : ∃ d : List UInt8, d.length = 16 ∧ cs = d.map u8 := by
  obtain ⟨xs, m, _, _, hlen, hxl, hel⟩ := DataW.trod_array (show Tryd.prog.underlying 28 = some (.array 16 5) by kernel_rfl) h
  rw [cellsDig] at hlen
  have hu : Tryd.prog.underlying 5 = some (.int .u8) := by kernel_rfl
  have hall : ∀ i, i < 16 → ∃ z : UInt8, cs[i]? = some (u8 z) := fun i hi => by
    have he := hel i hi
    rw [cellsByte] at he
    have hxi : i < xs.length := by omega
    rw [List.getElem?_eq_getElem hxi] at he
    obtain ⟨z, hz, _, hwf⟩ := DataW.trod_int hu he
    have hci : i < cs.length := by omega
    have h1 : (cs.drop (i * 1)).take 1 = [cs[i]] := by rw [Nat.mul_one, List.drop_eq_getElem_cons hci, List.take_succ_cons, List.take_zero]
    rw [h1] at hz
    have hb : 0 ≤ z ∧ z < 256 := by
      have hr := (Lit.wf_int_iff .u8 z).1 hwf
      have e1 : IntKind.u8.min = 0 := rfl
      have e2 : IntKind.u8.max = 255 := rfl
      omega
    refine ⟨UInt8.ofNat z.toNat, ?_⟩
    rw [List.getElem?_eq_getElem hci]
    simp only [List.cons.injEq, and_true] at hz
    rw [hz]
    unfold u8
    rw [n8_of _ (by omega), Int.toNat_of_nonneg hb.1]
  obtain ⟨Z, hZ⟩ := choose_lt hall
  refine ⟨(List.range 16).map Z, by simp, List.ext_getElem? fun i => ?_⟩
  rcases Nat.lt_or_ge i 16 with hi | hi
  · rw [hZ i hi]; simp [hi]
  · rw [List.getElem?_eq_none (by omega), List.getElem?_eq_none (by simp; omega)]
theorem open_digs {fuel : Nat} {v : Value} {x : DataW H × List MemPlace} (h : DataW.trod enc Tryd.prog w 0 (fun _ => true) held fuel 22 [v] = some x) :
    ∃ (a : Option Addr) (cap : Nat) (ds : List (List UInt8)), v = .slice a ds.length cap ∧ ds.length ≤ cap ∧ All16 ds ∧ DigB w.heap.size w a ds := by
  rcases open_slice Tryd.underlying22 h with ⟨hc, hx⟩ | ⟨a, len, cap, m, n, D, Pl, hc, _, hle, _, hm, hx, hel⟩
  · obtain rfl : v = .slice none 0 0 := by simpa using hc
    exact ⟨none, 0, [], rfl, Nat.le_refl _, (fun d hd => by cases hd), (fun i hi => by cases hi)⟩
  · obtain rfl : v = .slice (some a) len cap := by simpa using hc
    rw [if_pos rfl] at hm
    subst hm
    have hall : ∀ i, i < len → ∃ d : List UInt8, d.length = 16 ∧ w.cells? 0 (a.add (i * 16)) 16 = some (d.map u8) := fun i hi => by
      obtain ⟨cs, hcs, ht⟩ := hel i (by omega)
      rw [cellsDig] at hcs
      obtain ⟨d, hd, rfl⟩ := open_dig ht
      exact ⟨d, hd, hcs⟩
    obtain ⟨Z, hZ⟩ := choose_lt hall
    refine ⟨some a, m, (List.range len).map Z, by simp, by simpa using hle, fun d hd => ?_, fun i hi => ?_⟩
    · obtain ⟨i, hi, rfl⟩ := List.mem_map.1 hd
      exact (hZ i (List.mem_range.1 hi)).1
    · have hi' : i < len := by simpa using hi
      obtain ⟨_, _, h00⟩ := World.cells?_some (hZ 0 (by omega)).2
      have h0l := (hZ 0 (by omega)).1
      have c0 := h00 0 (by omega)
      rw [List.getElem?_eq_getElem (by simp [h0l])] at c0
      obtain ⟨b, o, sp⟩ := a
      obtain rfl : sp = none := spot_of (by simpa [Addr.add] using c0)
      rw [add_at, add_at] at c0
      refine ⟨b, o, rfl, cell_lt c0, cell_lt c0, fun j u hu => ?_⟩
      have e : ((List.range len).map Z)[i] = Z i := by simp
      rw [e] at hu
      have hj : j < 16 := by have := (List.getElem?_eq_some_iff.1 hu).1; rw [List.length_map, (hZ i hi').1] at this; exact this
      obtain ⟨_, _, hi0⟩ := World.cells?_some (hZ i hi').2
      have cj := hi0 j hj
      rw [hu, add_at, add_at, Nat.mul_comm] at cj
      exact cj
end
end Go.Proofs.YtbjfkliijhnloaaDoor
