/- Digests compared. -/
import Derived.ChangeKeysEq
import Derived.Test.YtbjfkliijhnloaaDoorD5
namespace Go.Proofs.YtbjfkliijhnloaaDoor
open Go.RowKit
set_option linter.unusedVariables false

theorem part_u8 (x : List UInt8) (i : Nat) (hi : i < x.length) (w : World) : (part 5 (x.map u8).toArray (i * 1)).run Tryd.prog w = .ok (u8 x[i]) w := by
  have h : Tryd.prog.underlying 5 = some (.int .u8) := by kernel_rfl
  simp [part, isAgg, run_underlying h, hi]
theorem eq_u8 (d : Nat) (a b : UInt8) (w : World) : (Op.equalIn (d + 1) 5 (u8 a) (u8 b)).run Tryd.prog w = .ok (a == b) w := by
  have h : Tryd.prog.underlying 5 = some (.int .u8) := by kernel_rfl
  have e : (n8 a == n8 b) = (a == b) := by
    unfold n8
    by_cases hab : a = b
    · subst hab; simp
    · have : ¬ (a.toNat : Int) = (b.toNat : Int) := fun h => hab (UInt8.toNat_inj.1 (by omega))
      rw [beq_eq_false_iff_ne.2 hab, beq_eq_false_iff_ne.2 this]
  simp only [Op.equalIn, u8, Sem.run_bind, run_underlying h, Result.andThen_ok]
  simp [e]
theorem eqItems_u8 (x y : List UInt8) (hx : x.length = 16) (hy : y.length = 16) (d : Nat) (w : World) : ∀ (is : List Nat), (∀ i ∈ is, i < 16) →
    (Op.eqItems (d + 1) 5 1 (x.map u8).toArray (y.map u8).toArray is).run Tryd.prog w = .ok (is.all fun i => x[i]? == y[i]?) w
  | [], _ => by simp [Op.eqItems]
  | i :: is, h => by
    have hi : i < 16 := h i (by simp)
    have ih := eqItems_u8 x y hx hy d w is (fun j hj => h j (by simp [hj]))
    have e : (x[i]? == y[i]?) = (x[i] == y[i]) := by simp [hx, hy, hi]
    simp only [Op.eqItems, Sem.run_bind, part_u8 x i (by omega), part_u8 y i (by omega), eq_u8, Result.andThen_ok, List.all_cons, e]
    cases (x[i] == y[i])
    · simp
    · simpa using ih
theorem eqIn_dig (x y : List UInt8) (hx : x.length = 16) (hy : y.length = 16) (w : World) : (Op.equalIn 10000 28 (.agg (x.map u8).toArray) (.agg (y.map u8).toArray)).run Tryd.prog w = .ok (decide (x = y)) w := by
  have h : Tryd.prog.underlying 28 = some (.array 16 5) := by kernel_rfl
  obtain ⟨i, hi, -, -, -⟩ := infoByte'
  have hc : Tryd.prog.cellsOf 5 = 1 := by kernel_rfl
  have e : ((List.range 16).all fun i => x[i]? == y[i]?) = decide (x = y) := by
    by_cases hxy : x = y
    · subst hxy; simp
    · rw [decide_eq_false hxy]
      rw [Bool.eq_false_iff]
      intro ha
      refine hxy (List.ext_getElem? fun j => ?_)
      rcases Nat.lt_or_ge j 16 with hj | hj
      · have := List.all_eq_true.1 ha j (by simpa using hj)
        simpa using this
      · rw [List.getElem?_eq_none (by omega), List.getElem?_eq_none (by omega)]
  rw [show (10000 : Nat) = 9998 + 1 + 1 from rfl, run_equalIn_array w (9998 + 1) _ _ h hi, hc, eqItems_u8 x y hx hy 9998 w _ (fun j hj => by simpa using hj), e]

/-! ### A row of truth values of one's own -/
def OwnBl (base : Nat) (w : World) (v : Value) (bs : List Bool) : Prop := w.ownsRow base 4 1 v bs.length (bs.map Value.bool)
theorem infoBool : (Tryd.prog.info? 4).map (fun i => (i.zero, i.size, i.bytes)) = some (some (.bool false), 1, 1) := by kernel_rfl
theorem infoBool' : ∃ i, Tryd.prog.info? 4 = some i ∧ i.zero = some (.bool false) ∧ i.size = 1 ∧ i.bytes = 1 := by
  have h := infoBool
  cases hi : Tryd.prog.info? 4 with
  | none => rw [hi] at h; cases h
  | some i =>
    rw [hi] at h
    simp only [Option.map_some, Option.some.injEq, Prod.mk.injEq] at h
    exact ⟨i, rfl, h.1, h.2.1, h.2.2⟩
theorem OwnBl.nil (base : Nat) (w : World) : OwnBl base w (.slice none 0 0) [] := ⟨rfl, Or.inl ⟨rfl, rfl⟩⟩
theorem OwnBl.ownBlock {base : Nat} {w : World} {v : Value} {ps : List Bool} (h : OwnBl base w v ps) : ∀ k, v.ownBlock = some k → base ≤ k := by
  intro k hk
  rcases h.2 with ⟨rfl, -⟩ | ⟨g, cap, cur, rfl, hg, -⟩
  · cases hk
  · simp only [Value.ownBlock, Option.some.injEq] at hk; omega
theorem OwnBl.keep {base : Nat} {w w' : World} {v : Value} {ps : List Bool} (h : OwnBl base w v ps) (k : Below w.heap.size w w') : OwnBl base w' v ps := by
  refine ⟨h.1, ?_⟩
  rcases h.2 with hn | ⟨g, cap, cur, hv, hb, hh, r⟩
  · exact .inl hn
  · exact .inr ⟨g, cap, cur, hv, hb, by rw [k.block g (Array.getElem?_eq_some_iff.1 hh).1]; exact hh, r⟩
theorem OwnBl.row {base : Nat} {w : World} {v : Value} {bs : List Bool} (h : OwnBl base w v bs) : ∃ a c, v = .slice a bs.length c ∧ RowAt w a bs.length (fun i => .bool (bs.getD i false)) := by
  rcases h.2 with ⟨rfl, hn⟩ | ⟨g, cap, cur, rfl, hb, hh, hle, _, hsz, htk⟩
  · exact ⟨none, 0, by rw [hn], fun i hi => by omega⟩
  · refine ⟨_, _, rfl, fun i hi => ⟨g, 0, rfl, (Array.getElem?_eq_some_iff.1 hh).1, ?_⟩⟩
    have e : cur[i]? = some (.bool bs[i]) := by
      have h1 : (cur.toList.take (bs.length * 1))[i]? = some (.bool bs[i]) := by rw [htk]; simp [hi]
      rw [List.getElem?_take_of_lt (by omega)] at h1
      simpa using h1
    simp [World.cell?, hh, e, hi]
theorem wp_appB {w : World} {ops : Array Oper} {rest : List Oper} {o : Oper} {a : Act} {Q : Exit → Act → World → Prop} (hgd : o.guard = none) (s x : Operand)
    (ho : o.op = .call { callee := .builtin .append, args := #[s, x], argTypes := #[68, 68] })
    (base : Nat) (v : Value) (bs : List Bool) (hs : a.eval s = v) (hown : OwnBl base w v bs) (B c : Nat) (y : Bool) (hx : a.eval x = .slice (some ⟨B, 0, none⟩) 1 c) (hy : w.cell? ⟨B, 0, none⟩ = some (.bool y))
    (hlen : bs.length ≤ 1000000) (hbase : base ≤ w.heap.size)
    (h : ∀ v' w', OwnBl base w' v' (bs ++ [y]) → Below base w w' → wpList Tryd.prog ops Q rest (a.put o.dst v') w') : wpList Tryd.prog ops Q (o :: rest) a w := by
  obtain ⟨i, hi, hz, hsz, hby⟩ := infoBool'
  refine wpList_append_own w hgd s x 68 ho base 4 i (.bool false) 1 1 Tryd.underlying68 hi hz hsz hby rfl (by decide) v bs.length (bs.map Value.bool) hs hown ⟨B, 0, none⟩ 1 c [.bool y] hx rfl
    (fun j u hu => by
      have hj : j < 1 := (List.getElem?_eq_some_iff.1 hu).1
      obtain rfl : j = 0 := by omega
      have e : u = .bool y := by simpa using hu.symm
      rw [Addr.add_mid, e]; exact hy) (fun u hu => by simp at hu; subst hu; rfl) (by simp only [maxLen]; omega) (by omega) hbase (fun v' w' ho' hg _ => ?_)
  refine h v' w' ?_ ((Below.refl base w).grown hg hbase hown.ownBlock)
  unfold OwnBl
  rw [List.length_append, List.map_append]
  exact ho'
end Go.Proofs.YtbjfkliijhnloaaDoor
