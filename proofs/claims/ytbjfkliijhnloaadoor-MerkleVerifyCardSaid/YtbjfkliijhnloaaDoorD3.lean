/- merkle's Prove walked. -/
import Derived.Deep.AppendLies
import Derived.Test.YtbjfkliijhnloaaDoorD2
namespace Go.Proofs.YtbjfkliijhnloaaDoor
open Go.RowKit
set_option linter.unusedVariables false

/-! ### Digests in a row of one's own -/
def flat (ps : List (List UInt8)) : List Value := ps.flatMap fun d => d.map u8
def OwnD (base : Nat) (w : World) (v : Value) (ps : List (List UInt8)) : Prop := w.ownsRow base 28 16 v ps.length (flat ps)
theorem infoDig : (Tryd.prog.info? 28).map (fun i => (i.zero, i.size, i.bytes)) = some (some (.agg (Array.replicate 16 (.int .u8 0))), 16, 16) := by kernel_rfl
theorem infoDig' : ∃ i, Tryd.prog.info? 28 = some i ∧ i.zero = some (.agg (Array.replicate 16 (.int .u8 0))) ∧ i.size = 16 ∧ i.bytes = 16 := by
  have h := infoDig
  cases hi : Tryd.prog.info? 28 with
  | none => rw [hi] at h; cases h
  | some i =>
    rw [hi] at h
    simp only [Option.map_some, Option.some.injEq, Prod.mk.injEq] at h
    exact ⟨i, rfl, h.1, h.2.1, h.2.2⟩
theorem flat_snoc (ps : List (List UInt8)) (d : List UInt8) : flat (ps ++ [d]) = flat ps ++ d.map u8 := by simp [flat]
theorem OwnD.nil (base : Nat) (w : World) : OwnD base w (.slice none 0 0) [] := ⟨rfl, Or.inl ⟨rfl, rfl⟩⟩
theorem OwnD.ownBlock {base : Nat} {w : World} {v : Value} {ps : List (List UInt8)} (h : OwnD base w v ps) : ∀ k, v.ownBlock = some k → base ≤ k := by
  intro k hk
  rcases h.2 with ⟨rfl, -⟩ | ⟨g, cap, cur, rfl, hg, -⟩
  · cases hk
  · simp only [Value.ownBlock, Option.some.injEq] at hk; omega
theorem OwnD.keep {base : Nat} {w w' : World} {v : Value} {ps : List (List UInt8)} (h : OwnD base w v ps) (k : Below w.heap.size w w') : OwnD base w' v ps := by
  refine ⟨h.1, ?_⟩
  rcases h.2 with hn | ⟨g, cap, cur, hv, hb, hh, r⟩
  · exact .inl hn
  · exact .inr ⟨g, cap, cur, hv, hb, by rw [k.block g (Array.getElem?_eq_some_iff.1 hh).1]; exact hh, r⟩
theorem OwnD.set {base : Nat} {w : World} {v : Value} {ps : List (List UInt8)} (h : OwnD base w v ps) (b i : Nat) (u : Value) (hb : b < base) : OwnD base (w.setCell ⟨b, i, none⟩ u) v ps := by
  refine ⟨h.1, ?_⟩
  rcases h.2 with hn | ⟨g, cap, cur, hv, hg, hh, r⟩
  · exact .inl hn
  · exact .inr ⟨g, cap, cur, hv, hg, by rw [Below.heap_setCell _ _ _ _ (show g ≠ (⟨b, i, none⟩ : Addr).block by show g ≠ b; omega)]; exact hh, r⟩
theorem OwnD.form {base : Nat} {w : World} {v : Value} {ps : List (List UInt8)} (h : OwnD base w v ps) : ∃ a c, v = .slice a ps.length c ∧ (a = none → c = 0) ∧ ps.length ≤ c := by
  rcases h.2 with ⟨rfl, hn⟩ | ⟨g, cap, cur, rfl, hb, hh, hle, _⟩
  · exact ⟨none, 0, by rw [hn], fun _ => rfl, by omega⟩
  · exact ⟨_, _, rfl, (fun e => by cases e), hle⟩
theorem flat_length (ps : List (List UInt8)) (h : All16 ps) : (flat ps).length = 16 * ps.length := by
  induction ps with
  | nil => rfl
  | cons d ps ih =>
    have h1 := h d (by simp)
    have h2 := ih (fun x hx => h x (by simp [hx]))
    simp [flat] at h2 ⊢
    omega
theorem flat_get (ps : List (List UInt8)) (h : All16 ps) (i j : Nat) (hi : i < ps.length) (hj : j < 16) : (flat ps)[16 * i + j]? = (ps[i].map u8)[j]? := by
  induction ps generalizing i with
  | nil => cases hi
  | cons d ps ih =>
    have h1 := h d (by simp)
    have e : flat (d :: ps) = d.map u8 ++ flat ps := by simp [flat]
    rw [e]
    cases i with
    | zero => rw [List.getElem?_append_left (by simp; omega)]; simp
    | succ i =>
      rw [List.getElem?_append_right (by simp; omega)]
      have := ih (fun x hx => h x (by simp [hx])) i (by simpa using hi)
      rw [show 16 * (i + 1) + j - (d.map u8).length = 16 * i + j by simp; omega, this]
      simp
theorem OwnD.digB {base : Nat} {w : World} {v : Value} {ps : List (List UInt8)} (h : OwnD base w v ps) (h16 : All16 ps) : ∃ a c, v = .slice a ps.length c ∧ ps.length ≤ c ∧ (a = none → c = 0) ∧ DigB w.heap.size w a ps := by
  rcases h.2 with ⟨rfl, hn⟩ | ⟨g, cap, cur, rfl, hb, hh, hle, _, hsz, htk⟩
  · exact ⟨none, 0, by rw [hn], by omega, fun _ => rfl, fun i hi => by omega⟩
  · have hg : g < w.heap.size := (Array.getElem?_eq_some_iff.1 hh).1
    refine ⟨_, _, rfl, hle, (fun e => by cases e), fun i hi => ⟨g, 0, rfl, hg, hg, fun j u hu => ?_⟩⟩
    have hj : j < 16 := by
      have := (List.getElem?_eq_some_iff.1 hu).1
      rw [List.length_map, h16 _ (List.getElem_mem hi)] at this; exact this
    have h2 := flat_get ps h16 i j hi hj
    rw [hu, ← htk, List.getElem?_take_of_lt (by omega)] at h2
    simp only [World.cell?, hh, Nat.zero_add]
    simpa using h2

theorem step_appD {w : World} {ops : Array Oper} {o : Oper} {a : Act} {K : Act → World → Prop} {Q : Exit → Act → World → Prop} {E : Prop} (hgd : o.guard = none) (s x : Operand)
    (ho : o.op = .call { callee := .builtin .append, args := #[s, x], argTypes := #[22, 22] })
    (base : Nat) (v : Value) (ps : List (List UInt8)) (hs : a.eval s = v) (hown : OwnD base w v ps) (B : Nat) (c : Nat) (d : List UInt8) (hx : a.eval x = .slice (some ⟨B, 0, none⟩) 1 c) (hd : d.length = 16) (hnews : w.rangeAt B 0 (d.map u8))
    (hlen : ps.length ≤ 1000000) (hbase : base ≤ w.heap.size)
    (h : ∀ g cap w', OwnD base w' (.slice (some ⟨g, 0, none⟩) (ps.length + 1) cap) (ps ++ [d]) → Below base w w' → K (a.put o.dst (.slice (some ⟨g, 0, none⟩) (ps.length + 1) cap)) w') :
    if Region.wanted o (yielded ops a.tmps) = true then Oper.wp Tryd.prog o a w K Q else E := by
  obtain ⟨i, hi, hz, hsz, hby⟩ := infoDig'
  refine step_append_lies w hgd s x 22 ho base 28 i (.agg (Array.replicate 16 (.int .u8 0))) 16 16 Tryd.underlying22 hi hz hsz hby rfl (by decide) v ps.length (flat ps) hs hown ⟨B, 0, none⟩ 1 c (d.map u8) hx (by simp [hd])
    (fun j u hu => by rw [Addr.add_mid]; exact hnews j u hu) (fun u hu => by obtain ⟨y, _, rfl⟩ := List.mem_map.1 hu; rfl) (by omega) (by simp only [maxLen]; omega) (by omega) hbase _ rfl (fun g cap w' ho' hg _ _ => ?_)
  refine h g cap w' ?_ ((Below.refl base w).grown hg hbase hown.ownBlock)
  unfold OwnD
  rw [List.length_append, flat_snoc]
  exact ho'

/-! ### The proof -/
def proveN : Nat → List (List UInt8) → Nat → List (List UInt8)
  | 0, _, _ => []
  | f + 1, ds, i => if ds.length ≤ 1 then [] else if i < splitF ds.length then proveN f (ds.take (splitF ds.length)) i ++ [rootF (ds.drop (splitF ds.length))] else proveN f (ds.drop (splitF ds.length)) (i - splitF ds.length) ++ [rootF (ds.take (splitF ds.length))]
def proveF (ds : List (List UInt8)) (i : Nat) : List (List UInt8) := proveN (ds.length + 1) ds i
theorem proveN_stable : ∀ (f g : Nat) (ds : List (List UInt8)) (i : Nat), ds.length < f → ds.length < g → proveN f ds i = proveN g ds i
  | 0, _, _, _, h, _ => by omega
  | f + 1, 0, _, _, _, h => by omega
  | f + 1, g + 1, ds, i, hf, hg => by
    unfold proveN
    by_cases h0 : ds.length ≤ 1
    · rw [if_pos h0, if_pos h0]
    · have hs := splitF_spec (show 1 < ds.length by omega)
      rw [if_neg h0, if_neg h0, proveN_stable f g _ _ (by rw [List.length_take]; omega) (by rw [List.length_take]; omega), proveN_stable f g _ _ (by rw [List.length_drop]; omega) (by rw [List.length_drop]; omega)]
theorem proveF_one {ds : List (List UInt8)} (h : ds.length ≤ 1) (i : Nat) : proveF ds i = [] := by unfold proveF proveN; rw [if_pos h]
theorem proveF_left {ds : List (List UInt8)} (h : 1 < ds.length) {i : Nat} (hi : i < splitF ds.length) : proveF ds i = proveF (ds.take (splitF ds.length)) i ++ [rootF (ds.drop (splitF ds.length))] := by
  have hs := splitF_spec h
  unfold proveF
  rw [proveN, if_neg (by omega), if_pos hi, proveN_stable ds.length _ (ds.take (splitF ds.length)) i (by rw [List.length_take]; omega) (Nat.lt_succ_self _)]
theorem proveF_right {ds : List (List UInt8)} (h : 1 < ds.length) {i : Nat} (hi : ¬ i < splitF ds.length) : proveF ds i = proveF (ds.drop (splitF ds.length)) (i - splitF ds.length) ++ [rootF (ds.take (splitF ds.length))] := by
  have hs := splitF_spec h
  unfold proveF
  rw [proveN, if_neg (by omega), if_neg hi, proveN_stable ds.length _ (ds.drop (splitF ds.length)) _ (by rw [List.length_drop]; omega) (Nat.lt_succ_self _)]
theorem proveF_all16 (f : Nat) : ∀ (ds : List (List UInt8)) (i : Nat), ds.length < f → All16 (proveF ds i) ∧ (proveF ds i).length ≤ ds.length := by
  induction f with
  | zero => intro ds i h; omega
  | succ f ih =>
    intro ds i h
    by_cases h1 : ds.length ≤ 1
    · rw [proveF_one h1]; exact ⟨fun d hd => (by cases hd), by simp⟩
    · have hs := splitF_spec (show 1 < ds.length by omega)
      by_cases hi : i < splitF ds.length
      · rw [proveF_left (by omega) hi]
        obtain ⟨a, b⟩ := ih (ds.take (splitF ds.length)) i (by rw [List.length_take]; omega)
        rw [List.length_take] at b
        refine ⟨fun d hd => ?_, by simp; omega⟩
        rcases List.mem_append.1 hd with hd | hd
        · exact a d hd
        · rw [List.mem_singleton.1 hd]; exact rootF_length _
      · rw [proveF_right (by omega) hi]
        obtain ⟨a, b⟩ := ih (ds.drop (splitF ds.length)) (i - splitF ds.length) (by rw [List.length_drop]; omega)
        rw [List.length_drop] at b
        refine ⟨fun d hd => ?_, by simp; omega⟩
        rcases List.mem_append.1 hd with hd | hd
        · exact a d hd
        · rw [List.mem_singleton.1 hd]; exact rootF_length _

/-- While Prove goes down: N is the block of the variable proof, N + 1 that of walk. -/
structure PS (N : Nat) (w0 w : World) (ps : List (List UInt8)) : Prop where
  below : Below N w0 w
  own : ∃ a c, w.cell? ⟨N, 0, none⟩ = some (.slice a ps.length c) ∧ OwnD (N + 2) w (.slice a ps.length c) ps
  no : w.frozen? ⟨N, 0, none⟩ = false
  fn : w.cell? ⟨N + 1, 0, none⟩ = some (.func (.func 40) #[] #[.pointer (some ⟨N + 1, 0, none⟩), .pointer (some ⟨N, 0, none⟩)])
  size : N + 2 ≤ w.heap.size
theorem PS.keep {N : Nat} {w0 w w' : World} {ps : List (List UInt8)} (h : PS N w0 w ps) (k : Below w.heap.size w w') : PS N w0 w' ps := by
  have hs := h.size
  obtain ⟨a, c, hc, ho⟩ := h.own
  refine ⟨h.below.trans (k.mono (by omega)), ⟨a, c, by rw [k.cell (p := ⟨N, 0, none⟩) (show N < _ by omega)]; exact hc, ho.keep k⟩, by rw [k.frozen (p := ⟨N, 0, none⟩) (show N < _ by omega)]; exact h.no, by rw [k.cell (p := ⟨N + 1, 0, none⟩) (show N + 1 < _ by omega)]; exact h.fn, Nat.le_trans hs k.size⟩
/-- The variable proof gets a longer list. -/
theorem PS.set {N : Nat} {w0 w w4 : World} {ps qs : List (List UInt8)} (h : PS N w0 w ps) (k : Below (N + 2) w w4) (a : Option Addr) (c : Nat) (ho : OwnD (N + 2) w4 (.slice a qs.length c) qs) : PS N w0 (w4.setCell ⟨N, 0, none⟩ (.slice a qs.length c)) qs := by
  obtain ⟨a', c', hc, -⟩ := h.own
  have h4 : w4.cell? ⟨N, 0, none⟩ = some (.slice a' ps.length c') := by rw [k.cell (p := ⟨N, 0, none⟩) (show N < _ by omega)]; exact hc
  have h5 : w4.frozen? ⟨N, 0, none⟩ = false := by rw [k.frozen (p := ⟨N, 0, none⟩) (show N < _ by omega)]; exact h.no
  have h6 : w4.cell? ⟨N + 1, 0, none⟩ = some (.func (.func 40) #[] #[.pointer (some ⟨N + 1, 0, none⟩), .pointer (some ⟨N, 0, none⟩)]) := by rw [k.cell (p := ⟨N + 1, 0, none⟩) (show N + 1 < _ by omega)]; exact h.fn
  refine ⟨(h.below.trans (k.mono (by omega))).setCell (p := ⟨N, 0, none⟩) (Nat.le_refl _) _, ⟨a, c, World.cell?_setCell_same _ _ _ h4, ho.set _ _ _ (by omega)⟩, by rw [World.frozen?_setCell]; exact h5, by rw [setCell_other (by omega)]; exact h6, by have := h.size; have := k.size; simp; omega⟩
end Go.Proofs.YtbjfkliijhnloaaDoor
