/- Appending many digests. -/
import Derived.Test.YtbjfkliijhnloaaDoorS0
import Derived.Laws.AppendOwnNone
namespace Go.Proofs.YtbjfkliijhnloaaDoor
open Go.RowKit
set_option linter.unusedVariables false

theorem digB_news {n₀ : Nat} {w : World} {ad : Addr} {qs : List (List UInt8)} (h : DigB n₀ w (some ad) qs) (h16 : All16 qs) : ∀ j u, (flat qs)[j]? = some u → w.cell? (ad.add j) = some u := by
  intro j u hu
  have hj : j < 16 * qs.length := by have := (List.getElem?_eq_some_iff.1 hu).1; rwa [flat_length qs h16] at this
  have hi : j / 16 < qs.length := by omega
  obtain ⟨b, off, e, -, -, hr⟩ := h (j / 16) hi
  cases e
  have hg := flat_get qs h16 (j / 16) (j % 16) hi (Nat.mod_lt _ (by omega))
  rw [show 16 * (j / 16) + j % 16 = j by omega, hu] at hg
  have := hr (j % 16) u hg.symm
  rw [Addr.add_mid]
  rw [show off + 16 * (j / 16) + j % 16 = off + j by omega] at this
  exact this
theorem flat_app (ps qs : List (List UInt8)) : flat (ps ++ qs) = flat ps ++ flat qs := by simp [flat]
theorem flat_one (qs : List (List UInt8)) : ∀ u ∈ flat qs, u.oneCell' = true := by
  intro u hu
  simp only [flat, List.mem_flatMap, List.mem_map] at hu
  obtain ⟨d, _, y, _, rfl⟩ := hu; rfl

theorem ow_appDs {w : World} {o : Oper} {a : Act} {K : Act → World → Prop} {Q : Exit → Act → World → Prop} (s x : Operand)
    (ho : o.op = .call { callee := .builtin .append, args := #[s, x], argTypes := #[22, 22] })
    (base : Nat) (v : Value) (ps : List (List UInt8)) (hs : a.eval s = v) (hown : OwnD base w v ps) (ad : Option Addr) (m c : Nat) (qs : List (List UInt8)) (hx : a.eval x = .slice ad m c) (hm : m = qs.length) (hc : ad = none → c = 0) (h16 : All16 qs) (n₀ : Nat) (hnews : DigB n₀ w ad qs)
    (hlen : ps.length + qs.length ≤ 1000000) (hbase : base ≤ w.heap.size)
    (h : ∀ v' w', OwnD base w' v' (ps ++ qs) → Below base w w' → w.grownBy w' v.ownBlock → K (a.put o.dst v') w') :
    Oper.wp Tryd.prog o a w K Q := by
  obtain ⟨i, hi, hz, hsz, hby⟩ := infoDig'
  subst hm
  cases ad with
  | none =>
    have h0 : qs = [] := by
      cases qs with
      | nil => rfl
      | cons y ys => obtain ⟨_, _, e, _⟩ := hnews 0 (by simp); cases e
    subst h0
    obtain rfl := hc rfl
    have hrun := run_append_owned_none (P := Tryd.prog) (w := w) base 22 o.type 28 i 16 Tryd.underlying22 hi v ps.length (flat ps) hown
    have hx' : a.eval x = .slice none 0 0 := hx
    unfold Oper.wp
    simp [execOp, ho, resolve, invoke, builtin, hs, hx', hrun, Result.andThen]
    refine h v w ?_ (Below.refl _ _) ⟨rfl, rfl, rfl, Nat.le_refl _, fun _ _ _ => rfl⟩
    simpa using hown
  | some ad =>
    refine wp_append_own w s x 22 ho base 28 i (.agg (Array.replicate 16 (.int .u8 0))) 16 16 Tryd.underlying22 hi hz hsz hby rfl (by decide) v ps.length (flat ps) hs hown ad qs.length c (flat qs) hx (by rw [flat_length qs h16]; omega)
      (digB_news hnews h16) (flat_one qs) (by simp only [maxLen]; omega) (by omega) hbase (fun v' w' ho' hg _ => ?_)
    refine h v' w' ?_ ((Below.refl base w).grown hg hbase hown.ownBlock) hg
    unfold OwnD
    rw [List.length_append, flat_app]
    exact ho'
theorem ow_appD {w : World} {o : Oper} {a : Act} {K : Act → World → Prop} {Q : Exit → Act → World → Prop} (s x : Operand)
    (ho : o.op = .call { callee := .builtin .append, args := #[s, x], argTypes := #[22, 22] })
    (base : Nat) (v : Value) (ps : List (List UInt8)) (hs : a.eval s = v) (hown : OwnD base w v ps) (B : Nat) (c : Nat) (d : List UInt8) (hx : a.eval x = .slice (some ⟨B, 0, none⟩) 1 c) (hd : d.length = 16) (hnews : w.rangeAt B 0 (d.map u8))
    (hlen : ps.length ≤ 1000000) (hbase : base ≤ w.heap.size)
    (h : ∀ g cap w', OwnD base w' (.slice (some ⟨g, 0, none⟩) (ps.length + 1) cap) (ps ++ [d]) → Below base w w' → K (a.put o.dst (.slice (some ⟨g, 0, none⟩) (ps.length + 1) cap)) w') :
    Oper.wp Tryd.prog o a w K Q := by
  obtain ⟨i, hi, hz, hsz, hby⟩ := infoDig'
  refine wp_append_lies w s x 22 ho base 28 i (.agg (Array.replicate 16 (.int .u8 0))) 16 16 Tryd.underlying22 hi hz hsz hby rfl (by decide) v ps.length (flat ps) hs hown ⟨B, 0, none⟩ 1 c (d.map u8) hx (by simp [hd])
    (fun j u hu => by rw [Addr.add_mid]; exact hnews j u hu) (fun u hu => by obtain ⟨y, _, rfl⟩ := List.mem_map.1 hu; rfl) (by omega) (by simp only [maxLen]; omega) (by omega) hbase _ rfl (fun g cap w' ho' hg _ _ => ?_)
  refine h g cap w' ?_ ((Below.refl base w).grown hg hbase hown.ownBlock)
  unfold OwnD
  rw [List.length_append, flat_snoc]
  exact ho'
theorem OwnD.empty (base : Nat) (W : World) (hb : base ≤ W.heap.size) : OwnD base (W.alloc (.cells #[] 28)) (.slice (some ⟨W.heap.size, 0, none⟩) 0 0) [] :=
  ⟨rfl, Or.inr ⟨W.heap.size, 0, #[], rfl, hb, by show (W.heap.push _)[W.heap.size]? = _; simp, Nat.le_refl _, by simp [maxLen], rfl, rfl⟩⟩
theorem keepE {base p : Nat} {w w' : World} {v : Value} {ps : List (List UInt8)} (h : OwnD base w v ps ∧ p < w.heap.size) (hb : Below w.heap.size w w') : OwnD base w' v ps ∧ p < w'.heap.size := ⟨h.1.keep hb, Nat.lt_of_lt_of_le h.2 hb.size⟩
theorem keepOD {base : Nat} {w w' : World} {v : Value} {ps : List (List UInt8)} (h : OwnD base w v ps) (hb : Below w.heap.size w w') : OwnD base w' v ps := h.keep hb
theorem keepR2 {w w' : World} {g : Nat} {X : List Value} (h : w.rangeAt g 0 X ∧ g < w.heap.size) (hb : Below w.heap.size w w') : w'.rangeAt g 0 X ∧ g < w'.heap.size := ⟨range_keep h.1 hb h.2, Nat.lt_of_lt_of_le h.2 hb.size⟩
theorem keepG {w w' : World} {g p : Nat} {X : List Value} (h : w.rangeAt g 0 X ∧ g < w.heap.size) (hg : w.grownBy w' (some p)) (hne : g ≠ p) : w'.rangeAt g 0 X ∧ g < w'.heap.size :=
  ⟨fun j v hv => by rw [hg.cell_far ⟨g, 0 + j, none⟩ h.2 (fun e => hne (Option.some.inj e))]; exact h.1 j v hv, Nat.lt_of_lt_of_le h.2 hg.size⟩
theorem Sx.step {B0 : Nat} {W1 W W' : World} {L : List (Nat × Nat × List UInt8)} (h : Sx B0 W1 L W) (hb : Below B0 W W') (hL : ∀ p ∈ L, p.1 < B0) : Sx B0 W1 L W' :=
  ⟨h.below.trans hb, fun k hk => ⟨range_keep (h.rd k hk).1 hb (hL _ (List.getElem_mem hk)), Nat.lt_of_lt_of_le (h.rd k hk).2 hb.size⟩⟩
end Go.Proofs.YtbjfkliijhnloaaDoor
