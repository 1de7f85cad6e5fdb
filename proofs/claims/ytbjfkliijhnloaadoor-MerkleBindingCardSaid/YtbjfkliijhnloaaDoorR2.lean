/- The reference's compression function: bootchainref02's compress. -/
import Derived.Test.YtbjfkliijhnloaaDoorR1
namespace Go.Proofs.YtbjfkliijhnloaaDoor
open Go.RowKit
set_option linter.unusedVariables false

def H8.list (s : H8) : List (BitVec 32) := [s.a, s.b, s.c, s.d, s.e, s.f, s.g, s.h]
theorem make64 (W : World) : (Instr.makeSlice 97 (.int .i64 64) (.int .i64 64)).run Tryd.prog W = .ok (.slice (some ⟨W.heap.size, 0, none⟩) 64 64) (W.alloc (.cells (madeCells #[.int .u32 0] 64) 89)) :=
  Go.run_make_row' 97 89 (.int .u32 0) 4 Tryd.underlying97 infoWord rfl .i64 .i64 64 (by decide) (by decide) W
structure Lp (w : World) (bs : List UInt8) (k : Nat) (W : World) : Prop where
  below : Below w.heap.size w W
  ws : Words W w.heap.size 64 (fun j => (sched bs k).getD j 0)
theorem Lp.start (w : World) (bs : List UInt8) : Lp w bs 0 (w.alloc (.cells (madeCells #[.int .u32 0] 64) 89)) :=
  ⟨below_alloc w _, words_new w _ _ 64 _ (fun j hj => by
    have : madeCells #[.int .u32 0] 64 = Array.replicate 64 (.int .u32 0) := by kernel_rfl
    rw [this]; simp [hj, sched]; rfl)⟩
theorem Lp.keep {w W W' : World} {bs : List UInt8} {k : Nat} (h : Lp w bs k W) (hb : Below W.heap.size W W') : Lp w bs k W' :=
  ⟨h.below.trans (hb.mono h.below.size), h.ws.keep hb⟩
theorem Lp.drewn {w W : World} {bs : List UInt8} {k : Nat} (h : Lp w bs k W) : Lp w bs k W.drew := h.keep ((Below.refl _ _).drew)
theorem Lp.step {w W : World} {bs : List UInt8} {k : Nat} {x : BitVec 32} (h : Lp w bs k W) (hk : k < 64) (hx : word bs (sched bs k) k = x) : Lp w bs (k + 1) (W.setCell ⟨w.heap.size, k, none⟩ (.int .u32 (n32 x))) := by
  refine ⟨h.below.setCell (p := ⟨w.heap.size, k, none⟩) (Nat.le_refl _) _, h.ws.set hk (by rw [sched_new, hx]) (fun j hj hne => ?_)⟩
  rcases Nat.lt_or_ge j k with h | h
  · rw [sched_get _ _ _ h]
  · rw [sched_past _ _ _ h, sched_past _ _ _ (by omega)]
theorem n8s (x : UInt8) (m : Nat) (h : m ≤ 24) : n8 x * 2 ^ m = n32 (w8 x <<< m) := by
  have h8 := n8_bd x
  rw [← shl32, ← n8_w8]
  have h1 : (2 : Int) ^ m ≤ 2 ^ 24 := by exact_mod_cast Nat.pow_le_pow_right (by omega : 0 < 2) h
  have h2 : (0 : Int) ≤ 2 ^ m := by exact_mod_cast Nat.zero_le (2 ^ m)
  have h3 : n8 x * 2 ^ m ≤ 255 * 2 ^ 24 := Int.mul_le_mul (by omega) h1 h2 (by omega)
  have h4 : (0 : Int) ≤ n8 x * 2 ^ m := Int.mul_nonneg h8.1 h2
  omega
theorem be4 (x0 x1 x2 x3 : UInt8) : bits BinOp.or IntKind.u32 (bits BinOp.or IntKind.u32 (bits BinOp.or IntKind.u32 (n8 x0 * (16777216 : Int)) (n8 x1 * (65536 : Int))) (n8 x2 * (256 : Int))) (n8 x3) = n32 (loadF [x0, x1, x2, x3]) := by
  have e0 : n8 x0 * (16777216 : Int) = n32 (w8 x0 <<< 24) := n8s x0 24 (by omega)
  have e1 : n8 x1 * (65536 : Int) = n32 (w8 x1 <<< 16) := n8s x1 16 (by omega)
  have e2 : n8 x2 * (256 : Int) = n32 (w8 x2 <<< 8) := n8s x2 8 (by omega)
  rw [e0, e1, e2, n8_w8 x3, or32, or32, or32]
  congr 1
  simp only [loadF, List.foldl_cons, List.foldl_nil, BitVec.shiftLeft_or_distrib, ← BitVec.shiftLeft_add]
  simp
theorem four (bs : List UInt8) (k : Nat) (h : 4 * k + 3 < bs.length) : (bs.drop (4 * k)).take 4 = [bs[4 * k + 0], bs[4 * k + 1], bs[4 * k + 2], bs[4 * k + 3]] := by
  rw [List.drop_eq_getElem_cons (by omega), List.drop_eq_getElem_cons (by omega), List.drop_eq_getElem_cons (by omega), List.drop_eq_getElem_cons h]
  rfl
theorem rq {x : BitVec 32} {r : Nat} {i : Int} (w : World) (n : Nat) (h : i = (r : Int)) (hr : r < 32) (hr0 : 0 < r) :
    Calls Tryd.prog 77 #[.int .u32 (n32 x), .int .i64 i] (w.drewN n) fun e w'' => e = .returned (.int .u32 (n32 (rr x r))) ∧ ∃ m, w'' = w.drewN m := by
  subst h; exact Calls.quiet_of (rot1_any x r _ hr hr0)
theorem rrs2 (x : BitVec 32) (a b : Nat) : rrs x [a, b] = rr x a ^^^ rr x b := by simp [rrs]
theorem rrs3 (x : BitVec 32) (a b c : Nat) : rrs x [a, b, c] = rr x a ^^^ rr x b ^^^ rr x c := by simp [rrs]
theorem keep2 {W : World} {B k i j : Nat} {x y v : Value} (h : W.cell? ⟨B, i, none⟩ = some x ∧ W.cell? ⟨B, j, none⟩ = some y) (hi : k ≠ i) (hj : k ≠ j) :
    (W.setCell ⟨B, k, none⟩ v).cell? ⟨B, i, none⟩ = some x ∧ (W.setCell ⟨B, k, none⟩ v).cell? ⟨B, j, none⟩ = some y := by
  rw [World.cell?_setCell_other _ _ _ _ (by simp), World.cell?_setCell_other _ _ _ _ (by simp)]; exact h
theorem seven {W : World} {b o : Nat} {s : H8} (h : Row32 W (some ⟨b, o, none⟩) s.list) :
    W.cell? ⟨b, o, none⟩ = some (.int .u32 (n32 s.a)) ∧ W.cell? ⟨b, o + 1, none⟩ = some (.int .u32 (n32 s.b)) ∧ W.cell? ⟨b, o + 2, none⟩ = some (.int .u32 (n32 s.c)) ∧ W.cell? ⟨b, o + 3, none⟩ = some (.int .u32 (n32 s.d)) ∧
    W.cell? ⟨b, o + 4, none⟩ = some (.int .u32 (n32 s.e)) ∧ W.cell? ⟨b, o + 5, none⟩ = some (.int .u32 (n32 s.f)) ∧ W.cell? ⟨b, o + 6, none⟩ = some (.int .u32 (n32 s.g)) ∧ W.cell? ⟨b, o + 7, none⟩ = some (.int .u32 (n32 s.h)) := by
  have hc : ∀ j (hj : j < 8), W.cell? ⟨b, o + j, none⟩ = some (.int .u32 (n32 (s.list.getD j 0))) := fun j hj => by
    obtain ⟨b', o', e, -, hc⟩ := h.get (i := j) hj
    cases e; exact hc
  exact ⟨hc 0 (by omega), hc 1 (by omega), hc 2 (by omega), hc 3 (by omega), hc 4 (by omega), hc 5 (by omega), hc 6 (by omega), hc 7 (by omega)⟩
theorem row8 (W : World) (s : H8) (t : TypeId) : Row32 (W.alloc (.cells #[.int .u32 (n32 s.a), .int .u32 (n32 s.b), .int .u32 (n32 s.c), .int .u32 (n32 s.d), .int .u32 (n32 s.e), .int .u32 (n32 s.f), .int .u32 (n32 s.g), .int .u32 (n32 s.h)] t)).drew (some ⟨W.heap.size, 0, none⟩) s.list := fun i hi => by
  refine ⟨W.heap.size, 0, rfl, by simp, ?_⟩
  rw [Nat.zero_add]
  refine litd rfl ?_
  have hi : i < 8 := hi
  rcases (show i = 0 ∨ i = 1 ∨ i = 2 ∨ i = 3 ∨ i = 4 ∨ i = 5 ∨ i = 6 ∨ i = 7 by omega) with rfl | rfl | rfl | rfl | rfl | rfl | rfl | rfl <;> rfl
theorem keep4 {W : World} {B k b o0 o1 o2 o3 : Nat} {x0 x1 x2 x3 v : Value} (h : W.cell? ⟨b, o0, none⟩ = some x0 ∧ W.cell? ⟨b, o1, none⟩ = some x1 ∧ W.cell? ⟨b, o2, none⟩ = some x2 ∧ W.cell? ⟨b, o3, none⟩ = some x3) (hB : B ≠ b) :
    (W.setCell ⟨B, k, none⟩ v).cell? ⟨b, o0, none⟩ = some x0 ∧ (W.setCell ⟨B, k, none⟩ v).cell? ⟨b, o1, none⟩ = some x1 ∧ (W.setCell ⟨B, k, none⟩ v).cell? ⟨b, o2, none⟩ = some x2 ∧ (W.setCell ⟨B, k, none⟩ v).cell? ⟨b, o3, none⟩ = some x3 := by
  rw [setCell_other hB, setCell_other hB, setCell_other hB, setCell_other hB]; exact h

set_option maxRecDepth 100000 in
set_option maxHeartbeats 4000000 in
theorem comp1_any (h : H8) (vb vo vc bb bo bc kb ko kc : Nat) (bs : List UInt8) (w : World) (hv : Row32 w (some ⟨vb, vo, none⟩) h.list) (hx : BytesAt w (some ⟨bb, bo, none⟩) bs) (hk : Row32 w (some ⟨kb, ko, none⟩) consts) (hl : bs.length = 64) (hvc : 8 ≤ vc) (hbc : 64 ≤ bc) (hkc : 64 ≤ kc) :
    Calls Tryd.prog 72 #[.slice (some ⟨vb, vo, none⟩) 8 vc, .slice (some ⟨bb, bo, none⟩) 64 bc, .slice (some ⟨kb, ko, none⟩) 64 kc] w
      fun e w' => (∃ g, e = .returned (.slice (some ⟨g, 0, none⟩) 8 8) ∧ Row32 w' (some ⟨g, 0, none⟩) (compress h bs).list) ∧ Below w.heap.size w w' := by
  have HV := hid hv; have HX := hid hx; have HK := hid hk; have HL := hid hl
  have hbb : bb < w.heap.size := by obtain ⟨b, o, e, hlt, -⟩ := hx.get (i := 0) (by omega); cases e; exact hlt
  have hmk := make64
  clear hv hx hk
  go_enter Tryd.func72, Tryd.ntmps72
  go_wp2_with fail
  go_loopw [8] (fun i W => ∃ k : Nat, k ≤ 16 ∧ i = .int .i64 k ∧ Lp w bs k W) (fun i _ => 16 - (intOf i).toNat)
  case atStart => exact ⟨0, by omega, rfl, Lp.start w bs⟩
  case round =>
    obtain ⟨k, hk, rfl, hL⟩ := hrel
    have HL1 := hid hL
    clear hL
    by_cases hlt : k < 16
    ·
      --[A
      have k1 : (k : Int) < 16 := by omega
      have k2 : (k : Int) < 64 := by omega
      have k0 : (0 : Int) ≤ (k : Int) := by omega
      have hc : ∀ j (hj : 4 * k + j < bs.length), wr.cell? ⟨bb, bo + (4 * k + j), none⟩ = some (.int .u8 (n8 bs[4 * k + j])) := fun j hj => by
        obtain ⟨b, o, e, -, hc⟩ := (HX.out.keep HL1.out.below).get hj
        cases e; exact hc
      have c0 := hc 0 (by omega)
      have c1 := hc 1 (by omega)
      have c2 := hc 2 (by omega)
      have c3 := hc 3 (by omega)
      obtain ⟨x0, e0⟩ : ∃ x, bs[4 * k + 0]'(by omega) = x := ⟨_, rfl⟩
      obtain ⟨x1, e1⟩ : ∃ x, bs[4 * k + 1]'(by omega) = x := ⟨_, rfl⟩
      obtain ⟨x2, e2⟩ : ∃ x, bs[4 * k + 2]'(by omega) = x := ⟨_, rfl⟩
      obtain ⟨x3, e3⟩ : ∃ x, bs[4 * k + 3]'(by omega) = x := ⟨_, rfl⟩
      rw [e0] at c0
      rw [e1] at c1
      rw [e2] at c2
      rw [e3] at c3
      rw [Nat.add_zero] at c0
      obtain ⟨p0, q0⟩ := n8_bd x0
      obtain ⟨p1, q1⟩ := n8_bd x1
      obtain ⟨p2, q2⟩ := n8_bd x2
      obtain ⟨p3, q3⟩ := n8_bd x3
      have hw := HL1.out.ws.at' k (by omega)
      have hf := HL1.out.ws.no k
      obtain ⟨y, hy⟩ : ∃ y, (sched bs k).getD k 0 = y := ⟨_, rfl⟩
      rw [hy] at hw
      have hwd : word bs (sched bs k) k = loadF [x0, x1, x2, x3] := by
        unfold word; rw [if_pos hlt, four bs k (by omega), e0, e1, e2, e3]
      have HWD := hid hwd
      have hB : w.heap.size ≠ bb := by omega
      clear hc e0 e1 e2 e3 hy hwd
      go_wp2_with fail
      have s0 : IntKind.i64.wrap (4 * (k : Int)) = 4 * (k : Int) := IntWalk.i64_in _ (by omega)
      have s1 : IntKind.i64.wrap (4 * (k : Int) + 1) = 4 * (k : Int) + 1 := IntWalk.i64_in _ (by omega)
      have s2 : IntKind.i64.wrap (4 * (k : Int) + 2) = 4 * (k : Int) + 2 := IntWalk.i64_in _ (by omega)
      have s3 : IntKind.i64.wrap (4 * (k : Int) + 3) = 4 * (k : Int) + 3 := IntWalk.i64_in _ (by omega)
      have l0 : (0 : Int) ≤ 4 * (k : Int) := by omega
      have l1 : (0 : Int) ≤ 4 * (k : Int) + 1 := by omega
      have l2 : (0 : Int) ≤ 4 * (k : Int) + 2 := by omega
      have l3 : (0 : Int) ≤ 4 * (k : Int) + 3 := by omega
      have m0 : 4 * (k : Int) < 64 := by omega
      have m1 : 4 * (k : Int) + 1 < 64 := by omega
      have m2 : 4 * (k : Int) + 2 < 64 := by omega
      have m3 : 4 * (k : Int) + 3 < 64 := by omega
      have n0 : (4 * (k : Int)).toNat = 4 * k := by omega
      have n1 : (4 * (k : Int) + 1).toNat = 4 * k + 1 := by omega
      have n2 : (4 * (k : Int) + 2).toNat = 4 * k + 2 := by omega
      have n3 : (4 * (k : Int) + 3).toNat = 4 * k + 3 := by omega
      go_region_held3 (fun W => W.cell? ⟨bb, bo + 4 * k, none⟩ = some (.int .u8 (n8 x0)) ∧ W.cell? ⟨bb, bo + (4 * k + 1), none⟩ = some (.int .u8 (n8 x1)) ∧ W.cell? ⟨bb, bo + (4 * k + 2), none⟩ = some (.int .u8 (n8 x2)) ∧ W.cell? ⟨bb, bo + (4 * k + 3), none⟩ = some (.int .u8 (n8 x3)))
        (first | (exact ⟨c0, c1, c2, c3⟩) | assumption | (exact keep4 ⟨c0, c1, c2, c3⟩ hB)) (fail)
      all_goals
        (go_wp2_with fail
         go_roundw
         case rel => exact ⟨k + 1, by omega, by go_num, by rw [be4]; exact (HL1.out.step (by omega) HWD.out).drewn⟩
         case measure => simp [intOf]; omega)
      --]A
    ·
      obtain rfl : k = 16 := by omega
      have e16 : ((16 : Nat) : Int) = 16 := rfl
      rw [e16]
      clear e16
      go_wp2_with fail
      rename World => W0
      go_loopw [9] (fun i W => ∃ k : Nat, 16 ≤ k ∧ k ≤ 64 ∧ i = .int .i64 k ∧ Lp w bs k W) (fun i _ => 64 - (intOf i).toNat)
      case atStart => exact ⟨16, by omega, by omega, rfl, HL1.out⟩
      case round =>
        clear HL1
        obtain ⟨k, hk0, hk, rfl, hL⟩ := hrel
        have HL1 := hid hL
        clear hL
        by_cases hlt : k < 64
        ·
          --[B
          have k1 : (k : Int) < 64 := by omega
          have k2 : (0 : Int) ≤ (k : Int) := by omega
          have hwd : word bs (sched bs k) k = (sched bs k).getD (k - 16) 0 + (rrs ((sched bs k).getD (k - 15) 0) [7, 18] ^^^ (sched bs k).getD (k - 15) 0 >>> 3) + (sched bs k).getD (k - 7) 0 + (rrs ((sched bs k).getD (k - 2) 0) [17, 19] ^^^ (sched bs k).getD (k - 2) 0 >>> 10) := by unfold word; rw [if_neg (by omega)]
          obtain ⟨x15, e15⟩ : ∃ x, (sched bs k).getD (k - 15) 0 = x := ⟨_, rfl⟩
          obtain ⟨x2, e2⟩ : ∃ x, (sched bs k).getD (k - 2) 0 = x := ⟨_, rfl⟩
          obtain ⟨x7, e7⟩ : ∃ x, (sched bs k).getD (k - 7) 0 = x := ⟨_, rfl⟩
          obtain ⟨x16, e16⟩ : ∃ x, (sched bs k).getD (k - 16) 0 = x := ⟨_, rfl⟩
          obtain ⟨y, hy⟩ : ∃ y, (sched bs k).getD k 0 = y := ⟨_, rfl⟩
          rw [e15, e2, e7, e16] at hwd
          have HWD := hid hwd
          have HC := hid (fun (W : World) (h : Lp w bs k W) => And.intro (h.ws.at' (k - 15) (by omega)) (And.intro (h.ws.at' (k - 2) (by omega)) (And.intro (h.ws.at' (k - 7) (by omega)) (And.intro (h.ws.at' (k - 16) (by omega)) (And.intro (h.ws.at' k hlt) (h.ws.no k))))))
          simp only [e15, e2, e7, e16, hy] at HC
          clear e15 e2 e7 e16 hwd hy
          obtain ⟨c15, c2, c7, c16, ck, fk⟩ := HC.out _ HL1.out
          have s15 : IntKind.i64.wrap ((k : Int) - 15) = ((k - 15 : Nat) : Int) := by rw [IntWalk.i64_in _ (by omega)]; omega
          have s2 : IntKind.i64.wrap ((k : Int) - 2) = ((k - 2 : Nat) : Int) := by rw [IntWalk.i64_in _ (by omega)]; omega
          have s7 : IntKind.i64.wrap ((k : Int) - 7) = ((k - 7 : Nat) : Int) := by rw [IntWalk.i64_in _ (by omega)]; omega
          have s16 : IntKind.i64.wrap ((k : Int) - 16) = ((k - 16 : Nat) : Int) := by rw [IntWalk.i64_in _ (by omega)]; omega
          have l15 : ((k - 15 : Nat) : Int) < 64 := by omega
          have l2 : ((k - 2 : Nat) : Int) < 64 := by omega
          have l7 : ((k - 7 : Nat) : Int) < 64 := by omega
          have l16 : ((k - 16 : Nat) : Int) < 64 := by omega
          have HR7 := hid (fun q => rq (x := x15) (i := 7) (r := 7) wr q rfl (by omega) (by omega))
          have HR18 := hid (fun q => rq (x := x15) (i := 18) (r := 18) wr q rfl (by omega) (by omega))
          go_wp2_with fail
          go_quiet ((first | (go_at_call 77; with_reducible exact HR7.out _) | (go_at_call 77; with_reducible exact HR18.out _)))
          simp only [shr3i, xor32]
          generalize hs0 : rr x15 7 ^^^ rr x15 18 ^^^ x15 >>> 3 = s0
          have HS0 := hid hs0
          have HL2 := hid (HL1.out.keep (below_drewN (Below.refl _ _) nq))
          clear hs0 HL1 HR7 HR18 c15 c2 c7 c16 ck fk
          generalize wr.drewN nq = W2 at HL2 ⊢
          obtain ⟨c15, c2, c7, c16, ck, fk⟩ := HC.out _ HL2.out
          have HR7 := hid (fun q => rq (x := x2) (i := 17) (r := 17) W2 q rfl (by omega) (by omega))
          have HR18 := hid (fun q => rq (x := x2) (i := 19) (r := 19) W2 q rfl (by omega) (by omega))
          go_wp2_with fail
          go_quiet ((first | (go_at_call 77; with_reducible exact HR7.out _) | (go_at_call 77; with_reducible exact HR18.out _)))
          simp only [shr10i, xor32]
          generalize hs1 : rr x2 17 ^^^ rr x2 19 ^^^ x2 >>> 10 = s1
          have HS1 := hid hs1
          have HL3 := hid (HL2.out.keep (below_drewN (Below.refl _ _) nq))
          clear hs1 HL2 HR7 HR18 c15 c2 c7 c16 ck fk
          generalize W2.drewN nq = W3 at HL3 ⊢
          obtain ⟨c15, c2, c7, c16, ck, fk⟩ := HC.out _ HL3.out
          have hn16 : k ≠ k - 16 := by omega
          have hn7 : k ≠ k - 7 := by omega
          go_wp2_with fail
          go_region_held3 (fun W => W.cell? ⟨w.heap.size, k - 16, none⟩ = some (.int .u32 (n32 x16)) ∧ W.cell? ⟨w.heap.size, k - 7, none⟩ = some (.int .u32 (n32 x7)))
            (first | (exact ⟨c16, c7⟩) | assumption | (exact keep2 ⟨c16, c7⟩ hn16 hn7)) (fail)
          all_goals
            (go_wp2_with fail
             go_roundw
             case rel => exact ⟨k + 1, by omega, by omega, by go_num, by simp only [add32i]; exact (HL3.out.step hlt (by rw [HWD.out, rrs2, rrs2, HS0.out, HS1.out])).drewn⟩
             case measure => simp [intOf]; omega)
          --]B
        · obtain rfl : k = 64 := by omega
          have e64 : ((64 : Nat) : Int) = 64 := rfl
          rw [e64]
          have HV1 := hid (HV.out.keep HL1.out.below)
          have HVC := hid (fun (W : World) (h : Row32 W (some ⟨vb, vo, none⟩) h.list) => seven h)
          obtain ⟨c0, c1, c2, c3, c4, c5, c6, c7⟩ := HVC.out _ HV1.out
          clear e64 HVC HV1
          go_wp2_with fail
          go_loopw [12, 13, 14, 15, 16, 17, 18, 19, 20] (fun t12 t13 t14 t15 t16 t17 t18 t19 i W => ∃ (k : Nat) (s : H8), k ≤ 64 ∧ i = .int .i64 k ∧ t12 = w32 s.a ∧ t13 = w32 s.b ∧ t14 = w32 s.c ∧ t15 = w32 s.d ∧ t16 = w32 s.e ∧ t17 = w32 s.f ∧ t18 = w32 s.g ∧ t19 = w32 s.h ∧ Hid (rounds consts (sched bs 64) h k = s) ∧ Lp w bs 64 W) (fun _ _ _ _ _ _ _ _ i _ => 64 - (intOf i).toNat)
          case atStart => exact ⟨0, h, by omega, rfl, rfl, rfl, rfl, rfl, rfl, rfl, rfl, rfl, hid rfl, HL1.out⟩
          case round =>
            clear HL1 c0 c1 c2 c3 c4 c5 c6 c7
            obtain ⟨k, ⟨va, vbb, vcc, vd, ve, vf, vg, vh⟩, hk, rfl, rfl, rfl, rfl, rfl, rfl, rfl, rfl, rfl, HS, hL⟩ := hrel
            have HL1 := hid hL
            clear hL
            by_cases hlt : k < 64
            ·
              --[C
              have k1 : (k : Int) < 64 := by omega
              have k2 : (0 : Int) ≤ (k : Int) := by omega
              have wk := HL1.out.ws.at' k hlt
              have ck : wr.cell? ⟨kb, ko + k, none⟩ = some (.int .u32 (n32 (consts.getD k 0))) := by
                obtain ⟨b, o, e, -, hc⟩ := (HK.out.keep HL1.out.below).get (i := k) hlt
                cases e; exact hc
              obtain ⟨kk, ekk⟩ : ∃ kk, consts.getD k 0 = kk := ⟨_, rfl⟩
              obtain ⟨x, ex⟩ : ∃ x, (sched bs 64).getD k 0 = x := ⟨_, rfl⟩
              have hrn : rounds consts (sched bs 64) h (k + 1) = rnd ⟨va, vbb, vcc, vd, ve, vf, vg, vh⟩ kk x := by rw [rounds_succ, HS.out, ekk, ex]
              rw [ekk] at ck
              rw [ex] at wk
              have HRN := hid hrn
              clear hrn ekk ex
              have HR6 := hid (fun q => rq (x := ve) (i := 6) (r := 6) wr q rfl (by omega) (by omega))
              have HR11 := hid (fun q => rq (x := ve) (i := 11) (r := 11) wr q rfl (by omega) (by omega))
              have HR25 := hid (fun q => rq (x := ve) (i := 25) (r := 25) wr q rfl (by omega) (by omega))
              simp only [w32]
              go_wp2_with fail
              go_quiet ((first | (go_at_call 77; with_reducible exact HR6.out _) | (go_at_call 77; with_reducible exact HR11.out _) | (go_at_call 77; with_reducible exact HR25.out _)))
              simp only [add32i]
              generalize ht1 : vh + (rr ve 6 ^^^ rr ve 11 ^^^ rr ve 25) + (ve &&& vf ^^^ ~~~ve &&& vg) + kk + x = t1
              have HT1 := hid ht1
              have HL2 := hid (HL1.out.keep (below_drewN (Below.refl _ _) nq))
              clear ht1 HL1 HR6 HR11 HR25 ck wk
              generalize wr.drewN nq = W2 at HL2 ⊢
              have HR2 := hid (fun W => rot1_any va 2 W (by omega) (by omega))
              have HR13 := hid (fun W => rot1_any va 13 W (by omega) (by omega))
              have HR22 := hid (fun W => rot1_any va 22 W (by omega) (by omega))
              simp only [show ((2 : Nat) : Int) = 2 from rfl, show ((13 : Nat) : Int) = 13 from rfl, show ((22 : Nat) : Int) = 22 from rfl] at HR2 HR13 HR22
              go_wp2_with (first
                | (go_at_call 77; (with_reducible refine (HR2.out _).mono ?_); rintro e w3 ⟨rfl, q1, rfl⟩)
                | (go_at_call 77; (with_reducible refine (HR13.out _).mono ?_); rintro e w3 ⟨rfl, q2, rfl⟩)
                | (go_at_call 77; (with_reducible refine (HR22.out _).mono ?_); rintro e w3 ⟨rfl, q3, rfl⟩))
              go_roundw
              case rel =>
                refine ⟨k + 1, rnd ⟨va, vbb, vcc, vd, ve, vf, vg, vh⟩ kk x, by omega, by go_num, ?_, rfl, rfl, rfl, ?_, rfl, rfl, rfl, hid HRN.out, HL2.out.keep (below_drewN (Below.refl _ _) _)⟩
                · simp only [add32i, rnd, rrs3, HT1.out]
                · simp only [add32i, rnd, rrs3, HT1.out]
              case measure => simp [intOf]; omega
              --]C
            · obtain rfl : k = 64 := by omega
              have HV1 := hid (HV.out.keep HL1.out.below)
              obtain ⟨c0, c1, c2, c3, c4, c5, c6, c7⟩ := seven HV1.out
              have e64 : ((64 : Nat) : Int) = 64 := rfl
              simp only [w32]
              rw [e64]
              clear e64
              go_wp2_with fail
              go_region_held3 (fun W => W.cell? ⟨vb, vo, none⟩ = some (.int .u32 (n32 h.a)) ∧ W.cell? ⟨vb, vo + 1, none⟩ = some (.int .u32 (n32 h.b)) ∧ W.cell? ⟨vb, vo + 2, none⟩ = some (.int .u32 (n32 h.c)) ∧ W.cell? ⟨vb, vo + 3, none⟩ = some (.int .u32 (n32 h.d)) ∧ W.cell? ⟨vb, vo + 4, none⟩ = some (.int .u32 (n32 h.e)) ∧ W.cell? ⟨vb, vo + 5, none⟩ = some (.int .u32 (n32 h.f)) ∧ W.cell? ⟨vb, vo + 6, none⟩ = some (.int .u32 (n32 h.g)) ∧ W.cell? ⟨vb, vo + 7, none⟩ = some (.int .u32 (n32 h.h)))
                (first | (exact seven HV1.out) | assumption | (exact seven (HV1.out.keep (below_alloc _ _))) | (exact seven (HV1.out.keep (below_allocd _ _)))) (fail)
              all_goals
                (go_wp2_with fail
                 go_ret
                 refine ⟨⟨_, rfl, ?_⟩, (HL1.out.below.alloc HL1.out.below.size _).drew⟩
                 have he : (compress h bs) = ⟨h.a + va, h.b + vbb, h.c + vcc, h.d + vd, h.e + ve, h.f + vf, h.g + vg, h.h + vh⟩ := by
                   unfold compress
                   rw [HS.out]
                   simp only [H8.add, BitVec.add_comm]
                 rw [he]
                 simp only [add32]
                 exact row8 wr _ _)
end Go.Proofs.YtbjfkliijhnloaaDoor
