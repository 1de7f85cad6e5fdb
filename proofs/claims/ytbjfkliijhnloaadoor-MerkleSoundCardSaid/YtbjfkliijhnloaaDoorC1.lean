/- The compression function of SHA-256 walked: its answer is compress, and nothing that lay before is changed. -/
import Derived.Test.YtbjfkliijhnloaaDoorC0
namespace Go.Proofs.YtbjfkliijhnloaaDoor
open Go.RowKit
set_option linter.unusedVariables false

theorem shr3i (x : BitVec 32) : n32 x / (8 : Int) = n32 (x >>> 3) := shr3 x
theorem shr10i (x : BitVec 32) : n32 x / (1024 : Int) = n32 (x >>> 10) := shr10 x
theorem add32i (x y : BitVec 32) : (n32 x + n32 y) % (4294967296 : Int) = n32 (x + y) := add32m x y
set_option maxRecDepth 100000 in
set_option maxHeartbeats 1000000 in
theorem comp_any (h : H8) (a : Option Addr) (ca : Nat) (bs : List UInt8) (w : World) (hT : Tab w) (hx : BytesAt w a bs) (hl : bs.length = 64) (hca : 64 ≤ ca) :
    Calls Tryd.prog 69 #[.agg h.cells, .slice a 64 ca] w fun e w' => e = .returned (.agg (compress h bs).cells) ∧ Below w.heap.size w w' := by
  have HT := hid hT
  clear hT
  obtain ⟨b, off, rfl, hb, -⟩ := hx.get (i := 0) (by omega)
  have HX := hid hx
  clear hx
  go_enter Tryd.func69, Tryd.ntmps69
  go_wp2_with fail
  go_loopw [15] (fun i wr => ∃ k : Nat, k ≤ 64 ∧ i = .int .i64 k ∧ Loop1 w h bs k wr) (fun i _ => 64 - (intOf i).toNat)
  case atStart => exact ⟨0, by omega, rfl, Loop1.start w h bs _ _ _⟩
  case round =>
    obtain ⟨k, hk, rfl, hL⟩ := hrel
    have HL1 := hid hL
    have hsz := hL.ws.lt
    clear hL
    by_cases hlt : k < 64
    · by_cases h16 : k < 16
      · have hw := HL1.out.ws.at' k hlt
        have hf := HL1.out.ws.no k
        have hld := load_any ((bs.drop (4 * k)).take 4) (some ⟨b, off + 4 * k, none⟩) (ca - 4 * k) wr (by simp; omega) (bytes_sub (HX.out.keep HL1.out.below) _ _ (by omega))
        have e4 : ((bs.drop (4 * k)).take 4).length = 4 := by simp; omega
        rw [e4] at hld
        have HLD := hid hld
        have HE := hid (show word bs (sched bs k) k = loadF ((bs.drop (4 * k)).take 4) by unfold word; rw [if_pos h16])
        clear hld e4
        go_wp2_with ((with_reducible refine (HLD.out).mono ?_); rintro e w' ⟨rfl, rfl⟩)
        go_roundw
        case rel => exact ⟨k + 1, by omega, by go_num, HL1.out.step hlt HE.out⟩
        case measure => simp [intOf]; omega
      · have hw := HL1.out.ws.at' k hlt
        have hf := HL1.out.ws.no k
        have hwd := hid (show word bs (sched bs k) k = (sched bs k).getD (k - 16) 0 + (rrs ((sched bs k).getD (k - 15) 0) [7, 18] ^^^ (sched bs k).getD (k - 15) 0 >>> 3) + (sched bs k).getD (k - 7) 0 + (rrs ((sched bs k).getD (k - 2) 0) [17, 19] ^^^ (sched bs k).getD (k - 2) 0 >>> 10) by rw [word, if_neg h16])
        have hw15 := HL1.out.ws.at' (k - 15) (by omega)
        have hw2 := HL1.out.ws.at' (k - 2) (by omega)
        have hw7 := HL1.out.ws.at' (k - 7) (by omega)
        have hw16 := HL1.out.ws.at' (k - 16) (by omega)
        obtain ⟨x15, e15⟩ : ∃ x, (sched bs k).getD (k - 15) 0 = x := ⟨_, rfl⟩
        obtain ⟨x2, e2⟩ : ∃ x, (sched bs k).getD (k - 2) 0 = x := ⟨_, rfl⟩
        obtain ⟨x7, e7⟩ : ∃ x, (sched bs k).getD (k - 7) 0 = x := ⟨_, rfl⟩
        obtain ⟨x16, e16⟩ : ∃ x, (sched bs k).getD (k - 16) 0 = x := ⟨_, rfl⟩
        simp only [e15, e2, e7, e16] at hw15 hw2 hw7 hw16 hwd
        clear e15 e2 e7 e16
        go_wp2_with fail
        go_quiet (fail)
        go_wp2_with fail
        have j1 : IntKind.i64.wrap ((k : Int) - 16) = ((k - 16 : Nat) : Int) := by simp [IntKind.wrap, IntKind.bits, IntKind.signed]; omega
        have j2 : IntKind.i64.wrap ((k : Int) - 7) = ((k - 7 : Nat) : Int) := by simp [IntKind.wrap, IntKind.bits, IntKind.signed]; omega
        have i2 : ((k - 16 : Nat) : Int) < 64 := by omega
        have i4 : ((k - 7 : Nat) : Int) < 64 := by omega
        have HR1 := hid (rot2 x15 7 18 · · · ⟨by decide, by decide⟩ ⟨by decide, by decide⟩)
        have HR2 := hid (rot2 x2 17 19 · · · ⟨by decide, by decide⟩ ⟨by decide, by decide⟩)
        have s0 := seen2 hw hsz
        have f0 := seenf2 hf hsz
        have hn16 : k ≠ k - 16 := by omega
        have hn7 : k ≠ k - 7 := by omega
        go_region_held3 (fun W => w.heap.size + 1 + 1 < W.heap.size ∧ W.cell? ⟨w.heap.size + 1 + 1, k - 16, none⟩ = some (.int .u32 (n32 x16)) ∧ W.cell? ⟨w.heap.size + 1 + 1, k - 7, none⟩ = some (.int .u32 (n32 x7)))
          (first | assumption | (exact held_alloc ‹_› _) | (exact held_set ‹_› hn16 hn7) | (refine ⟨?_, ?_, ?_⟩ <;> first | assumption | (simp; assumption)) | (refine ⟨?_, ?_, ?_⟩ <;> simp [*]))
          (first
          | (go_at_call 74; (with_reducible refine (HR1.out _ _ _ ?_ ?_ ?_).mono ?_); (focus (first | (simp; done) | (simp; omega))); (first | (exact lit1 (by simp) rfl) | (exact lit2 (by simp) rfl)); (first | (exact lit1 (by simp) rfl) | (exact lit2 (by simp) rfl)); rintro e w' ⟨rfl, rfl⟩)
          | (go_at_call 74; (with_reducible refine (HR2.out _ _ _ ?_ ?_ ?_).mono ?_); (focus (first | (simp; done) | (simp; omega))); (first | (exact lit1 (by simp) rfl) | (exact lit2 (by simp) rfl)); (first | (exact lit1 (by simp) rfl) | (exact lit2 (by simp) rfl)); rintro e w' ⟨rfl, rfl⟩))
        all_goals
          (go_wp2_with fail
           go_roundw
           case rel =>
             refine ⟨k + 1, by omega, by go_num, ?_⟩
             simp only [shr3i, shr10i, xor32, add32i]
             exact (HL1.out.keep (below_drewN2 wr _ _ _)).step hlt hwd.out
           case measure => simp [intOf]; omega)
    · obtain rfl : k = 64 := by omega
      have c0 : wr.cell? ⟨w.heap.size, 0, none⟩ = some (.int .u32 (n32 h.a)) := HL1.out.hs.at' 0 (by omega)
      have c1 : wr.cell? ⟨w.heap.size, 1, none⟩ = some (.int .u32 (n32 h.b)) := HL1.out.hs.at' 1 (by omega)
      have c2 : wr.cell? ⟨w.heap.size, 2, none⟩ = some (.int .u32 (n32 h.c)) := HL1.out.hs.at' 2 (by omega)
      have c3 : wr.cell? ⟨w.heap.size, 3, none⟩ = some (.int .u32 (n32 h.d)) := HL1.out.hs.at' 3 (by omega)
      have c4 : wr.cell? ⟨w.heap.size, 4, none⟩ = some (.int .u32 (n32 h.e)) := HL1.out.hs.at' 4 (by omega)
      have c5 : wr.cell? ⟨w.heap.size, 5, none⟩ = some (.int .u32 (n32 h.f)) := HL1.out.hs.at' 5 (by omega)
      have c6 : wr.cell? ⟨w.heap.size, 6, none⟩ = some (.int .u32 (n32 h.g)) := HL1.out.hs.at' 6 (by omega)
      have c7 : wr.cell? ⟨w.heap.size, 7, none⟩ = some (.int .u32 (n32 h.h)) := HL1.out.hs.at' 7 (by omega)
      have HK := hid (fun o => ((HT.out.keep HL1.out.below).keep (below_alloc wr o)).ks)
      go_wp2_with (refine wpList_load_mid rfl _ _ rfl 1 0 rfl constVs _ (HK.out _) rfl rfl rfl ?_)
      rename World => W1
      go_loopw [66] (fun i W => ∃ k : Nat, k ≤ 64 ∧ i = .int .i64 k ∧ Loop2 w h bs W1.heap.size k W) (fun i _ => 64 - (intOf i).toNat)
      case atStart => exact ⟨0, by omega, rfl, Loop2.start HL1.out _⟩
      case round =>
        obtain ⟨k, hk, rfl, hL⟩ := hrel
        have HL2 := hid hL
        clear hL
        by_cases hlt : k < 64
        · have d1 : decide ((k : Int) < 64) = true := by simp; omega
          have hk1 : (k : Int) < 64 := by omega
          have hk0 : (0 : Int) ≤ (k : Int) := by omega
          have hki := const_index k hlt
          obtain ⟨kk, ekk⟩ : ∃ kk, consts.getD k 0 = kk := ⟨_, rfl⟩
          rw [ekk] at hki
          obtain ⟨x, ex⟩ : ∃ x, (sched bs 64).getD k 0 = x := ⟨_, rfl⟩
          obtain ⟨va, vb, vc, vd, ve, vf, vg, vh, es⟩ : ∃ va vb vc vd ve vf vg vh, rounds consts (sched bs 64) h k = ⟨va, vb, vc, vd, ve, vf, vg, vh⟩ := ⟨_, _, _, _, _, _, _, _, rfl⟩
          have hrn : rounds consts (sched bs 64) h (k + 1) = rnd ⟨va, vb, vc, vd, ve, vf, vg, vh⟩ kk x := by rw [rounds_succ, es, ekk, ex]
          have HRN := hid hrn
          clear hrn
          have hv := HL2.out.vs.at'
          rw [es] at hv
          have v4 : wr.cell? ⟨W1.heap.size, 4, none⟩ = some (.int .u32 (n32 ve)) := hv 4 (by omega)
          have v5 : wr.cell? ⟨W1.heap.size, 5, none⟩ = some (.int .u32 (n32 vf)) := hv 5 (by omega)
          have v6 : wr.cell? ⟨W1.heap.size, 6, none⟩ = some (.int .u32 (n32 vg)) := hv 6 (by omega)
          have v7 : wr.cell? ⟨W1.heap.size, 7, none⟩ = some (.int .u32 (n32 vh)) := hv 7 (by omega)
          have wx : wr.cell? ⟨w.heap.size + 1 + 1, k, none⟩ = some (.int .u32 (n32 x)) := by rw [← ex]; exact HL2.out.ws.at' k hlt
          clear hv
          have z1 := HL2.out.vs.lt
          have z2 := HL2.out.ws.lt
          have HR3 := hid (rot3 ve 6 11 25 · · · ⟨by decide, by decide⟩ ⟨by decide, by decide⟩ ⟨by decide, by decide⟩)
          have HS0 := hid (And.intro z1 (And.intro z2 (And.intro v7 (And.intro v4 (And.intro v5 (And.intro v6 wx))))))
          have ES := hid es
          clear ekk ex es
          go_wp2_with fail
          go_region_held3 (fun W => W1.heap.size < W.heap.size ∧ w.heap.size + 1 + 1 < W.heap.size ∧ W.cell? ⟨W1.heap.size, 7, none⟩ = some (.int .u32 (n32 vh)) ∧ W.cell? ⟨W1.heap.size, 4, none⟩ = some (.int .u32 (n32 ve)) ∧ W.cell? ⟨W1.heap.size, 5, none⟩ = some (.int .u32 (n32 vf)) ∧ W.cell? ⟨W1.heap.size, 6, none⟩ = some (.int .u32 (n32 vg)) ∧ W.cell? ⟨w.heap.size + 1 + 1, k, none⟩ = some (.int .u32 (n32 x)))
            (first | (with_reducible exact HS0.out) | (with_reducible exact held_d (held_t HS0.out _)) | (with_reducible exact held_t HS0.out _) | (with_reducible assumption) | (with_reducible exact held_d (held_d (held_t HS0.out _))) | (with_reducible exact held_t ‹_› _) | (with_reducible exact held_d ‹_›) | (refine ⟨?_, ?_, ?_, ?_, ?_, ?_, ?_⟩ <;> first | (with_reducible assumption) | (simp; omega) | (simp [*]; done)))
            (first | (go_at_call 74; (with_reducible refine (HR3.out _ _ _ ?_ ?_ ?_ ?_).mono ?_); (focus (first | (simp; done) | (simp; omega))); (with_reducible refine litd ?_ ?_); (focus (first | (simp; done) | (simp; omega))); (focus rfl); (with_reducible refine litd ?_ ?_); (focus (first | (simp; done) | (simp; omega))); (focus rfl); (with_reducible refine litd ?_ ?_); (focus (first | (simp; done) | (simp; omega))); (focus rfl); rintro e w' ⟨rfl, rfl⟩))
          simp only [not32m, and32, xor32, add32]
          generalize ht : vh + rrs ve [6, 11, 25] + (ve &&& vf ^^^ ~~~ve &&& vg) + kk + x = t
          have HL3 := hid (HL2.out.keep (below_allocd wr (.cells #[.int .i64 6, .int .i64 11, .int .i64 25] 3)))
          clear HL2 HS0 HR3 z1 z2 v4 v5 v6 v7 wx
          have HT2 := hid ht
          clear ht
          generalize (wr.alloc (.cells #[.int .i64 6, .int .i64 11, .int .i64 25] 3)).drew = W2 at *
          have hv := HL3.out.vs.at'
          rw [ES.out] at hv
          have v0 : W2.cell? ⟨W1.heap.size, 0, none⟩ = some (.int .u32 (n32 va)) := hv 0 (by omega)
          have v1 : W2.cell? ⟨W1.heap.size, 1, none⟩ = some (.int .u32 (n32 vb)) := hv 1 (by omega)
          have v2 : W2.cell? ⟨W1.heap.size, 2, none⟩ = some (.int .u32 (n32 vc)) := hv 2 (by omega)
          clear hv
          have z1 := HL3.out.vs.lt
          have HS0 := hid (And.intro z1 (And.intro v0 (And.intro v1 v2)))
          have HR3 := hid (rot3 va 2 13 22 · · · ⟨by decide, by decide⟩ ⟨by decide, by decide⟩ ⟨by decide, by decide⟩)
          go_wp2_with fail
          go_region_held3 (fun W => W1.heap.size < W.heap.size ∧ W.cell? ⟨W1.heap.size, 0, none⟩ = some (.int .u32 (n32 va)) ∧ W.cell? ⟨W1.heap.size, 1, none⟩ = some (.int .u32 (n32 vb)) ∧ W.cell? ⟨W1.heap.size, 2, none⟩ = some (.int .u32 (n32 vc)))
            (first | (with_reducible exact HS0.out) | (with_reducible exact held_ud HS0.out) | (with_reducible exact held_ud (held_u HS0.out _)) | (with_reducible exact held_u HS0.out _) | (with_reducible assumption))
            (first | (go_at_call 74; (with_reducible refine (HR3.out _ _ _ ?_ ?_ ?_ ?_).mono ?_); (focus (first | (simp; done) | (simp; omega))); (with_reducible refine litd ?_ ?_); (focus (first | (simp; done) | (simp; omega))); (focus rfl); (with_reducible refine litd ?_ ?_); (focus (first | (simp; done) | (simp; omega))); (focus rfl); (with_reducible refine litd ?_ ?_); (focus (first | (simp; done) | (simp; omega))); (focus rfl); rintro e w' ⟨rfl, rfl⟩))
          simp only [add32]
          generalize hu : rrs va [2, 13, 22] + (va &&& vb ^^^ va &&& vc ^^^ vb &&& vc) = u
          have HU := hid hu
          clear hu
          have HL4 := hid (HL3.out.keep (below_allocd W2 (.cells #[.int .i64 2, .int .i64 13, .int .i64 22] 3)))
          clear HL3 HS0 HR3 z1 v0 v1 v2
          generalize (W2.alloc (.cells #[.int .i64 2, .int .i64 13, .int .i64 22] 3)).drew = W3 at *
          have hv := HL4.out.vs.at'
          rw [ES.out] at hv
          have v0 : W3.cell? ⟨W1.heap.size, 0, none⟩ = some (.int .u32 (n32 va)) := hv 0 (by omega)
          have v1 : W3.cell? ⟨W1.heap.size, 1, none⟩ = some (.int .u32 (n32 vb)) := hv 1 (by omega)
          have v2 : W3.cell? ⟨W1.heap.size, 2, none⟩ = some (.int .u32 (n32 vc)) := hv 2 (by omega)
          have v3 : W3.cell? ⟨W1.heap.size, 3, none⟩ = some (.int .u32 (n32 vd)) := hv 3 (by omega)
          have v4 : W3.cell? ⟨W1.heap.size, 4, none⟩ = some (.int .u32 (n32 ve)) := hv 4 (by omega)
          have v5 : W3.cell? ⟨W1.heap.size, 5, none⟩ = some (.int .u32 (n32 vf)) := hv 5 (by omega)
          have v6 : W3.cell? ⟨W1.heap.size, 6, none⟩ = some (.int .u32 (n32 vg)) := hv 6 (by omega)
          have v7 : W3.cell? ⟨W1.heap.size, 7, none⟩ = some (.int .u32 (n32 vh)) := hv 7 (by omega)
          have fz := HL4.out.vs.no
          clear hv
          go_wp2_with fail
          go_roundw
          case rel => exact ⟨k + 1, by omega, by go_num, HL4.out.step (by rw [HRN.out]; simp only [rnd]; rw [HT2.out, HU.out])⟩
          case measure => simp [intOf]; omega
        · obtain rfl : k = 64 := by omega
          have d1 : decide (((64 : Nat) : Int) < 64) = false := by simp
          go_wp2_with fail
          rename World => W4
          go_loopw [139] (fun i W => ∃ k : Nat, k ≤ 8 ∧ i = .int .i64 k ∧ Loop3 w h (rounds consts (sched bs 64) h 64) W1.heap.size k W) (fun i _ => 8 - (intOf i).toNat)
          case atStart => exact ⟨0, by omega, rfl, Loop3.start HL2.out⟩
          case round =>
            obtain ⟨k, hk, rfl, hL⟩ := hrel
            have HL5 := hid hL
            clear hL
            obtain ⟨R, eR⟩ : ∃ R, rounds consts (sched bs 64) h 64 = R := ⟨_, rfl⟩
            have HR := hid (show (R.add h) = compress h bs by unfold compress; rw [eR])
            rw [eR] at HL5
            try rw [eR]
            clear eR
            by_cases hlt : k < 8
            · have d1 : decide ((k : Int) < 8) = true := by simp; omega
              have hv : wr.cell? ⟨W1.heap.size, k, none⟩ = some (.int .u32 (n32 (R.at k))) := by have := HL5.out.vs.at' k hlt; simpa using this
              have hh := HL5.out.hs.at' k hlt
              have hf := HL5.out.vs.no k
              have hV := HL5.out.hV
              have hSt : ∀ m u, ((wr.drewN m).setCell ⟨W1.heap.size, k, none⟩ u).cell? ⟨w.heap.size, k, none⟩ = some (.int .u32 (n32 (h.at k))) := fun m u => by rw [setCell_other (by omega)]; exact hh
              have hSt1 : ∀ u, (wr.drew.setCell ⟨W1.heap.size, k, none⟩ u).cell? ⟨w.heap.size, k, none⟩ = some (.int .u32 (n32 (h.at k))) := fun u => by rw [setCell_other (by omega)]; exact hh
              go_wp2_with fail
              go_region_with fail
              all_goals
                (go_wp2_with fail
                 go_roundw
                 case rel =>
                   refine ⟨_, _, _, _, _, _, _, _, _, _, _, _, _, ⟨k + 1, by omega, ?_, ?_⟩, rfl⟩
                   · go_num
                   · rw [add32m]
                     exact (HL5.out.step hlt).drew
                 case measure => simp [intOf]; omega)
            · obtain rfl : k = 8 := by omega
              have d1 : decide (((8 : Nat) : Int) < 8) = false := by simp
              have hv : ∀ j, j < 8 → wr.cell? ⟨W1.heap.size, j, none⟩ = some (.int .u32 (n32 ((compress h bs).at j))) := fun j hj => by
                have := HL5.out.vs.at' j hj
                rw [if_pos hj] at this
                rw [← HR.out, H8.add_at _ _ _ hj]; exact this
              have fr := HL5.out.rs.no
              have v0 : wr.cell? ⟨W1.heap.size, 0, none⟩ = some (.int .u32 (n32 (compress h bs).a)) := hv 0 (by omega)
              have v1 : wr.cell? ⟨W1.heap.size, 1, none⟩ = some (.int .u32 (n32 (compress h bs).b)) := hv 1 (by omega)
              have v2 : wr.cell? ⟨W1.heap.size, 2, none⟩ = some (.int .u32 (n32 (compress h bs).c)) := hv 2 (by omega)
              have v3 : wr.cell? ⟨W1.heap.size, 3, none⟩ = some (.int .u32 (n32 (compress h bs).d)) := hv 3 (by omega)
              have v4 : wr.cell? ⟨W1.heap.size, 4, none⟩ = some (.int .u32 (n32 (compress h bs).e)) := hv 4 (by omega)
              have v5 : wr.cell? ⟨W1.heap.size, 5, none⟩ = some (.int .u32 (n32 (compress h bs).f)) := hv 5 (by omega)
              have v6 : wr.cell? ⟨W1.heap.size, 6, none⟩ = some (.int .u32 (n32 (compress h bs).g)) := hv 6 (by omega)
              have v7 : wr.cell? ⟨W1.heap.size, 7, none⟩ = some (.int .u32 (n32 (compress h bs).h)) := hv 7 (by omega)
              have ra := HL5.out.rs.at'
              have r0 := ra 0 (by omega)
              have r1 := ra 1 (by omega)
              have r2 := ra 2 (by omega)
              have r3 := ra 3 (by omega)
              have r4 := ra 4 (by omega)
              have r5 := ra 5 (by omega)
              have r6 := ra 6 (by omega)
              have r7 := ra 7 (by omega)
              clear hv ra
              go_wp2_with fail
              refine bodyPost_ret (results_mid rfl _ _ (w.heap.size + 1) 0 (compress h bs).cells.toList _ rfl (HL5.out.rs.all8 _).range rfl rfl rfl) rfl ⟨rfl, below_8 HL5.out.below (by omega) _ _ _ _ _ _ _ _⟩
end Go.Proofs.YtbjfkliijhnloaaDoor
