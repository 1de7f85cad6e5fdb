/- sample and sanity: the chapter's example holds. -/
import Derived.Test.YtkdloggkpgjekaaI2
import Derived.Test.YtkdloggkpgjekaaP1
namespace Go.Proofs.Ytkdloggkpgjekaa
open Go.RowKit
set_option linter.unusedVariables false

def sampleNs (B1 B2 : Nat) : List Nd :=
  [⟨1, 0, ByteArray.empty, [], none, 0⟩, ⟨17, 0, ByteArray.empty, [], none, 0⟩, ⟨12, 1, ByteArray.empty, [0, 1], some ⟨B1, 0, none⟩, 2⟩, ⟨17, 0, ByteArray.empty, [], none, 0⟩, ⟨12, 0, ByteArray.empty, [0, 2, 3], some ⟨B2, 0, none⟩, 3⟩]
theorem sample_encl (B1 B2 : Nat) : enclF (sampleNs B1 B2) 4 2 = [(-1, 0), (0, 1)] := by rfl

def sampleCells (B1 B2 : Nat) : Array Value := #[.int .i64 1, .int .i64 0, .string ⟨#[]⟩, .slice none 0 0, .int .i64 17, .int .i64 0, .string ⟨#[]⟩, .slice none 0 0, .int .i64 12, .int .i64 1, .string ⟨#[]⟩, .slice (some ⟨B1, 0, none⟩) 2 2,
  .int .i64 17, .int .i64 0, .string ⟨#[]⟩, .slice none 0 0, .int .i64 12, .int .i64 0, .string ⟨#[]⟩, .slice (some ⟨B2, 0, none⟩) 3 3]

theorem sample_prog (w : World) (o : Obj) :
    ProgAt ((((w.alloc o).alloc (.cells #[.int .i64 0, .int .i64 1] 3)).alloc (.cells #[.int .i64 0, .int .i64 2, .int .i64 3] 3)).alloc (.cells (sampleCells (w.heap.size + 1) (w.heap.size + 1 + 1)) 41)) (some ⟨w.heap.size + 1 + 1 + 1, 0, none⟩) (sampleNs (w.heap.size + 1) (w.heap.size + 1 + 1)) where
  npos := by simp [sampleNs]
  node := fun i hi => by
    have hi' : i < 5 := hi
    have : i = 0 ∨ i = 1 ∨ i = 2 ∨ i = 3 ∨ i = 4 := by omega
    rcases this with rfl | rfl | rfl | rfl | rfl
    all_goals
      refine ⟨w.heap.size + 1 + 1 + 1, 0, rfl, by simp only [World.size_alloc]; omega, ?_, ?_, ?_, ?_⟩
      all_goals (rw [World.cell?_alloc_at (hn := by simp only [World.size_alloc])]; rfl)
  of := fun i hi => by
    have hi' : i < 5 := hi
    have : i = 0 ∨ i = 1 ∨ i = 2 ∨ i = 3 ∨ i = 4 := by omega
    rcases this with rfl | rfl | rfl | rfl | rfl
    · exact ⟨by simp [sampleNs], fun j hj => by simp [sampleNs] at hj⟩
    · exact ⟨by simp [sampleNs], fun j hj => by simp [sampleNs] at hj⟩
    · refine ⟨by simp [sampleNs], fun j hj => ?_⟩
      have hj' : j < 2 := hj
      have : j = 0 ∨ j = 1 := by omega
      rcases this with rfl | rfl
      all_goals
        refine ⟨w.heap.size + 1, 0, rfl, by simp only [World.size_alloc]; omega, ?_⟩
        rw [World.cell?_alloc_past (hn := by simp only [World.size_alloc]; omega), World.cell?_alloc_past (hn := by simp only [World.size_alloc]; omega), World.cell?_alloc_at (hn := by simp only [World.size_alloc])]; rfl
    · exact ⟨by simp [sampleNs], fun j hj => by simp [sampleNs] at hj⟩
    · refine ⟨by simp [sampleNs], fun j hj => ?_⟩
      have hj' : j < 3 := hj
      have : j = 0 ∨ j = 1 ∨ j = 2 := by omega
      rcases this with rfl | rfl | rfl
      all_goals
        refine ⟨w.heap.size + 1 + 1, 0, rfl, by simp only [World.size_alloc]; omega, ?_⟩
        rw [World.cell?_alloc_past (hn := by simp only [World.size_alloc]; omega), World.cell?_alloc_at (hn := by simp only [World.size_alloc])]; rfl

set_option maxHeartbeats 1000000 in
theorem sample_any (w : World) :
    Calls Try.prog 14 #[] w fun e w' => (∃ B1 B2 B3, e = .returned (.agg #[.slice none 0 0, .slice (some ⟨B3, 0, none⟩) 5 5, .int .i64 4, .int .i64 2]) ∧ ProgAt w' (some ⟨B3, 0, none⟩) (sampleNs B1 B2)) ∧ Below w.heap.size w w' := by
  go_enter Try.func14, Try.ntmps14
  go_wp2_with fail
  exact bodyPost_ret (v := .agg #[.slice none 0 0, .slice (some ⟨w.heap.size + 1 + 1 + 1, 0, none⟩) 5 5, .int .i64 4, .int .i64 2]) (by simp [results, Try.results14, go_sem]) rfl
    ⟨⟨w.heap.size + 1, w.heap.size + 1 + 1, _, rfl, sample_prog w _⟩, ((((Below.refl w.heap.size w).alloc (Nat.le_refl _) _).alloc (by simp only [World.size_alloc]; omega) _).alloc (by simp only [World.size_alloc]; omega) _).alloc (by simp only [World.size_alloc]; omega) _⟩

theorem row2 (W : World) (x y : Int) (t : TypeId) : IntsAt (W.alloc (.cells #[.int .i64 x, .int .i64 y] t)) (some ⟨W.heap.size, 0, none⟩) [x, y] := fun i hi => by
  have hi' : i < 2 := hi
  refine ⟨W.heap.size, 0, rfl, by simp, ?_⟩
  have : i = 0 ∨ i = 1 := by omega
  rcases this with rfl | rfl
  all_goals (rw [World.cell?_alloc_at (hn := rfl)]; rfl)
theorem row1 (W : World) (x : Int) (t : TypeId) : IntsAt (W.alloc (.cells #[.int .i64 x] t)) (some ⟨W.heap.size, 0, none⟩) [x] := fun i hi => by
  have hi' : i < 1 := hi
  refine ⟨W.heap.size, 0, rfl, by simp, ?_⟩
  have : i = 0 := by omega
  subst this
  rw [World.cell?_alloc_at (hn := rfl)]; rfl
theorem prow2 (W : World) (a b c d : Int) (t : TypeId) : PairsAt (W.alloc (.cells #[.int .i64 a, .int .i64 b, .int .i64 c, .int .i64 d] t)) (some ⟨W.heap.size, 0, none⟩) [(a, b), (c, d)] := fun i hi => by
  have hi' : i < 2 := hi
  refine ⟨W.heap.size, 0, rfl, by simp, ?_⟩
  have : i = 0 ∨ i = 1 := by omega
  rcases this with rfl | rfl
  all_goals (rw [World.cell?_alloc_at (hn := rfl), World.cell?_alloc_at (hn := rfl)]; exact ⟨rfl, rfl⟩)
theorem below_alloc (W : World) (o : Obj) : Below W.heap.size W (W.alloc o) := (Below.refl _ _).alloc (Nat.le_refl _) _

def sampleV (B3 : Nat) : Value := .agg #[.slice none 0 0, .slice (some ⟨B3, 0, none⟩) 5 5, .int .i64 4, .int .i64 2]
theorem sample_good (B1 B2 : Nat) : GoodE (enclF (sampleNs B1 B2) 4 2) := (enclF_forest _ _ _).good

theorem sample_infer (B1 B2 B3 : Nat) (x y : Int) (W : World) (n : Nat) (hn : n = W.heap.size) (h : ProgAt W (some ⟨B3, 0, none⟩) (sampleNs B1 B2)) :
    Calls Try.prog 12 #[.agg #[.slice none 0 0, .slice (some ⟨B3, 0, none⟩) 5 5, .int .i64 4, .int .i64 2], .slice (some ⟨n, 0, none⟩) 2 2] (W.alloc (.cells #[.int .i64 x, .int .i64 y] 3)) fun e w' =>
      (match inferF [(-1, 0), (0, 1)] [x, y] with | some l => ∃ ao c, e = .returned (.tuple #[.slice ao l.length c, .bool true]) ∧ IntsAt w' ao l | none => e = .returned (.tuple #[.slice none 0 0, .bool false])) ∧ Below W.heap.size W w' := by
  subst hn
  refine (infer_any none 0 0 (some ⟨B3, 0, none⟩) 5 (sampleNs B1 B2) 4 2 (some ⟨W.heap.size, 0, none⟩) [x, y] 2 _ (h.keep (below_alloc W _)) (row2 W x y 3) (by simp) (by simp) (sample_good B1 B2)).mono fun e w' ⟨hp, hb⟩ => ⟨?_, (below_alloc W _).trans (hb.mono (by simp))⟩
  rw [sample_encl] at hp
  unfold InferPost at hp
  split at hp
  · rename_i l hl
    obtain ⟨ao, c, he, _, ho⟩ := hp
    rw [hl]
    exact ⟨ao, c, he, ho.ints⟩
  · rename_i hl
    rw [hl]
    exact hp
theorem sample_possible (B1 B2 B3 : Nat) (x y : Int) (W : World) (n : Nat) (hn : n = W.heap.size) (h : ProgAt W (some ⟨B3, 0, none⟩) (sampleNs B1 B2)) :
    Calls Try.prog 10 #[.agg #[.slice none 0 0, .slice (some ⟨B3, 0, none⟩) 5 5, .int .i64 4, .int .i64 2], .slice (some ⟨n, 0, none⟩) 2 2] (W.alloc (.cells #[.int .i64 x, .int .i64 y] 3)) fun e w' =>
      e = .returned (.bool (possibleF [(-1, 0), (0, 1)] [x, y])) ∧ Below W.heap.size W w' := by
  subst hn
  refine (possible_any none 0 0 (some ⟨B3, 0, none⟩) 5 (sampleNs B1 B2) 4 2 (some ⟨W.heap.size, 0, none⟩) [x, y] 2 _ (h.keep (below_alloc W _)) (row2 W x y 3) (by simp) (sample_good B1 B2)).mono fun e w' ⟨hp, hb⟩ => ⟨?_, (below_alloc W _).trans (hb.mono (by simp))⟩
  rw [sample_encl] at hp
  exact hp
theorem sample_possible1 (B1 B2 B3 : Nat) (x : Int) (W : World) (n : Nat) (hn : n = W.heap.size) (h : ProgAt W (some ⟨B3, 0, none⟩) (sampleNs B1 B2)) :
    Calls Try.prog 10 #[.agg #[.slice none 0 0, .slice (some ⟨B3, 0, none⟩) 5 5, .int .i64 4, .int .i64 2], .slice (some ⟨n, 0, none⟩) 1 1] (W.alloc (.cells #[.int .i64 x] 3)) fun e w' =>
      e = .returned (.bool (possibleF [(-1, 0), (0, 1)] [x])) ∧ Below W.heap.size W w' := by
  subst hn
  refine (possible_any none 0 0 (some ⟨B3, 0, none⟩) 5 (sampleNs B1 B2) 4 2 (some ⟨W.heap.size, 0, none⟩) [x] 1 _ (h.keep (below_alloc W _)) (row1 W x 3) (by simp) (sample_good B1 B2)).mono fun e w' ⟨hp, hb⟩ => ⟨?_, (below_alloc W _).trans (hb.mono (by simp))⟩
  rw [sample_encl] at hp
  exact hp

/-- The variable p of sanity. -/
structure Box (b B3 : Nat) (w : World) : Prop where
  lt : b < w.heap.size
  c0 : w.cell? ⟨b, 0, none⟩ = some (.slice none 0 0)
  c1 : w.cell? ⟨b, 1, none⟩ = some (.slice (some ⟨B3, 0, none⟩) 5 5)
  c2 : w.cell? ⟨b, 2, none⟩ = some (.int .i64 4)
  c3 : w.cell? ⟨b, 3, none⟩ = some (.int .i64 2)
theorem Box.keep {b B3 : Nat} {w w' : World} (h : Box b B3 w) (k : Below w.heap.size w w') : Box b B3 w' :=
  ⟨Nat.lt_of_lt_of_le h.lt k.size, (k.cell (p := ⟨b, 0, none⟩) h.lt).trans h.c0, (k.cell (p := ⟨b, 1, none⟩) h.lt).trans h.c1, (k.cell (p := ⟨b, 2, none⟩) h.lt).trans h.c2, (k.cell (p := ⟨b, 3, none⟩) h.lt).trans h.c3⟩
theorem Box.mk' (w : World) (B3 : Nat) : Box w.heap.size B3 (w.alloc (.cells #[.slice none 0 0, .slice (some ⟨B3, 0, none⟩) 5 5, .int .i64 4, .int .i64 2] 25)) :=
  ⟨by simp, by rw [World.cell?_alloc_at (hn := rfl)]; rfl, by rw [World.cell?_alloc_at (hn := rfl)]; rfl, by rw [World.cell?_alloc_at (hn := rfl)]; rfl, by rw [World.cell?_alloc_at (hn := rfl)]; rfl⟩

theorem inf1 : inferF [(-1, 0), (0, 1)] [2, -1] = some [2, 0] := by decide
theorem inf2 : inferF [(-1, 0), (0, 1)] [1, -1] = some [1, -1] := by decide
theorem inf3 : inferF [(-1, 0), (0, 1)] [2, 1] = none := by decide
theorem pos1 : possibleF [(-1, 0), (0, 1)] [3, 1] = true := by decide
theorem pos2 : possibleF [(-1, 0), (0, 1)] [2, 1] = false := by decide
theorem pos3 : possibleF [(-1, 0), (0, 1)] [1] = false := by decide

theorem sample_enclosing (B1 B2 B3 : Nat) (W : World) (h : ProgAt W (some ⟨B3, 0, none⟩) (sampleNs B1 B2)) :
    Calls Try.prog 9 #[.agg #[.slice none 0 0, .slice (some ⟨B3, 0, none⟩) 5 5, .int .i64 4, .int .i64 2]] W fun e w' =>
      (∃ B, e = .returned (.slice (some ⟨B, 0, none⟩) 2 2) ∧ PairsAt w' (some ⟨B, 0, none⟩) [(-1, 0), (0, 1)]) ∧ Below W.heap.size W w' := by
  refine (enclosing_any (.slice none 0 0) (some ⟨B3, 0, none⟩) 5 (sampleNs B1 B2) 4 2 _ h ⟨_, _, _, rfl⟩).mono fun e w' ⟨⟨B, _, he, hp⟩, hb⟩ => ?_
  rw [sample_encl] at he hp
  exact ⟨⟨B, he, hp⟩, hb⟩
theorem sample_pairs (B n : Nat) (W : World) (hn : n = W.heap.size) (h : PairsAt W (some ⟨B, 0, none⟩) [(-1, 0), (0, 1)]) :
    Calls Try.prog 15 #[.slice (some ⟨B, 0, none⟩) 2 2, .slice (some ⟨n, 0, none⟩) 2 2] (W.alloc (.cells #[.int .i64 (-1), .int .i64 0, .int .i64 0, .int .i64 1] 30)) fun e w' => e = .returned (.bool true) ∧ Below W.heap.size W w' := by
  subst hn
  exact (pairs_any _ _ [(-1, 0), (0, 1)] [(-1, 0), (0, 1)] 2 2 _ (h.keep (below_alloc W _)) (prow2 W _ _ _ _ 30) (by simp)).mono fun e w' ⟨he, hb⟩ => ⟨by rw [he]; rfl, (below_alloc W _).trans (hb.mono (by simp))⟩
theorem sample_ints (a : Option Addr) (c n : Nat) (x y : Int) (W : World) (hn : n = W.heap.size) (h : IntsAt W a [x, y]) :
    Calls Try.prog 13 #[.slice a 2 c, .slice (some ⟨n, 0, none⟩) 2 2] (W.alloc (.cells #[.int .i64 x, .int .i64 y] 3)) fun e w' => e = .returned (.bool true) ∧ Below W.heap.size W w' := by
  subst hn
  exact (ints_any _ _ [x, y] [x, y] c 2 _ (RowAt.keep h (below_alloc W _)) (row2 W x y 3) (by simp)).mono fun e w' ⟨he, hb⟩ => ⟨by rw [he]; simp, (below_alloc W _).trans (hb.mono (by simp))⟩

set_option maxHeartbeats 4000000 in
theorem sanity_any (w : World) : Calls Try.prog 7 #[] w fun e w' => e = .returned (.bool true) ∧ Below w.heap.size w w' := by
  go_enter Try.func7, Try.ntmps7
  go_wp2_with fail
  refine (sample_any _).mono ?_
  rintro e w1 ⟨⟨B1, B2, B3, rfl, hp⟩, hb⟩
  obtain ⟨bx, hbx⟩ : ∃ bx, bx = w1.heap.size := ⟨_, rfl⟩
  have HP1 := hid (hp.keep (below_alloc w1 (.cells #[.slice none 0 0, .slice (some ⟨B3, 0, none⟩) 5 5, .int .i64 4, .int .i64 2] 25)))
  have HB1 := hid hb
  have HX1 := hid (Box.mk' w1 B3)
  clear hp hb hbx
  go_wp2_with fail
  with_reducible refine (sample_infer B1 B2 B3 2 (-1) _ _ ?_ HP1.out).mono ?_
  · simp
  rintro e w2 ⟨hq, hb⟩
  rw [inf1] at hq
  obtain ⟨a1, c1, rfl, h1⟩ := hq
  have HL1 := hid h1; have HB2 := hid hb; have HP2 := hid (HP1.out.keep hb); have HX2 := hid (HX1.out.keep hb)
  obtain ⟨z, r0, r1, r2, r3⟩ := HX1.out.keep hb
  clear h1 hb
  go_wp2_with fail
  with_reducible refine (sample_infer B1 B2 B3 1 (-1) _ _ ?_ HP2.out).mono ?_
  · simp
  rintro e w3 ⟨hq, hb⟩
  rw [inf2] at hq
  obtain ⟨a2, c2, rfl, h2⟩ := hq
  have HL2 := hid h2; have HB3 := hid hb; have HP3 := hid (HP2.out.keep hb); have HX3 := hid (HX2.out.keep hb)
  clear z r0 r1 r2 r3
  obtain ⟨z, r0, r1, r2, r3⟩ := HX2.out.keep hb
  clear h2 hb
  go_wp2_with fail
  with_reducible refine (sample_infer B1 B2 B3 2 1 _ _ ?_ HP3.out).mono ?_
  · simp
  rintro e w4 ⟨hq, hb⟩
  rw [inf3] at hq
  obtain rfl := hq
  have HB4 := hid hb; have HP4 := hid (HP3.out.keep hb); have HX4 := hid (HX3.out.keep hb)
  clear z r0 r1 r2 r3
  obtain ⟨z, r0, r1, r2, r3⟩ := HX3.out.keep hb
  clear hb
  go_wp2_with fail
  with_reducible refine (sample_enclosing B1 B2 B3 _ HP4.out).mono ?_
  rintro e w5 ⟨⟨B5, rfl, hq⟩, hb⟩
  have HQ5 := hid hq; have HB5 := hid hb; have HP5 := hid (HP4.out.keep hb); have HX5 := hid (HX4.out.keep hb)
  clear z r0 r1 r2 r3
  clear hq hb
  go_wp2_with fail
  with_reducible refine (sample_pairs B5 _ _ ?_ HQ5.out).mono ?_
  · rfl
  rintro e w6 ⟨rfl, hb⟩
  have HB6 := hid hb; have HP6 := hid (HP5.out.keep hb); have HX6 := hid (HX5.out.keep hb)
  obtain ⟨z, r0, r1, r2, r3⟩ := HX5.out.keep hb
  clear hb
  go_wp2_with fail
  with_reducible refine (sample_possible B1 B2 B3 3 1 _ _ ?_ HP6.out).mono ?_
  · rfl
  rw [pos1]
  rintro e w7 ⟨rfl, hb⟩
  have HB7 := hid hb; have HP7 := hid (HP6.out.keep hb); have HX7 := hid (HX6.out.keep hb)
  clear z r0 r1 r2 r3
  obtain ⟨z, r0, r1, r2, r3⟩ := HX6.out.keep hb
  clear hb
  go_wp2_with fail
  with_reducible refine (sample_possible B1 B2 B3 2 1 _ _ ?_ HP7.out).mono ?_
  · rfl
  rw [pos2]
  rintro e w8 ⟨rfl, hb⟩
  have HB8 := hid hb; have HP8 := hid (HP7.out.keep hb); have HX8 := hid (HX7.out.keep hb)
  clear z r0 r1 r2 r3
  obtain ⟨z, r0, r1, r2, r3⟩ := HX7.out.keep hb
  clear hb
  go_wp2_with fail
  with_reducible refine (sample_possible1 B1 B2 B3 1 _ _ ?_ HP8.out).mono ?_
  · rfl
  rw [pos3]
  rintro e w9 ⟨rfl, hb⟩
  have HB9 := hid hb
  have b2 := (HB2.out.trans (HB3.out.mono HB2.out.size))
  have hl1 : Hid (IntsAt w9 a1 [2, 0]) := hid (RowAt.keep (RowAt.keep (RowAt.keep (RowAt.keep (RowAt.keep (RowAt.keep (RowAt.keep HL1.out HB3.out) HB4.out) HB5.out) HB6.out) HB7.out) HB8.out) hb)
  have hl2 : Hid (IntsAt w9 a2 [1, -1]) := hid (RowAt.keep (RowAt.keep (RowAt.keep (RowAt.keep (RowAt.keep (RowAt.keep HL2.out HB4.out) HB5.out) HB6.out) HB7.out) HB8.out) hb)
  clear z r0 r1 r2 r3 b2
  clear hb
  go_wp2_with fail
  with_reducible refine (sample_ints a1 c1 _ 2 0 _ ?_ hl1.out).mono ?_
  · rfl
  rintro e w10 ⟨rfl, hb⟩
  have HB10 := hid hb
  have hl3 : Hid (IntsAt w10 a2 [1, -1]) := hid (RowAt.keep hl2.out hb)
  clear hb
  go_wp2_with fail
  with_reducible refine (sample_ints a2 c2 _ 1 (-1) _ ?_ hl3.out).mono ?_
  · rfl
  rintro e w11 ⟨rfl, hb⟩
  have HB11 := hid hb
  clear hb
  go_wp2_with fail
  go_ret
  refine ⟨rfl, ?_⟩
  have k1 := HB1.out
  have k2 := k1.trans ((below_alloc w1 (.cells #[.slice none 0 0, .slice (some ⟨B3, 0, none⟩) 5 5, .int .i64 4, .int .i64 2] 25)).mono k1.size)
  have k3 := k2.trans (HB2.out.mono k2.size)
  have k4 := k3.trans (HB3.out.mono k3.size)
  have k5 := k4.trans (HB4.out.mono k4.size)
  have k6 := k5.trans (HB5.out.mono k5.size)
  have k7 := k6.trans (HB6.out.mono k6.size)
  have k8 := k7.trans (HB7.out.mono k7.size)
  have k9 := k8.trans (HB8.out.mono k8.size)
  have k10 := k9.trans (HB9.out.mono k9.size)
  have k11 := k10.trans (HB10.out.mono k10.size)
  exact k11.trans (HB11.out.mono k11.size)
end Go.Proofs.Ytkdloggkpgjekaa
