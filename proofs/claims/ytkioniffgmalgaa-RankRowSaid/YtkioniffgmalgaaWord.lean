/-
  A hash's begin, a word taken in, a word's number, by contracts.
-/
import Derived.Test.YtkioniffgmalgaaRounds
import Derived.Test.YtkioniffgmalgaaPlain2
namespace Go.Proofs.Ytkioniffgmalgaa
open Go.RowKit Sp

/-- Four cells of a block, and that none is frozen. -/
theorem Blk.four {w : World} {g : Nat} {t : TypeId} {x0 x1 x2 x3 : Value} (h : Blk w g t #[x0, x1, x2, x3]) :
    (w.cell? ⟨g, 0, none⟩ = some x0 ∧ w.cell? ⟨g, 1, none⟩ = some x1 ∧ w.cell? ⟨g, 2, none⟩ = some x2 ∧ w.cell? ⟨g, 3, none⟩ = some x3) ∧
    w.frozen? ⟨g, 0, none⟩ = false ∧ w.frozen? ⟨g, 1, none⟩ = false ∧ w.frozen? ⟨g, 2, none⟩ = false ∧ w.frozen? ⟨g, 3, none⟩ = false :=
  ⟨⟨h.cell 0, h.cell 1, h.cell 2, h.cell 3⟩, h.frozen 0, h.frozen 1, h.frozen 2, h.frozen 3⟩

theorem begun_calls (k0 k1 : Int) (w : World) : Calls Try.prog 31 #[.int .u64 k0, .int .u64 k1] w fun e w' => e = .returned (stV (begunS k0 k1)) ∧ Fr [] w w' := by
  go_enter Try.func31, Try.ntmps31
  go_wp2_with fail
  refine bodyPost_ret (v := stV (begunS k0 k1)) ?_ rfl ⟨rfl, (Fr.refl _ _).alloc _⟩
  simp [results, Try.results31, go_sem, begunS, xo]

set_option maxHeartbeats 400000 in
theorem word_calls (s : St) (hs : s.W) (m : Int) (hm : W m) (w : World) : Calls Try.prog 32 #[stV s, .int .u64 m] w fun e w' => e = .returned (stV (wordS s m)) ∧ Fr [] w w' := by
  have hW0 : St.W ⟨s.a, s.b, s.c, xo s.d m⟩ := ⟨hs.a, hs.b, hs.c, W.xo hs.d hm⟩
  go_enter Try.func32, Try.ntmps32
  go_wp2_with fail
  refine (rounds_calls ⟨s.a, s.b, s.c, xo s.d m⟩ hW0 2 (by omega) _).mono ?_
  rintro e w1 ⟨rfl, hf1⟩
  have hA := hf1.blk ((Blk.new w 27 #[.int .u64 s.a, .int .u64 s.b, .int .u64 s.c, .int .u64 (xo s.d m)]).alloc (.cells #[.int .u64 0, .int .u64 0, .int .u64 0, .int .u64 0] 27)) (by simp)
  have hZ : Blk w1 (w.heap.size + 1) 27 #[.int .u64 0, .int .u64 0, .int .u64 0, .int .u64 0] := by
    have := Blk.new (w.alloc (.cells #[.int .u64 s.a, .int .u64 s.b, .int .u64 s.c, .int .u64 (xo s.d m)] 27)) 27 #[.int .u64 0, .int .u64 0, .int .u64 0, .int .u64 0]
    simp only [World.size_alloc] at this
    exact hf1.blk this (by simp)
  have hfw := (((Fr.refl [] w).alloc _).alloc _).trans hf1 (by simp)
  generalize ht : rnds 2 ⟨s.a, s.b, s.c, xo s.d m⟩ = t at *
  have HT := Lib.hid ht
  clear ht hf1
  have hA4 := hA.set4 (.int .u64 t.a) (.int .u64 t.b) (.int .u64 t.c) (.int .u64 t.d)
  obtain ⟨⟨c0, c1, c2, c3⟩, f0, f1, f2, f3⟩ := hA.four
  obtain ⟨⟨z0, z1, z2, z3⟩, y0, y1, y2, y3⟩ := hZ.four
  go_wp2_with fail
  have e : wordS s m = ⟨xo t.a m, t.b, t.c, t.d⟩ := by unfold wordS; rw [HT.out]
  rw [e]
  clear e
  have hfz := (((hfw.set4 (g := w.heap.size) (Nat.le_refl _) (.int .u64 t.a) (.int .u64 t.b) (.int .u64 t.c) (.int .u64 t.d)).setCell (p := ⟨w.heap.size, 0, none⟩) (.inr (Nat.le_refl _)) (.int .u64 (xo t.a m))).set4 (g := w.heap.size + 1) (by omega) (.int .u64 (xo t.a m)) (.int .u64 t.b) (.int .u64 t.c) (.int .u64 t.d))
  have hZ4 := ((hZ.far4 (g' := w.heap.size) (by omega) (.int .u64 t.a) (.int .u64 t.b) (.int .u64 t.c) (.int .u64 t.d)).far (p := ⟨w.heap.size, 0, none⟩) (by simp) (.int .u64 (xo t.a m))).set4 (.int .u64 (xo t.a m)) (.int .u64 t.b) (.int .u64 t.c) (.int .u64 t.d)
  refine bodyPost_ret (v := stV ⟨xo t.a m, t.b, t.c, t.d⟩) ?_ rfl ⟨rfl, hfz⟩
  obtain ⟨⟨r0, r1, r2, r3⟩, _⟩ := hZ4.four
  unfold xo at r0 r1 r2 r3
  simp [results, Try.results32, go_sem, r0, r1, r2, r3, xo]

theorem number_calls (bs : List Int) (hl : bs.length = 8) (hb : ∀ i, 0 ≤ bs.getD i 0 ∧ bs.getD i 0 < 256) (w : World) :
    Calls Try.prog 33 #[.agg (bs.map (Value.int .u8)).toArray] w fun e w' => e = .returned (.int .u64 (numTo bs 8)) ∧ Fr [] w w' := by
  have hB := Blk.new w 28 (bs.map (Value.int .u8)).toArray
  have hcell : ∀ k, k < 8 → (w.alloc (.cells (bs.map (Value.int .u8)).toArray 28)).cell? ⟨w.heap.size, k, none⟩ = some (.int .u8 (bs.getD k 0)) := fun k hk => by
    rw [hB.cell k]; simp [List.getD, List.getElem?_eq_getElem (show k < bs.length by omega)]
  have HC := Lib.hid hcell; have HB := Lib.hid hb; have HL := Lib.hid hl
  clear hcell hB hb hl
  go_enter Try.func33, Try.ntmps33
  go_wp2_with fail
  go_loop [3, 5] (fun m i => ∃ k : Nat, k ≤ 8 ∧ i = .int .i64 k ∧ m = .int .u64 (numTo bs k)) (fun _ i => 8 - (intOf i).toNat)
  case atStart => exact ⟨0, by omega, rfl, rfl⟩
  case round =>
    obtain ⟨k, hk, rfl, rfl⟩ := hrel
    by_cases hlt : k < 8
    · have c0 := HC.out k hlt
      have hbk := HB.out k
      have hor := numTo_or HB.out k hlt
      rw [show min (8 * k) 64 = 8 * k from by omega] at hor
      generalize bs.getD k 0 = b at *
      obtain ⟨hb0, hb1⟩ := hbk
      have HO := Lib.hid hor
      clear hor
      go_wp2_with fail
      go_round
      case rel => exact ⟨k + 1, by omega, by go_num, by rw [HO.out]⟩
      case measure => simp [intOf]; omega
    · obtain rfl : k = 8 := by omega
      go_wp2_with fail
      go_ret
      exact ⟨rfl, (Fr.refl _ _).alloc _⟩

/-- A hash's cells. -/
def hashC (s : St) (bs : List Int) (n : Int) : Array Value :=
  #[.bool true, .int .u64 s.a, .int .u64 s.b, .int .u64 s.c, .int .u64 s.d, .int .u8 (bs.getD 0 0), .int .u8 (bs.getD 1 0), .int .u8 (bs.getD 2 0), .int .u8 (bs.getD 3 0), .int .u8 (bs.getD 4 0), .int .u8 (bs.getD 5 0), .int .u8 (bs.getD 6 0), .int .u8 (bs.getD 7 0), .int .i64 n]

theorem new_calls (k0 k1 : Int) (w : World) : Calls Try.prog 12 #[.int .u64 k0, .int .u64 k1] w fun e w' => ∃ h, e = .returned (.pointer (some ⟨h, 0, none⟩)) ∧ Blk w' h 30 (hashC (begunS k0 k1) [] 0) ∧ Fr [] w w' ∧ w.heap.size ≤ h := by
  go_enter Try.func12, Try.ntmps12
  go_wp2_with fail
  refine (begun_calls k0 k1 _).mono ?_
  rintro e w1 ⟨rfl, hf1⟩
  have hs1 := hf1.size
  go_wp2_with fail
  go_ret
  exact ⟨w1.heap.size, rfl, Blk.new w1 30 (hashC (begunS k0 k1) [] 0), hf1.alloc _, hs1⟩

end Go.Proofs.Ytkioniffgmalgaa
