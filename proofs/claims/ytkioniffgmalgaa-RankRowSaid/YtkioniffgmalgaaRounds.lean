/-
  Rounds, and a word taken in, by contracts.
-/
import Derived.Test.YtkioniffgmalgaaHalf
import Derived.Outline
namespace Go.Proofs.Ytkioniffgmalgaa
open Go.RowKit Sp

/-- A state's cells. -/
abbrev stC (s : St) : Array Value := #[.int .u64 s.a, .int .u64 s.b, .int .u64 s.c, .int .u64 s.d]

theorem h1 (s : St) (h : s.W) (w : World) :
    Calls Try.prog 44 #[stV s, .int .i64 0, .int .i64 1, .int .i64 13, .int .i64 2, .int .i64 3, .int .i64 16] w fun e w' => e = .returned (stV (half1 s)) ∧ Fr [] w w' := half1_calls s.a s.b s.c s.d h.b h.d w
theorem h2 (s : St) (h : s.W) (w : World) :
    Calls Try.prog 44 #[stV s, .int .i64 2, .int .i64 1, .int .i64 17, .int .i64 0, .int .i64 3, .int .i64 21] w fun e w' => e = .returned (stV (half2 s)) ∧ Fr [] w w' := half2_calls s.a s.b s.c s.d h.b h.d w

theorem Blk.set4 {w : World} {g : Nat} {t : TypeId} {x0 x1 x2 x3 : Value} (h : Blk w g t #[x0, x1, x2, x3]) (a b c d : Value) :
    Blk ((((w.setCell ⟨g, 0, none⟩ a).setCell ⟨g, 1, none⟩ b).setCell ⟨g, 2, none⟩ c).setCell ⟨g, 3, none⟩ d) g t #[a, b, c, d] := by
  have := (((h.set_ 0 a).set_ 1 b).set_ 2 c).set_ 3 d
  simpa using this
theorem Fr.set4 {L : List Nat} {a w : World} {g : Nat} (h : Fr L a w) (hg : a.heap.size ≤ g) (v0 v1 v2 v3 : Value) :
    Fr L a ((((w.setCell ⟨g, 0, none⟩ v0).setCell ⟨g, 1, none⟩ v1).setCell ⟨g, 2, none⟩ v2).setCell ⟨g, 3, none⟩ v3) :=
  (((h.setCell (p := ⟨g, 0, none⟩) (.inr hg) _).setCell (p := ⟨g, 1, none⟩) (.inr hg) _).setCell (p := ⟨g, 2, none⟩) (.inr hg) _).setCell (p := ⟨g, 3, none⟩) (.inr hg) _
theorem Blk.far4 {w : World} {g g' : Nat} {t : TypeId} {cs : Array Value} (h : Blk w g t cs) (hg : g ≠ g') (v0 v1 v2 v3 : Value) :
    Blk ((((w.setCell ⟨g', 0, none⟩ v0).setCell ⟨g', 1, none⟩ v1).setCell ⟨g', 2, none⟩ v2).setCell ⟨g', 3, none⟩ v3) g t cs :=
  (((h.far (p := ⟨g', 0, none⟩) hg _).far (p := ⟨g', 1, none⟩) hg _).far (p := ⟨g', 2, none⟩) hg _).far (p := ⟨g', 3, none⟩) hg _

set_option maxHeartbeats 1000000 in
theorem rounds_calls (s : St) (h : s.W) (n : Nat) (hn : n ≤ 1000) (w : World) :
    Calls Try.prog 34 #[stV s, .int .i64 n] w fun e w' => e = .returned (stV (rnds n s)) ∧ Fr [] w w' := by
  go_enter Try.func34, Try.ntmps34
  go_wp2_with fail
  have hB := (Blk.new w 27 (stC s)).alloc (.cells #[.int .u64 0, .int .u64 0, .int .u64 0, .int .u64 0] 27)
  have hB2 := Blk.new (w.alloc (.cells (stC s) 27)) 27 #[.int .u64 0, .int .u64 0, .int .u64 0, .int .u64 0]
  simp only [World.size_alloc] at hB2
  go_loopw [6] (fun i wr => ∃ k : Nat, k ≤ n ∧ i = .int .i64 k ∧ Blk wr w.heap.size 27 (stC (rnds k s)) ∧ Blk wr (w.heap.size + 1) 27 #[.int .u64 0, .int .u64 0, .int .u64 0, .int .u64 0] ∧ Fr [] w wr) (fun i _ => n - (intOf i).toNat)
  case atStart => exact ⟨0, Nat.zero_le _, rfl, hB, hB2, ((Fr.refl _ _).alloc _).alloc _⟩
  case round =>
    obtain ⟨k, hk, rfl, hBk, hZ, hfr⟩ := hrel
    have hW := rnds_W h k
    generalize hs : rnds k s = t at *
    have HS := Lib.hid hs
    clear hs
    have c0 := hBk.cell 0
    have c1 := hBk.cell 1
    have c2 := hBk.cell 2
    have c3 := hBk.cell 3
    simp at c0 c1 c2 c3
    by_cases hlt : k < n
    · go_wp2_with fail
      refine (h1 t hW _).mono ?_
      rintro e w1 ⟨rfl, hf1⟩
      have hB1 := hf1.blk hBk (by simp)
      have d0 := hB1.cell 0
      have d1 := hB1.cell 1
      have d2 := hB1.cell 2
      have d3 := hB1.cell 3
      simp at d0 d1 d2 d3
      have e0 := hB1.frozen 0
      have e1 := hB1.frozen 1
      have e2 := hB1.frozen 2
      have e3 := hB1.frozen 3
      go_wp2_with fail
      refine (h2 (half1 t) (half1_W hW) _).mono ?_
      rintro e w2 ⟨rfl, hf2⟩
      have hB2 := hf2.blk (hB1.set4 _ _ _ _) (by simp)
      have d0 := hB2.cell 0
      have d1 := hB2.cell 1
      have d2 := hB2.cell 2
      have d3 := hB2.cell 3
      simp at d0 d1 d2 d3
      have e0 := hB2.frozen 0
      have e1 := hB2.frozen 1
      have e2 := hB2.frozen 2
      have e3 := hB2.frozen 3
      have hZ2 := (hf2.blk ((hf1.blk hZ (by simp)).far4 (g' := w.heap.size) (by omega) _ _ _ _) (by simp))
      have hfr2 := ((hfr.trans hf1 (by simp)).set4 (g := w.heap.size) (Nat.le_refl _) (.int .u64 (half1 t).a) (.int .u64 (half1 t).b) (.int .u64 (half1 t).c) (.int .u64 (half1 t).d)).trans hf2 (by simp)
      go_wp2_with fail
      go_roundw
      case rel => exact ⟨k + 1, by omega, by go_num, by have := hB2.set4 (.int .u64 (half2 (half1 t)).a) (.int .u64 (half2 (half1 t)).b) (.int .u64 (half2 (half1 t)).c) (.int .u64 (half2 (half1 t)).d); rwa [rnds, HS.out], hZ2.far4 (by omega) _ _ _ _, hfr2.set4 (Nat.le_refl _) _ _ _ _⟩
      case measure => simp [intOf]; omega
    · obtain rfl : k = n := by omega
      have z0 := hZ.cell 0
      have z1 := hZ.cell 1
      have z2 := hZ.cell 2
      have z3 := hZ.cell 3
      simp at z0 z1 z2 z3
      have e0 := hZ.frozen 0
      have e1 := hZ.frozen 1
      have e2 := hZ.frozen 2
      have e3 := hZ.frozen 3
      go_wp2_with fail
      refine bodyPost_ret (v := stV t) ?_ rfl ⟨by rw [HS.out], hfr.set4 (by omega) _ _ _ _⟩
      have hE := (hZ.set4 (.int .u64 t.a) (.int .u64 t.b) (.int .u64 t.c) (.int .u64 t.d))
      have y0 := hE.cell 0
      have y1 := hE.cell 1
      have y2 := hE.cell 2
      have y3 := hE.cell 3
      simp at y0 y1 y2 y3
      simp [results, Try.results34, go_sem, y0, y1, y2, y3]

end Go.Proofs.Ytkioniffgmalgaa
