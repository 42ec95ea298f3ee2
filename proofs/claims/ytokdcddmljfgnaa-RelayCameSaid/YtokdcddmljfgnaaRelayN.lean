/-
  The relay's New by its contracts.
-/
import Derived.Test.YtokdcddmljfgnaaRelayP
namespace Go.Proofs.Ytokdcddmljfgnaa
open Go.RowKit Go.Shelf
set_option linter.unusedVariables false

theorem rlnew_bad (k : Int) (w : World) (h : k < 1 ∨ 256 < k) : Calls Try.prog 37 #[.int .i64 k] w fun e w' => e = .returned (.tuple #[.pointer none, .int .i64 2]) ∧ w = w' := by
  rcases Int.lt_or_le k 1 with h1 | h1
  · go_enter Try.func37, Try.ntmps37
    have hd : decide (k < 1) = true := by simp [h1]
    go_wp2_with fail
    refine bodyPost_ret (v := .tuple #[.pointer none, .int .i64 2]) (by simp [results, Try.results37, go_sem]) rfl ?_
    exact ⟨rfl, rfl⟩
  · have h2 : 256 < k := by omega
    have hd : decide (k < 1) = false := by simp; omega
    have hd2 : decide (256 < k) = true := by simp [h2]
    go_enter Try.func37, Try.ntmps37
    go_wp2_with fail
    refine bodyPost_ret (v := .tuple #[.pointer none, .int .i64 2]) (by simp [results, Try.results37, go_sem]) rfl ?_
    exact ⟨rfl, rfl⟩

def rF (H : Nat) : Nat → Nat := fun i => H + 2 + 2 * i
def bF (H : Nat) : Nat → Nat := fun i => H + 1 + 2 * i

set_option maxHeartbeats 1000000 in
theorem rlnew_good (N : Nat) (w : World) (h1 : 0 < N) (h2 : N ≤ 256) :
    Calls Try.prog 37 #[.int .i64 N] w fun e w' => e = .returned (.tuple #[.pointer (some ⟨w.heap.size, 0, none⟩), .int .i64 0]) ∧ RelS w' w.heap.size (rF w.heap.size) (bF w.heap.size) N sta0 ∧ Fr [] w w' ∧ w'.heap.size = w.heap.size + 5 := by
  obtain ⟨H, hH⟩ : ∃ H, w.heap.size = H := ⟨_, rfl⟩
  have hd : decide ((N : Int) < 1) = false := by simp; omega
  have hd2 : decide (256 < (N : Int)) = false := by simp; omega
  have hd3 : ¬ (N : Int) < 1 := by omega
  have hd4 : ¬ 256 < (N : Int) := by omega
  have hf0 : Fr [] w (w.alloc (.cells #[.pointer none, .bool false, .bool false, .pointer none, .bool false, .bool false] 62)) := (Fr.refl [] w).alloc _
  have hb0 : Blk (w.alloc (.cells #[.pointer none, .bool false, .bool false, .pointer none, .bool false, .bool false] 62)) H 62 #[.pointer none, .bool false, .bool false, .pointer none, .bool false, .bool false] := by rw [← hH]; exact Blk.new w 62 _
  have hz0 : (w.alloc (.cells #[.pointer none, .bool false, .bool false, .pointer none, .bool false, .bool false] 62)).heap.size = H + 1 := by simp [hH]
  have H0 := Lib.hid (And.intro hf0 (And.intro hb0 hz0))
  have HH := Lib.hid hH
  clear hf0 hb0 hz0
  rw [hH]
  clear hH
  go_enter Try.func37, Try.ntmps37
  go_wp2_with fail
  rw [HH.out]
  go_loopw [16] (fun i wr => ∃ k : Nat, i = .int .i64 k ∧ Fr [] w wr ∧ ((k = 0 ∧ wr.heap.size = H + 1 ∧ Blk wr H 62 #[.pointer none, .bool false, .bool false, .pointer none, .bool false, .bool false]) ∨
      (k = 1 ∧ wr.heap.size = H + 3 ∧ Blk wr H 62 #[.pointer (some ⟨H + 2, 0, none⟩), .bool false, .bool false, .pointer none, .bool false, .bool false] ∧ RingS wr (H + 2) (H + 1) N []) ∨
      (k = 2 ∧ wr.heap.size = H + 5 ∧ Blk wr H 62 #[.pointer (some ⟨H + 2, 0, none⟩), .bool false, .bool false, .pointer (some ⟨H + 4, 0, none⟩), .bool false, .bool false] ∧ RingS wr (H + 2) (H + 1) N [] ∧ RingS wr (H + 4) (H + 3) N []))) (fun i _ => 2 - (intOf i).toNat)
  case atStart => exact ⟨0, rfl, H0.out.1, .inl ⟨rfl, H0.out.2.2, H0.out.2.1⟩⟩
  case round =>
    obtain ⟨k, rfl, hfr, hk⟩ := hrel
    rcases hk with ⟨rfl, hz, hB⟩ | ⟨rfl, hz, hB, hR1⟩ | ⟨rfl, hz, hB, hR1, hR2⟩
    · have hng := new_good N wr h1 (by omega)
      rw [hz] at hng
      simp only [Nat.add_assoc, Nat.reduceAdd] at hng
      have HN := Lib.hid hng
      have HB := Lib.hid hB
      have HF := Lib.hid hfr
      clear hng hB hfr hz
      go_wp2_with fail
      refine HN.out.mono ?_
      rintro e w2 ⟨rfl, hR, hf2, hz2⟩
      have hB2 := hf2.blk HB.out (by simp)
      have hc0 : w2.cell? ⟨H, 0, none⟩ = some (.pointer none) := hB2.cell 0
      have hfz := hB2.frozen 0
      have HALL := Lib.hid (And.intro (hB2.set_ 0 (.pointer (some ⟨H + 2, 0, none⟩))) (And.intro (hR.fr (L := [H]) ((Fr.refl [H] w2).setCell (p := ⟨H, 0, none⟩) (.inl (by simp)) (.pointer (some ⟨H + 2, 0, none⟩))) (by simp) (by simp)) (And.intro ((HF.out.trans hf2 (by simp)).setCell (p := ⟨H, 0, none⟩) (.inr (by simp [HH.out])) (.pointer (some ⟨H + 2, 0, none⟩))) hz2)))
      clear hB2 hR hf2 hz2
      go_wp2_with fail
      go_roundw
      case rel => exact ⟨1, by go_num, HALL.out.2.2.1, .inr (.inl ⟨rfl, by simp [World.setCell, HALL.out.2.2.2], HALL.out.1, HALL.out.2.1⟩)⟩
      case measure => simp [intOf]
    · have hng := new_good N wr h1 (by omega)
      rw [hz] at hng
      simp only [Nat.add_assoc, Nat.reduceAdd] at hng
      have HN := Lib.hid hng
      have HB := Lib.hid hB
      have HR1 := Lib.hid hR1
      have HF := Lib.hid hfr
      clear hng hB hfr hz hR1
      go_wp2_with fail
      refine HN.out.mono ?_
      rintro e w2 ⟨rfl, hR, hf2, hz2⟩
      have hB2 := hf2.blk HB.out (by simp)
      have hc0 : w2.cell? ⟨H, 3, none⟩ = some (.pointer none) := hB2.cell 3
      have hfz := hB2.frozen 3
      have hS : Fr [H] w2 (w2.setCell ⟨H, 3, none⟩ (.pointer (some ⟨H + 4, 0, none⟩))) := (Fr.refl [H] w2).setCell (p := ⟨H, 3, none⟩) (.inl (by simp)) _
      have HALL := Lib.hid (And.intro (hB2.set_ 3 (.pointer (some ⟨H + 4, 0, none⟩))) (And.intro (hR.fr hS (by simp) (by simp)) (And.intro ((HF.out.trans hf2 (by simp)).setCell (p := ⟨H, 3, none⟩) (.inr (by simp [HH.out])) (.pointer (some ⟨H + 4, 0, none⟩))) (And.intro hz2 ((HR1.out.fr hf2 (by simp) (by simp)).fr hS (by simp) (by simp))))))
      clear hB2 hR hf2 hz2 hS
      go_wp2_with fail
      go_roundw
      case rel => exact ⟨2, by go_num, HALL.out.2.2.1, .inr (.inr ⟨rfl, by simp [World.setCell, HALL.out.2.2.2.1], HALL.out.1, HALL.out.2.2.2.2, HALL.out.2.1⟩)⟩
      case measure => simp [intOf]
    · have HALL := Lib.hid (And.intro hz (And.intro hB (And.intro hR1 (And.intro hR2 hfr))))
      clear hz hB hR1 hR2 hfr
      go_wp2_with fail
      refine bodyPost_ret (v := .tuple #[.pointer (some ⟨H, 0, none⟩), .int .i64 0]) (by simp [results, Try.results37, go_sem]) rfl ?_
      refine ⟨rfl, ⟨HALL.out.2.1, fun i hi => ?_, by simp [rF, bF]; omega⟩, HALL.out.2.2.2.2, HALL.out.1⟩
      rcases hi with rfl | rfl
      · exact HALL.out.2.2.1
      · exact HALL.out.2.2.2.1

end Go.Proofs.Ytokdcddmljfgnaa
