/-
  rank's chance, halves and Chance by their contracts.
-/
import Derived.Test.YtkioniffgmalgaaRank0
import Derived.Deep.RegionLaw
namespace Go.Proofs.Ytkioniffgmalgaa
open Go.RowKit Sp
set_option linter.unusedVariables false

set_option maxRecDepth 100000 in
set_option maxHeartbeats 1000000 in
theorem chance_calls (k0 k1 x : Int) (s : ByteArray) (w : World) (hk0 : W k0) (hk1 : W k1) (hx : 0 ≤ x ∧ x < 256) (hs : s.size ≤ 100) :
    Calls Try.prog 40 #[.agg #[.int .u64 k0, .int .u64 k1], .string s, .int .u8 x] w fun e w' => e = .returned (.int .u64 (sumS k0 k1 (sb s ++ [x]))) ∧ Fr [] w w' := by
  have hconv := fun wx => run_bytes_of_string (P := Try.prog) wx 9 31 5 s Try.underlying9 Try.underlying31 Try.underlying5
  obtain ⟨h, hh⟩ : ∃ h, w.heap.size = h := ⟨_, rfl⟩
  have hb : Blk (w.alloc (.cells #[.int .u64 k0, .int .u64 k1] 73)) h 73 #[.int .u64 k0, .int .u64 k1] := by rw [← hh]; exact Blk.new w 73 _
  have hc0 : (w.alloc (.cells #[.int .u64 k0, .int .u64 k1] 73)).cell? ⟨h, 0, none⟩ = some (.int .u64 k0) := hb.cell 0
  have hc1 : (w.alloc (.cells #[.int .u64 k0, .int .u64 k1] 73)).cell? ⟨h, 1, none⟩ = some (.int .u64 k1) := hb.cell 1
  have hd0 : ∀ o, ((w.alloc (.cells #[.int .u64 k0, .int .u64 k1] 73)).alloc o).cell? ⟨h, 0, none⟩ = some (.int .u64 k0) := fun o => (hb.alloc o).cell 0
  have hd1 : ∀ o, ((w.alloc (.cells #[.int .u64 k0, .int .u64 k1] 73)).alloc o).cell? ⟨h, 1, none⟩ = some (.int .u64 k1) := fun o => (hb.alloc o).cell 1
  have he0 : ∀ o o', (((w.alloc (.cells #[.int .u64 k0, .int .u64 k1] 73)).alloc o).alloc o').cell? ⟨h, 0, none⟩ = some (.int .u64 k0) := fun o o' => ((hb.alloc o).alloc o').cell 0
  have he1 : ∀ o o', (((w.alloc (.cells #[.int .u64 k0, .int .u64 k1] 73)).alloc o).alloc o').cell? ⟨h, 1, none⟩ = some (.int .u64 k1) := fun o o' => ((hb.alloc o).alloc o').cell 1
  have HXA : Hid (∀ C, (((w.alloc (.cells #[.int .u64 k0, .int .u64 k1] 73)).alloc C).alloc (.cells #[.int .u8 x] 5)).cell? ⟨w.heap.size + 1 + 1, 0, none⟩ = some (.int .u8 x)) := Lib.hid (fun C => by
    have := (Blk.new ((w.alloc (.cells #[.int .u64 k0, .int .u64 k1] 73)).alloc C) 5 #[.int .u8 x]).cell 0
    simpa using this)
  have HXB : Hid (∀ C, (((w.alloc (.cells #[.int .u64 k0, .int .u64 k1] 73)).alloc (.cells #[.int .u8 x] 5)).alloc C).cell? ⟨w.heap.size + 1, 0, none⟩ = some (.int .u8 x)) := Lib.hid (fun C => by
    have := ((Blk.new (w.alloc (.cells #[.int .u64 k0, .int .u64 k1] 73)) 5 #[.int .u8 x]).alloc C).cell 0
    simpa using this)
  have HRA : Hid (∀ cap W', s.size ≤ cap → W'.heap = (((w.alloc (.cells #[.int .u64 k0, .int .u64 k1] 73)).alloc (.cells (bytesRow s cap) 5 ((bytesRow s cap).size, (bytesRow s cap).size + 1))).alloc (.cells #[.int .u8 x] 5)).heap → RowM W' (w.heap.size + 1) cap (sb s)) := Lib.hid (fun cap W' hc hh => by
    have := (rowM_conv (w.alloc (.cells #[.int .u64 k0, .int .u64 k1] 73)) s cap hc).fr ((Fr.refl [] _).alloc (.cells #[.int .u8 x] 5)) (by simp)
    rw [World.size_alloc] at this
    exact this.heap hh)
  have HRB : Hid (∀ cap W', s.size ≤ cap → W'.heap = (((w.alloc (.cells #[.int .u64 k0, .int .u64 k1] 73)).alloc (.cells #[.int .u8 x] 5)).alloc (.cells (bytesRow s cap) 5 ((bytesRow s cap).size, (bytesRow s cap).size + 1))).heap → RowM W' (w.heap.size + 1 + 1) cap (sb s)) := Lib.hid (fun cap W' hc hh => by
    have := rowM_conv ((w.alloc (.cells #[.int .u64 k0, .int .u64 k1] 73)).alloc (.cells #[.int .u8 x] 5)) s cap hc
    rw [World.size_alloc, World.size_alloc] at this
    exact this.heap hh)
  have HCP : Hid (∀ W : World, grownCap W s.size 0 5 ≤ 9223372036854775807) := Lib.hid (fun W => by
    have := grownCap_le_maxLen W s.size 0 5 (by simp only [maxLen]; omega)
    simp only [maxLen] at this; omega)
  have hsb := Byts.snoc (sb_byts s) hx
  have hln : (sb s ++ [x]).length ≤ 101 := by rw [List.length_append, sb_len]; simp; omega
  obtain ⟨ys, hys⟩ : ∃ ys, sb s ++ [x] = ys := ⟨_, rfl⟩
  rw [hys] at hsb hln ⊢
  have HSB := Lib.hid hsb
  have HYS := Lib.hid hys
  clear hsb hys
  have HB := Lib.hid hb
  have HH := Lib.hid hh
  clear hb hh
  go_enter Try.func40, Try.ntmps40
  go_wp2_with fail
  rw [HH.out]
  go_region_law (first
    | (refine step_conv_append (by rfl) (.tmp 12) (.tmp 14) (by rfl) s x _ _ _ (by rfl) (by rfl) (by first | exact HRA.out _ _ (grownCap_ge _ _ _ _) rfl | exact HRB.out _ _ (grownCap_ge _ _ _ _) rfl) (by first | exact HXA.out _ | exact HXB.out _) (by simp) (by omega) (HCP.out _) ys HYS.out ?_; intro A c w3 hX3 hf3; have hg0 : w3.cell? ⟨h, 0, none⟩ = some (.int .u64 k0) := (hf3.cell (p := ⟨h, 0, none⟩) (by have := HH.out; simp; omega) (by have := HH.out; simp; omega)).trans (he0 _ _); have hg1 : w3.cell? ⟨h, 1, none⟩ = some (.int .u64 k1) := (hf3.cell (p := ⟨h, 1, none⟩) (by have := HH.out; simp; omega) (by have := HH.out; simp; omega)).trans (he1 _ _); have HF3 : Hid (Fr [] w w3) := Lib.hid ((((((Fr.refl [] w).alloc _).alloc _).alloc _).drew.drew).trans hf3 (fun y hy => .inr (by simp at hy; omega))); have HX3 := Lib.hid hX3; clear hf3 hX3)
    | (go_simp; go_at_call 16; (with_reducible refine (sum_calls k0 k1 ys A c w3 HX3.out HSB.out hk0 hk1 (by omega)).mono ?_); rintro e w4 ⟨rfl, hf4⟩))
  all_goals
    have HF := Lib.hid (HF3.out.trans hf4 (by simp))
    clear hf4
    go_wp2_with fail
    go_ret
    exact ⟨rfl, HF.out⟩

end Go.Proofs.Ytkioniffgmalgaa
