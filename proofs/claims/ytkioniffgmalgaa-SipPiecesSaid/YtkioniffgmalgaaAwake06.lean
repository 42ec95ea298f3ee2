/-
  The examples of the chapter on sums: 'awake' answers true.
-/
import Derived.Test.YtkioniffgmalgaaSums
import Derived.Test.YtkioniffgmalgaaPlain6
import Derived.Outline
namespace Go.Proofs.Ytkioniffgmalgaa
open Go.RowKit Sp
set_option linter.unusedVariables false

theorem upto_succ (k : Nat) : upto (k + 1) = upto k ++ [(k : Int)] := by unfold upto; rw [List.range_succ, List.map_append]; rfl
theorem upto_len (k : Nat) : (upto k).length = k := by simp [upto]
theorem upto_byts : Byts (upto 15) := by
  intro i
  rcases Nat.lt_or_ge i 15 with h | h
  · rw [List.getD_eq_getElem?_getD, List.getElem?_eq_getElem (by rw [upto_len]; exact h)]; simp [upto]; omega
  · rw [List.getD_eq_getElem?_getD, List.getElem?_eq_none (by rw [upto_len]; exact h)]; simp

set_option maxRecDepth 100000 in
set_option maxHeartbeats 1000000 in
theorem awake06_calls (w : World) : Calls Try.prog 21 #[] w fun e w' => e = .returned (.bool true) ∧ Fr [] w w' := by
  obtain ⟨i0, hi, hz0, hz1, hz2⟩ := info_parts info5
  have w0 : Hid (W 506097522914230528) := Lib.hid (by unfold W; omega)
  have w1 : Hid (W 1084818905618843912) := Lib.hid (by unfold W; omega)
  have HS0 := Lib.hid sum_none
  have HS1 := Lib.hid sum_15
  go_enter Try.func21, Try.ntmps21
  go_wp2_with fail
  go_loopw [1, 2] (fun v i wr => ∃ k : Nat, k ≤ 15 ∧ i = .int .i64 k ∧ wr.ownsRow w.heap.size 5 1 v k (bcells (upto k)) ∧ Fr [] w wr) (fun _ i _ => 15 - (intOf i).toNat)
  case atStart => exact ⟨0, by omega, rfl, World.ownsRow_nil _ _ _ _, Fr.refl _ _⟩
  case round =>
    obtain ⟨k, hk, rfl, hown, hfr⟩ := hrel
    by_cases hlt : k < 15
    · have hsuc := upto_succ k
      have HSU := Lib.hid hsuc
      clear hsuc
      go_wp2_with (first
        | (at_builtin; refine wpList_append_own _ rfl _ _ 31 rfl w.heap.size 5 i0 (.int .u8 0) 1 1 Try.underlying31 hi hz0 hz1 hz2 rfl (by decide) _ _ _ rfl (hown.alloc _) ⟨wr.heap.size, 0, none⟩ 1 1 [.int .u8 k] rfl rfl (cell_one_new _ _ _) (by simp [Value.oneCell']) (by unfold maxLen; omega) (by omega) (by have := hfr.size; simp; omega) ?_; intro v' w1' hown' hgrow _))
      have hg2 : (wr.alloc (.cells #[.int .u8 k] 5)).grownBy w1' u1.ownBlock := hgrow
      have hf1 : Fr [] w w1' := (hfr.alloc (.cells #[.int .u8 k] 5)).trans (Fr.of_grownO hg2) (fun x hx => .inr (own_ge hown (by simpa using hx : u1.ownBlock = some x)))
      clear hgrow hg2
      go_wp2_with fail
      go_roundw
      case rel => exact ⟨k + 1, by omega, by go_num, by rw [HSU.out, bcells_append]; exact hown', hf1⟩
      case measure => simp [intOf]; omega
    · obtain rfl : k = 15 := by omega
      obtain ⟨A, c, rfl, hl, _, hX, _⟩ := own_form hown
      have HX := Lib.hid (hX.imp (ok' := fun _ => True) fun _ _ _ => trivial)
      clear hX hl hown
      go_wp2_with fail
      refine (sum_calls _ _ [] none 0 wr (fun h => absurd h (by simp)) byts_nil w0.out w1.out (by simp)).mono ?_
      rintro e w2 ⟨rfl, hf2⟩
      rw [HS0.out]
      go_wp2_with fail
      have hs := sum_calls _ _ (upto 15) A c w2 (HX.out.fr hf2 (by simp)) upto_byts w0.out w1.out (by rw [upto_len]; omega)
      rw [HS1.out, upto_len] at hs
      refine hs.mono ?_
      rintro e w3 ⟨rfl, hf3⟩
      go_wp2_with fail
      go_ret
      exact ⟨rfl, (hfr.trans hf2 (by simp)).trans hf3 (by simp)⟩
end Go.Proofs.Ytkioniffgmalgaa
