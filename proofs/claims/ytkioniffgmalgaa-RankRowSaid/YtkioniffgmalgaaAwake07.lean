/-
  rank's laws' awake by its contract.
-/
import Derived.Test.YtkioniffgmalgaaRunRow
namespace Go.Proofs.Ytkioniffgmalgaa
open Go.RowKit Go.Sort Sp
set_option linter.unusedVariables false

theorem ints3 (W : World) (t : TypeId) (x y z : Int) : IntsAt (W.alloc (.cells #[.int .i64 x, .int .i64 y, .int .i64 z] t)) (some ⟨W.heap.size, 0, none⟩) [x, y, z] (fun _ => True) := fun _ => by
  have hB := Blk.new W t #[.int .i64 x, .int .i64 y, .int .i64 z]
  refine ⟨W.heap.size, 0, rfl, trivial, hB.lt, fun k u hk => ?_⟩
  rw [Nat.zero_add]
  match k, hk with
  | 0, hk => exact (hB.cell 0).trans (by simp at hk; subst hk; rfl)
  | 1, hk => exact (hB.cell 1).trans (by simp at hk; subst hk; rfl)
  | 2, hk => exact (hB.cell 2).trans (by simp at hk; subst hk; rfl)
  | k + 3, hk => simp at hk
theorem strs3 (W : World) (t : TypeId) (x y z : ByteArray) : StrsAt (W.alloc (.cells #[.string x, .string y, .string z] t)) (some ⟨W.heap.size, 0, none⟩) [x, y, z] (fun _ => True) := fun _ => by
  have hB := Blk.new W t #[.string x, .string y, .string z]
  refine ⟨W.heap.size, 0, rfl, trivial, hB.lt, fun k u hk => ?_⟩
  rw [Nat.zero_add]
  match k, hk with
  | 0, hk => exact (hB.cell 0).trans (by simp at hk; subst hk; rfl)
  | 1, hk => exact (hB.cell 1).trans (by simp at hk; subst hk; rfl)
  | 2, hk => exact (hB.cell 2).trans (by simp at hk; subst hk; rfl)
  | k + 3, hk => simp at hk

def abc : List ByteArray := [⟨#[97]⟩, ⟨#[98]⟩, ⟨#[99]⟩]
theorem scS_none (key : List Int) (s : ByteArray) {x : Int} (hx : x ≤ 0) : scS key s x = 0 := by
  have : tries x = 0 := by unfold tries; omega
  unfold scS
  rw [this]
  rfl
theorem abc_one : ordS [] abc [0, 0, -1] = [0, 1, 2] := by
  have hr : runs [] abc [0, 0, -1] = [⟨0, 0, false⟩, ⟨1, 0, false⟩, ⟨2, 0, false⟩] := by
    simp [runs, abc, List.range_succ, scS_none]
  have ho : ordR (runs [] abc [0, 0, -1]) = [⟨0, 0, false⟩, ⟨1, 0, false⟩, ⟨2, 0, false⟩] := by
    refine ordR_one (by rw [hr]) ?_
    simp [leR_iff]
  simp [ordS, ho]
theorem abc_two : ordS [] abc [0, 5, 0] = [1, 0, 2] := by
  obtain ⟨x, hx⟩ : ∃ x, scS [] ⟨#[98]⟩ 5 = x := ⟨_, rfl⟩
  have hr : runs [] abc [0, 5, 0] = [⟨0, 0, false⟩, ⟨1, x, true⟩, ⟨2, 0, false⟩] := by
    simp [runs, abc, List.range_succ, scS_none, hx]
  have ho : ordR (runs [] abc [0, 5, 0]) = [⟨1, x, true⟩, ⟨0, 0, false⟩, ⟨2, 0, false⟩] := by
    refine ordR_one (by rw [hr]; exact List.Perm.swap _ _ _) ?_
    simp [leR_iff]
  simp [ordS, ho]

theorem order_none (W : World) : Calls Try.prog 26 #[.slice none 0 0, .slice none 0 0, .slice none 0 0] W fun e w' => ∃ A c, e = .returned (.slice A 0 c) ∧ Fr [] W w' := by
  refine (order_calls [] none 0 [] none 0 [] none 0 W (fun h => absurd h (by simp)) (fun i => by simp) (by simp) (fun h => absurd h (by simp)) (by simp) (fun h => absurd h (by simp)) (by simp) (by simp) (by simp)).mono ?_
  rintro e w' ⟨v, rfl, ho, hf⟩
  obtain ⟨A, c, rfl, _⟩ := own_cell ho
  exact ⟨A, c, rfl, hf⟩
theorem order_abc (ws ys : List Int) (hws : ∀ x ∈ ws, -9223372036854775808 ≤ x ∧ x ≤ 9223372036854775807) (hl : ws.length = 3) (ho : ordS [] abc ws = ys) (b1 b2 : Addr) (W : World) (hS : StrsAt W (some b1) abc (fun _ => True)) (hI : IntsAt W (some b2) ws (fun _ => True)) :
    Calls Try.prog 26 #[.slice none 0 0, .slice (some b1) 3 3, .slice (some b2) 3 3] W fun e w' => ∃ A c, e = .returned (.slice A 3 c) ∧ IntsAt w' A ys (fun _ => True) ∧ Fr [] W w' := by
  have h := order_calls [] none 0 abc (some b1) 3 ws (some b2) 3 W (fun h => absurd h (by simp)) (fun i => by simp) (by simp) hS (fun s hs => by simp only [abc, List.mem_cons, List.not_mem_nil, or_false] at hs; rcases hs with rfl | rfl | rfl <;> decide) hI hws (by simp [abc]) (by omega)
  rw [hl, ho] at h
  have hy : ys.length = 3 := by rw [← ho, ordS_len, hl]; rfl
  refine h.mono ?_
  rintro e w' ⟨v, rfl, ho, hf⟩
  rw [show min abc.length 3 = ys.length by rw [hy]; rfl] at ho
  obtain ⟨A, c, rfl, hI⟩ := ints_of_own ho
  rw [hy]
  exact ⟨A, c, rfl, fun hp => by obtain ⟨b, off, e, _, r⟩ := hI hp; exact ⟨b, off, e, trivial, r⟩, hf⟩
theorem same3 (ys : List Int) (hl : ys.length = 3) (A : Option Addr) (c : Nat) (b : Addr) (W : World) (h1 : IntsAt W A ys (fun _ => True)) (h2 : IntsAt W (some b) ys (fun _ => True)) :
    Calls Try.prog 27 #[.slice A 3 c, .slice (some b) 3 3] W fun e w' => e = .returned (.bool true) ∧ Fr [] W w' := by
  have h := same_calls ys ys A (some b) c 3 W h1 h2 (by omega) (by omega)
  rw [hl] at h
  simpa using h

set_option maxRecDepth 100000 in
set_option maxHeartbeats 1000000 in
theorem awake_calls (w : World) : Calls Try.prog 17 #[] w fun e w' => e = .returned (.bool true) ∧ Fr [] w w' := by
  obtain ⟨wa, hwa⟩ : ∃ wa, w.alloc (.cells #[.string ⟨#[97]⟩, .string ⟨#[98]⟩, .string ⟨#[99]⟩] 9) = wa := ⟨_, rfl⟩
  have hfa : Fr [] w wa := by rw [← hwa]; exact (Fr.refl [] w).alloc _
  have hsa : StrsAt wa (some ⟨w.heap.size, 0, none⟩) abc (fun _ => True) := by rw [← hwa]; exact strs3 w 9 _ _ _
  obtain ⟨h, hh⟩ : ∃ h, w.heap.size = h := ⟨_, rfl⟩
  rw [hh] at hsa
  have HH := Lib.hid hh
  have HWA := Lib.hid hwa
  have HFA := Lib.hid hfa
  have HSA := Lib.hid hsa
  have HO2 := Lib.hid (fun b1 b2 W h1 h2 => order_abc [0, 0, -1] [0, 1, 2] (by simp) rfl abc_one b1 b2 W h1 h2)
  have HO3 := Lib.hid (fun b1 b2 W h1 h2 => order_abc [0, 5, 0] [1, 0, 2] (by simp) rfl abc_two b1 b2 W h1 h2)
  clear hh hwa hfa hsa
  go_enter Try.func17, Try.ntmps17
  go_wp2_with fail
  rw [HWA.out, HH.out]
  refine (order_none wa).mono ?_
  rintro e w1 ⟨A1, c1, rfl, hf1⟩
  have HF1 := Lib.hid hf1
  clear hf1
  go_wp2_with fail
  refine (HO2.out _ _ _ ((HSA.out.fr HF1.out (by simp)).fr (Fr.alloc (Fr.refl [] w1) _) (by simp)) (ints3 w1 3 _ _ _)).mono ?_
  rintro e w2 ⟨A2, c2, rfl, hI2, hf2⟩
  have HI2 := Lib.hid hI2
  have HF2 := Lib.hid ((HF1.out.alloc (.cells #[.int .i64 0, .int .i64 0, .int .i64 (-1)] 3)).trans hf2 (by simp))
  clear hI2 hf2
  go_wp2_with fail
  refine (same3 [0, 1, 2] rfl _ _ _ _ (HI2.out.fr (Fr.alloc (Fr.refl [] w2) _) (by simp)) (ints3 w2 3 _ _ _)).mono ?_
  rintro e w3 ⟨rfl, hf3⟩
  have HF3 := Lib.hid ((HF2.out.alloc (.cells #[.int .i64 0, .int .i64 1, .int .i64 2] 3)).trans hf3 (by simp))
  clear hf3
  go_wp2_with fail
  refine (HO3.out _ _ _ ((HSA.out.fr HF3.out (by simp)).fr (Fr.alloc (Fr.refl [] w3) _) (by simp)) (ints3 w3 3 _ _ _)).mono ?_
  rintro e w4 ⟨A4, c4, rfl, hI4, hf4⟩
  have HI4 := Lib.hid hI4
  have HF4 := Lib.hid ((HF3.out.alloc (.cells #[.int .i64 0, .int .i64 5, .int .i64 0] 3)).trans hf4 (by simp))
  clear hI4 hf4
  go_wp2_with fail
  refine (same3 [1, 0, 2] rfl _ _ _ _ (HI4.out.fr (Fr.alloc (Fr.refl [] w4) _) (by simp)) (ints3 w4 3 _ _ _)).mono ?_
  rintro e w5 ⟨rfl, hf5⟩
  have HF5 := Lib.hid ((HFA.out.trans HF4.out (by simp)).trans ((Fr.alloc (Fr.refl [] w4) (.cells #[.int .i64 1, .int .i64 0, .int .i64 2] 3)).trans hf5 (by simp)) (by simp))
  clear hf5
  go_wp2_with fail
  go_ret
  exact ⟨rfl, HF5.out⟩

end Go.Proofs.Ytkioniffgmalgaa
