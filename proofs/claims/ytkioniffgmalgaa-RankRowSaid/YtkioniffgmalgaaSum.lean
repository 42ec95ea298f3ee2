/-
  The program's sum, and hashes that nobody made, by contracts.
-/
import Derived.Test.YtkioniffgmalgaaTold
namespace Go.Proofs.Ytkioniffgmalgaa
open Go.RowKit Sp

theorem byts_nil : Byts [] := fun i => by simp
theorem hash_new {w : World} {h : Nat} {k0 k1 : Int} (hB : Blk w h 30 (hashC (begunS k0 k1) [] 0)) : HashIs w h k0 k1 [] :=
  ⟨[0, 0, 0, 0, 0, 0, 0, 0], ⟨rfl, fun i => by
    rcases (by omega : i = 0 ∨ i = 1 ∨ i = 2 ∨ i = 3 ∨ i = 4 ∨ i = 5 ∨ i = 6 ∨ i = 7 ∨ 8 ≤ i) with e | e | e | e | e | e | e | e | e
    all_goals first | (subst e; decide) | (rw [List.getD_eq_getElem?_getD, List.getElem?_eq_none (by simpa using e)]; decide), fun j hj => absurd hj (by simp)⟩, hB⟩
theorem BytesAt.fr {w w' : World} {A : Option Addr} {xs : List Int} {ok : Nat → Prop} {L : List Nat} (h : BytesAt w A xs ok) (hf : Fr L w w') (hL : ∀ b, ok b → b ∉ L) : BytesAt w' A xs ok := by
  intro hl
  obtain ⟨b, off, hA, hk, hb, hc⟩ := h hl
  exact ⟨b, off, hA, hk, Nat.lt_of_lt_of_le hb hf.size, fun k hk' => (hf.cell (p := ⟨b, _, none⟩) hb (hL b hk)).trans (hc k hk')⟩
theorem BytesAt.imp {w : World} {A : Option Addr} {xs : List Int} {ok ok' : Nat → Prop} (h : BytesAt w A xs ok) (hi : ∀ b, b < w.heap.size → ok b → ok' b) : BytesAt w A xs ok' := by
  intro hl
  obtain ⟨b, off, hA, hk, hb, hc⟩ := h hl
  exact ⟨b, off, hA, hi b hb hk, hb, hc⟩

theorem sum_calls (k0 k1 : Int) (xs : List Int) (A : Option Addr) (c : Nat) (w : World) (hX : BytesAt w A xs (fun _ => True)) (hb : Byts xs) (hk0 : W k0) (hk1 : W k1) (hl : xs.length < 1099511627776) :
    Calls Try.prog 16 #[.int .u64 k0, .int .u64 k1, .slice A xs.length c] w fun e w' => e = .returned (.int .u64 (sumS k0 k1 xs)) ∧ Fr [] w w' := by
  have HB := Lib.hid hb
  clear hb
  go_enter Try.func16, Try.ntmps16
  go_wp2_with fail
  refine (new_calls k0 k1 _).mono ?_
  rintro e w1 ⟨h, rfl, hB1, hf1, hh⟩
  go_wp2_with fail
  have hX1 : BytesAt w1 A xs (· ≠ h) := (hX.imp (fun b hb _ => (by omega : b ≠ h))).fr hf1 (by simp)
  refine (add_calls h k0 k1 [] xs A c w1 (hash_new hB1) hX1 HB.out hk0 hk1 (by simpa using hl)).mono ?_
  rintro e w2 ⟨rfl, hH2, hf2⟩
  go_wp2_with fail
  refine (told_calls h k0 k1 ([] ++ xs) w2 hH2 HB.out hk0 hk1 (by simpa using hl)).mono ?_
  rintro e w3 ⟨rfl, hf3⟩
  go_wp2_with fail
  go_ret
  exact ⟨rfl, (hf1.trans hf2 (by simpa using hh)).trans hf3 (by simp)⟩

theorem add_nil (v : Value) (w : World) : Calls Try.prog 13 #[.pointer none, v] w fun e w' => e = .returned (.tuple #[]) ∧ w = w' := by
  go_enter Try.func13, Try.ntmps13
  go_wp2
  refine bodyPost_ret (results_none rfl _ _ _) rfl ?_
  exact ⟨rfl, rfl⟩
theorem add_odd (h : Nat) (v : Value) (w : World) (hc : w.cell? ⟨h, 0, none⟩ = some (.bool false)) : Calls Try.prog 13 #[.pointer (some ⟨h, 0, none⟩), v] w fun e w' => e = .returned (.tuple #[]) ∧ w = w' := by
  go_enter Try.func13, Try.ntmps13
  go_wp2
  refine bodyPost_ret (results_none rfl _ _ _) rfl ?_
  exact ⟨rfl, rfl⟩
theorem told_nil (w : World) : Calls Try.prog 14 #[.pointer none] w fun e w' => e = .returned (.int .u64 0) ∧ w = w' := by
  go_enter Try.func14, Try.ntmps14
  go_wp2
  go_ret
  exact ⟨rfl, rfl⟩
theorem told_odd (h : Nat) (w : World) (hc : w.cell? ⟨h, 0, none⟩ = some (.bool false)) : Calls Try.prog 14 #[.pointer (some ⟨h, 0, none⟩)] w fun e w' => e = .returned (.int .u64 0) ∧ w = w' := by
  go_enter Try.func14, Try.ntmps14
  go_wp2
  go_ret
  exact ⟨rfl, rfl⟩

end Go.Proofs.Ytkioniffgmalgaa
