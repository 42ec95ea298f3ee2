/-
  The laws' 'awake' (the chapter's examples) answers true.
-/
import Derived.Test.YtlhogpnfongfmaaQuota
import Derived.Outline
namespace Go.Proofs.Ytlhogpnfongfmaa
open Go.RowKit Go.Maps

def fA (k : Nat) : Bs → Nat := upd (fun _ => 0) [97] k
theorem fA_at (k : Nat) : fA k [97] = k := by simp [fA, upd]
theorem fA_upd (k v : Nat) : upd (fA k) [97] v = fA v := by funext t; simp only [fA, upd]; split <;> rfl
theorem fA_zero : fA 0 = fun _ => 0 := by funext t; simp [fA, upd]

theorem takeA {q m n k : Nat} {w : World} (most : Int) (b : Bool) (k' : Nat) (hb : decide ((k : Int) < most) = b) (hk : (if b then k + 1 else k) = k') (h : QAt w q m n (fA k)) (hn : n < 1000000) :
    Calls Try.prog 11 #[.pointer (some ⟨q, 0, none⟩), .string { data := #[97] }, .int .i64 most] w fun e w' => e = .returned (.bool b) ∧ QAt w' q m (n + 1) (fA k') ∧ Fr [m] w w' := by
  have := take_any q m n (fA k) { data := #[97] } (by decide) most w h hn
  simp only [fA_at, takeF, fA_upd] at this
  refine this.mono fun e w' ⟨he, hq, hf⟩ => ⟨by rw [he, hb], ?_, hf⟩
  subst hb hk
  by_cases hr : (k : Int) < most
  · simpa [hr] using hq
  · simpa [hr] using hq

theorem giveA {q m n k : Nat} {w : World} (b : Bool) (k' : Nat) (hb : decide (0 < k) = b) (hk : k - 1 = k') (h : QAt w q m n (fA k)) (hn : n < 1000000) :
    Calls Try.prog 10 #[.pointer (some ⟨q, 0, none⟩), .string { data := #[97] }] w fun e w' => e = .returned (.bool b) ∧ QAt w' q m (n + 1) (fA k') ∧ Fr [m] w w' := by
  have := give_any q m n (fA k) { data := #[97] } (by decide) w h hn
  simp only [fA_at, giveF, fA_upd] at this
  subst hb hk
  exact this

set_option maxHeartbeats 1000000 in
theorem awake_calls (w : World) : Calls Try.prog 6 #[] w fun e w' => e = .returned (.bool true) ∧ Fr [] w w' := by
  go_enter Try.func6, Try.ntmps6
  go_wp2_with fail
  refine (new_calls _).mono ?_
  rintro e w1 ⟨q, m, rfl, h0, hf0, hq, hm⟩
  rw [← fA_zero] at h0
  go_wp2_with fail
  refine (takeA 2 true 1 rfl rfl h0 (by omega)).mono ?_
  rintro e w2 ⟨rfl, h1, hf1⟩
  go_wp2_with fail
  refine (takeA 2 true 2 rfl rfl h1 (by omega)).mono ?_
  rintro e w3 ⟨rfl, h2, hf2⟩
  go_wp2_with fail
  refine (takeA 2 false 2 rfl rfl h2 (by omega)).mono ?_
  rintro e w4 ⟨rfl, h3, hf3⟩
  go_wp2_with fail
  refine (takeA 3 true 3 rfl rfl h3 (by omega)).mono ?_
  rintro e w5 ⟨rfl, h4, hf4⟩
  go_wp2_with fail
  refine (giveA true 2 rfl rfl h4 (by omega)).mono ?_
  rintro e w6 ⟨rfl, h5, hf5⟩
  go_wp2_with fail
  refine (giveA true 1 rfl rfl h5 (by omega)).mono ?_
  rintro e w7 ⟨rfl, h6, hf6⟩
  go_wp2_with fail
  refine (giveA true 0 rfl rfl h6 (by omega)).mono ?_
  rintro e w8 ⟨rfl, h7, hf7⟩
  go_wp2_with fail
  refine (giveA false 0 rfl rfl h7 (by omega)).mono ?_
  rintro e w9 ⟨rfl, h8, hf8⟩
  go_wp2_with fail
  refine (take_no q m _ _ { data := #[98] } (by decide) 0 _ h8 (by simp [fA, upd])).mono ?_
  rintro e w10 ⟨rfl, rfl⟩
  go_wp2_with fail
  go_ret
  have hm' : ∀ x ∈ [m], x ∈ ([] : List Nat) ∨ w.heap.size ≤ x := by simpa using hm
  exact ⟨rfl, (((((((((hf0).trans hf1 hm').trans hf2 hm').trans hf3 hm').trans hf4 hm').trans hf5 hm').trans hf6 hm').trans hf7 hm').trans hf8 hm')⟩

end Go.Proofs.Ytlhogpnfongfmaa
