/-
  The relay's functions by their contracts.
-/
import Derived.Test.YtokdcddmljfgnaaRelayS
import Derived.Deep.RegionHeld3
namespace Go.Proofs.Ytokdcddmljfgnaa
open Go.RowKit Go.Shelf
set_option linter.unusedVariables false

/-- A side's number. -/
def Sd (s : Int) (i : Nat) : Prop := s = 0 ∧ i = 0 ∨ s = 1 ∧ i = 1
theorem Sd.side {s : Int} {i : Nat} (h : Sd s i) : i = 0 ∨ i = 1 := by rcases h with ⟨_, h⟩ | ⟨_, h⟩ <;> simp [h]

theorem ret_int {k : IntKind} {x y : Int} (h : x = y) : Ending.returned (.int k x) = .returned (.int k y) := by rw [h]
theorem wn_ended {N i : Nat} {S : Sta} (h : S.e i = true) : wn N S i = 0 := by simp [wn, h]
theorem wn_open {N i : Nat} {S : Sta} (h : S.e i = false) : wn N S i = N - (S.x i).length := by simp [wn, h]

section
variable (p N : Nat) (r b : Nat → Nat) (S : Sta) (w : World)

set_option maxHeartbeats 1000000 in
theorem rwants_calls (s : Int) (i : Nat) (h : RelS w p r b N S) (hs : Sd s i) :
    Calls Try.prog 30 #[.pointer (some ⟨p, 0, none⟩), .int .i64 s] w fun e w' => e = .returned (.int .i64 (wn N S i)) ∧ w = w' := by
  have hr := h.cellR hs.side
  have he := h.cellE hs.side
  have hrd := (h.ring i hs.side).rd
  have hl := h.lt hs.side
  have H := Lib.hid h
  obtain ⟨xs, hxs⟩ : ∃ xs, S.x i = xs := ⟨_, rfl⟩
  obtain ⟨ei, hei⟩ : ∃ ei, S.e i = ei := ⟨_, rfl⟩
  obtain ⟨ri, hri⟩ : ∃ ri, r i = ri := ⟨_, rfl⟩
  rw [hei] at he
  rw [hri] at hr hrd
  rw [hxs] at hl hrd
  have HX := Lib.hid hxs
  have HE := Lib.hid hei
  have HRD := Lib.hid hrd
  clear h hrd hxs hei hri
  rcases hs with ⟨rfl, rfl⟩ | ⟨rfl, rfl⟩
  all_goals
    simp only [Nat.reduceMul, Nat.reduceAdd] at hr he
    go_enter Try.func30, Try.ntmps30
    go_wp2_with fail
    (first | (with_reducible refine (from_zero _ _ _ _ _ _ _ w H.out.relC).mono ?_) | (with_reducible refine (from_one _ _ _ _ _ _ _ w H.out.relC).mono ?_))
    rintro e w1 ⟨rfl, rfl⟩
    cases ei
    · go_wp2_with fail
      refine (room_calls _ N xs.length w HRD.out).mono ?_
      rintro e w1 ⟨rfl, rfl⟩
      go_wp2_with fail
      go_ret
      exact ⟨ret_int (by rw [wn_open HE.out, HX.out]; omega), rfl⟩
    · go_wp2_with fail
      go_ret
      exact ⟨ret_int (by rw [wn_ended HE.out]; rfl), rfl⟩

theorem rwants_off (s : Int) (h : RelS w p r b N S) (hs : s < 0 ∨ 2 ≤ s) : Calls Try.prog 30 #[.pointer (some ⟨p, 0, none⟩), .int .i64 s] w fun e w' => e = .returned (.int .i64 0) ∧ w = w' := by
  have H := Lib.hid h; clear h
  go_enter Try.func30, Try.ntmps30
  go_wp2_with fail
  refine (from_off p r b N S s w H.out hs).mono ?_
  rintro e w1 ⟨rfl, rfl⟩
  go_wp2_with fail
  go_ret
  exact ⟨rfl, rfl⟩

theorem wrap_off {s : Int} (h1 : -9223372036854775808 ≤ s ∧ s ≤ 9223372036854775807) (hs : s < 0 ∨ 2 ≤ s) : wrap64 (1 - s) < 0 ∨ 2 ≤ wrap64 (1 - s) := by
  unfold wrap64; omega

theorem rwaits_off (s : Int) (h : RelS w p r b N S) (h1 : -9223372036854775808 ≤ s ∧ s ≤ 9223372036854775807) (hs : s < 0 ∨ 2 ≤ s) : Calls Try.prog 33 #[.pointer (some ⟨p, 0, none⟩), .int .i64 s] w fun e w' => e = .returned (.int .i64 0) ∧ w = w' := by
  have H := Lib.hid h; clear h
  have HW := Lib.hid (wrap_off h1 hs)
  go_enter Try.func33, Try.ntmps33
  clear h1 hs
  go_wp2_with fail
  refine (from_off p r b N S _ w H.out HW.out).mono ?_
  rintro e w1 ⟨rfl, rfl⟩
  go_wp2_with fail
  go_ret
  exact ⟨rfl, rfl⟩

theorem rtake_off (s k : Int) (h : RelS w p r b N S) (h1 : -9223372036854775808 ≤ s ∧ s ≤ 9223372036854775807) (hs : s < 0 ∨ 2 ≤ s) : Calls Try.prog 34 #[.pointer (some ⟨p, 0, none⟩), .int .i64 s, .int .i64 k] w fun e w' => e = .returned (.slice none 0 0) ∧ w = w' := by
  have H := Lib.hid h; clear h
  have HW := Lib.hid (wrap_off h1 hs)
  go_enter Try.func34, Try.ntmps34
  clear h1 hs
  go_wp2_with fail
  refine (from_off p r b N S _ w H.out HW.out).mono ?_
  rintro e w1 ⟨rfl, rfl⟩
  go_wp2_with fail
  go_ret
  exact ⟨rfl, rfl⟩

theorem rshut_off (s : Int) (h : RelS w p r b N S) (h1 : -9223372036854775808 ≤ s ∧ s ≤ 9223372036854775807) (hs : s < 0 ∨ 2 ≤ s) : Calls Try.prog 35 #[.pointer (some ⟨p, 0, none⟩), .int .i64 s] w fun e w' => e = .returned (.bool false) ∧ w = w' := by
  have H := Lib.hid h; clear h
  have HW := Lib.hid (wrap_off h1 hs)
  go_enter Try.func35, Try.ntmps35
  clear h1 hs
  go_wp2_with fail
  refine (from_off p r b N S _ w H.out HW.out).mono ?_
  rintro e w1 ⟨rfl, rfl⟩
  go_wp2_with fail
  go_ret
  exact ⟨rfl, rfl⟩

theorem rend_off (s : Int) (h : RelS w p r b N S) (hs : s < 0 ∨ 2 ≤ s) : Calls Try.prog 32 #[.pointer (some ⟨p, 0, none⟩), .int .i64 s] w fun e w' => e = .returned (.int .i64 2) ∧ w = w' := by
  have H := Lib.hid h; clear h
  go_enter Try.func32, Try.ntmps32
  go_wp2_with fail
  refine (from_off p r b N S s w H.out hs).mono ?_
  rintro e w1 ⟨rfl, rfl⟩
  go_wp2_with fail
  refine (from_zero _ _ _ _ _ _ _ w H.out.relC).mono ?_
  rintro e w1 ⟨rfl, rfl⟩
  go_wp2_with fail
  go_ret
  exact ⟨rfl, rfl⟩

theorem rput_off (s : Int) (A : Option Addr) (len c : Nat) (h : RelS w p r b N S) (hs : s < 0 ∨ 2 ≤ s) (hl : len ≤ 9223372036854775807) : Calls Try.prog 31 #[.pointer (some ⟨p, 0, none⟩), .int .i64 s, .slice A len c] w fun e w' => e = .returned (.int .i64 0) ∧ w = w' := by
  have H := Lib.hid h; clear h
  go_enter Try.func31, Try.ntmps31
  go_wp2_with fail
  refine (rwants_off p N r b S w s H.out hs).mono ?_
  rintro e w1 ⟨rfl, rfl⟩
  have hm : min (len : Int) 0 = 0 := by omega
  go_wp2_with fail
  all_goals (go_ret; exact ⟨rfl, rfl⟩)

theorem rover_calls (h : RelS w p r b N S) : Calls Try.prog 36 #[.pointer (some ⟨p, 0, none⟩)] w fun e w' => e = .returned (.bool (overB S)) ∧ w = w' := by
  have h2 : w.cell? ⟨p, 2, none⟩ = some (.bool (S.t 1)) := h.blk.cell 2
  have h5 : w.cell? ⟨p, 5, none⟩ = some (.bool (S.t 0)) := h.blk.cell 5
  obtain ⟨a, ha⟩ : ∃ a, S.t 0 = a := ⟨_, rfl⟩
  obtain ⟨c, hc⟩ : ∃ c, S.t 1 = c := ⟨_, rfl⟩
  rw [ha] at h5
  rw [hc] at h2
  have H := Lib.hid h
  have HA := Lib.hid (And.intro ha hc)
  clear h ha hc
  go_enter Try.func36, Try.ntmps36
  cases a <;> cases c
  all_goals
    go_wp2_with fail
    refine (from_zero _ _ _ _ _ _ _ w H.out.relC).mono ?_
    rintro e w1 ⟨rfl, rfl⟩
    go_wp2_with fail
    go_ret
    exact ⟨by simp [overB, HA.out.1, HA.out.2], rfl⟩

end
end Go.Proofs.Ytokdcddmljfgnaa
