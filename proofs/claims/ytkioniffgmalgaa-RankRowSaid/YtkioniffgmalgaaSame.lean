/-
  postilionref07.Same by its contract; the order of runners is one: laws.
-/
import Derived.Test.YtkioniffgmalgaaRank9
namespace Go.Proofs.Ytkioniffgmalgaa
open Go.RowKit Go.Sort Sp
set_option linter.unusedVariables false

theorem leR_trans (a b c : Rn) (h1 : leR a b = true) (h2 : leR b c = true) : leR a c = true := by
  simp only [leR, Bool.not_eq_true'] at *
  exact ltR_swo.ntrans c b a h2 h1
theorem leR_total (a b : Rn) : (leR a b || leR b a) = true := by
  simp only [leR]
  cases h : ltOf cfR b a with
  | false => simp
  | true =>
    cases h2 : ltOf cfR a b with
    | false => simp
    | true => have := ltR_swo.trans _ _ _ h h2; rw [ltR_swo.irrefl] at this; cases this
theorem leR_anti (a b : Rn) (h1 : leR a b = true) (h2 : leR b a = true) : a = b := by
  simp only [leR, Bool.not_eq_true'] at h1 h2
  exact ltR_total a b h2 h1
theorem ordR_perm (l : List Rn) : (ordR l).Perm l := List.mergeSort_perm _ _
theorem ordR_sorted (l : List Rn) : (ordR l).Pairwise (fun x y => leR x y = true) := List.pairwise_mergeSort leR_trans leR_total l
/-- The order is the one sorted row. -/
theorem ordR_one {l m : List Rn} (hp : m.Perm l) (hs : m.Pairwise (fun x y => leR x y = true)) : ordR l = m :=
  List.Perm.eq_of_pairwise (le := fun x y => leR x y = true) (fun a b _ _ h1 h2 => leR_anti a b h1 h2) (ordR_sorted l) hs ((ordR_perm l).trans hp.symm)
theorem leR_iff (x y : Rn) : leR x y = true ↔ ¬ ((y.has = true ∧ x.has = false) ∨ (y.has = x.has ∧ (x.score < y.score ∨ (y.score = x.score ∧ y.place < x.place)))) := by
  simp only [leR, Bool.not_eq_true']
  exact ltR_not y x

set_option maxHeartbeats 400000 in
theorem same_calls (xs ys : List Int) (A B : Option Addr) (c d : Nat) (w : World) (hX : IntsAt w A xs (fun _ => True)) (hY : IntsAt w B ys (fun _ => True)) (hl : xs.length ≤ 9223372036854775807) (hl2 : ys.length ≤ 9223372036854775807) :
    Calls Try.prog 27 #[.slice A xs.length c, .slice B ys.length d] w fun e w' => e = .returned (.bool (decide (xs = ys))) ∧ Fr [] w w' := by
  by_cases hlen : xs.length = ys.length
  · have HX := Lib.hid hX
    have HY := Lib.hid hY
    clear hX hY
    rw [← hlen]
    go_enter Try.func27, Try.ntmps27
    go_wp2_with fail
    go_loopw [5] (fun i wr => ∃ k : Nat, k ≤ xs.length ∧ i = .int .i64 k ∧ xs.take k = ys.take k ∧ Fr [] w wr) (fun i _ => xs.length - (intOf i).toNat)
    case atStart => exact ⟨0, by omega, rfl, rfl, Fr.refl _ _⟩
    case round =>
      obtain ⟨k, hk, rfl, htk, hfr⟩ := hrel
      have HT := Lib.hid htk
      clear htk
      by_cases hlt : k < xs.length
      · obtain ⟨b1, o1, rfl, _, hb1, hc1⟩ := (HX.out.fr hfr (fun _ _ _ => by simp)) (by omega)
        obtain ⟨b2, o2, rfl, _, hb2, hc2⟩ := (HY.out.fr hfr (fun _ _ _ => by simp)) (by omega)
        obtain ⟨x, hgx⟩ : ∃ x, xs[k]? = some x := ⟨_, List.getElem?_eq_getElem hlt⟩
        obtain ⟨y, hgy⟩ : ∃ y, ys[k]? = some y := ⟨_, List.getElem?_eq_getElem (by omega)⟩
        have hx := hc1 k x hgx
        have hy := hc2 k y hgy
        clear hc1 hc2
        have HG := Lib.hid (And.intro hgx hgy)
        clear hgx hgy
        by_cases hxy : x = y
        · subst hxy
          go_wp2_with fail
          go_quiet (fail)
          go_wp2_with fail
          go_roundw
          case rel => exact ⟨k + 1, by omega, by go_num, by rw [List.take_add_one, List.take_add_one, HT.out, HG.out.1, HG.out.2], hfr.drewN _⟩
          case measure => simp [intOf]; omega
        · have hne : (x == y) = false := by simpa using hxy
          go_wp2_with fail
          go_quiet (fail)
          go_wp2_with fail
          go_ret
          have : decide (xs = ys) = false := by
            simp only [decide_eq_false_iff_not]
            rintro rfl
            exact hxy (by have := HG.out.1.symm.trans HG.out.2; simpa using this)
          exact ⟨by rw [this]; rfl, hfr.drewN _⟩
      · obtain rfl : k = xs.length := by omega
        go_wp2_with fail
        go_ret
        have := HT.out
        rw [List.take_length, hlen, List.take_length] at this
        exact ⟨by simp [this], hfr⟩
  · have hne : decide (xs = ys) = false := by simp; rintro rfl; exact hlen rfl
    have hne2 : ((xs.length : Int) == (ys.length : Int)) = false := by simp; omega
    rw [hne]
    clear hX hY
    go_enter Try.func27, Try.ntmps27
    go_wp2_with fail
    go_ret
    exact ⟨rfl, Fr.refl _ _⟩


end Go.Proofs.Ytkioniffgmalgaa
