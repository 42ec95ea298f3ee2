/-
  The reference's Score by its contract; the acts' bound 'Great'; RankScores' walk.
-/
import Derived.Test.YtkioniffgmalgaaRank4
namespace Go.Proofs.Ytkioniffgmalgaa
open Go.RowKit Sp
set_option linter.unusedVariables false

set_option maxRecDepth 100000 in
set_option maxHeartbeats 1000000 in
theorem refScore_calls (key : List Int) (A : Option Addr) (c : Nat) (s : ByteArray) (weight : Int) (w : World) (hX : BytesAt w A key (fun _ => True)) (hb : Byts key) (hl : key.length ≤ 1000) (hs : s.size ≤ 100) (hw : -9223372036854775808 ≤ weight ∧ weight ≤ 9223372036854775807) :
    Calls Try.prog 23 #[.slice A key.length c, .string s, .int .i64 weight] w fun e w' => e = .returned (.tuple #[.int .u64 (scS key s weight), .bool (decide (0 < weight))]) ∧ Fr [] w w' := by
  rcases Int.lt_or_le weight 1 with h1 | h1
  · have hd : decide (weight < 1) = true := by simp [h1]
    have hd2 : decide (0 < weight) = false := by simp; omega
    have hsc : scS key s weight = 0 := by
      have : tries weight = 0 := by unfold tries; omega
      rw [scS, this]; rfl
    rw [hd2, hsc]
    clear hX hd2 hsc
    go_enter Try.func23, Try.ntmps23
    go_wp2_with fail
    refine bodyPost_ret (v := .tuple #[.int .u64 0, .bool false]) (by simp [results, Try.results23, go_sem]) rfl ⟨rfl, Fr.refl _ _⟩
  · have hd : decide (weight < 1) = false := by simp; omega
    have hd2 : decide (0 < weight) = true := by simp; omega
    rw [hd2]
    obtain ⟨n, hn⟩ : ∃ n, tries weight = n := ⟨_, rfl⟩
    have hn1 : 1 ≤ n ∧ n ≤ 100 := by rw [← hn]; unfold tries; omega
    have hnw : (100 < weight ∧ n = 100) ∨ (weight = n) := by rw [← hn]; unfold tries; omega
    have hsc : scS key s weight = bestTo key s n := by rw [← hn]; rfl
    rw [hsc]
    have HX := Lib.hid hX
    have HC := Lib.hid (fun (k : Nat) (hk : k < 100) W h => refChance_calls key A c s k W h hb hl (by omega) hs)
    have HWB := Lib.hid (fun n hn => bestTo_W hb s n hn)
    have HWC := Lib.hid (fun (k : Nat) (hk : k < 100) => chS_W hb s (x := (k : Int)) (by omega))
    have HC0 := Lib.hid (refChance_calls key A c s 0 w hX hb hl (by omega) hs)
    have hb1 : bestTo key s 1 = chS key s 0 := by
      have := (chS_W hb s (x := 0) (by omega)).1
      show max 0 (chS key s ((0 : Nat) : Int)) = _
      exact Int.max_eq_right this
    have HB1 := Lib.hid hb1
    clear hX hn hd2 hsc hb1
    go_enter Try.func23, Try.ntmps23
    go_upto_if 14 with fail
    go_cut [2] from 11 (fun s2 wc => s2 = .int .i64 n ∧ w = wc)
    case first =>
      rcases hnw with ⟨h2, rfl⟩ | rfl
      · have hd3 : decide (100 < weight) = true := by simp [h2]
        go_wp2_with fail
        go_meet
        exact ⟨rfl, rfl⟩
      · have hd3 : decide (100 < (n : Int)) = false := by simp; omega
        go_wp2_with fail
        go_meet
        exact ⟨rfl, rfl⟩
    case rest =>
      obtain ⟨rfl, rfl⟩ := hcut
      go_wp2_with fail
      refine HC0.out.mono ?_
      rintro e w1 ⟨rfl, hf1⟩
      rw [← HB1.out]
      have HF1 := Lib.hid hf1
      clear hf1
      go_wp2_with fail
      go_loopw [8, 9] (fun best i wr => ∃ k : Nat, 1 ≤ k ∧ k ≤ n ∧ i = .int .i64 k ∧ best = .int .u64 (bestTo key s k) ∧ Fr [] w wr) (fun _ i _ => n - (intOf i).toNat)
      case atStart => exact ⟨1, by omega, by omega, rfl, rfl, HF1.out⟩
      case round =>
        obtain ⟨k, hk1, hkn, rfl, rfl, hfr⟩ := hrel
        by_cases hlt : k < n
        · have hcon : IntKind.u8.wrap (k : Int) = k := by rw [IntKind.wrap_u8]; omega
          have hch := HC.out k (by omega) wr (HX.out.fr hfr (by simp))
          have hB := HWB.out k (by omega)
          have hCW := HWC.out k (by omega)
          have hst : bestTo key s (k + 1) = max (bestTo key s k) (chS key s (k : Int)) := rfl
          obtain ⟨x, hx⟩ : ∃ x, bestTo key s k = x := ⟨_, rfl⟩
          obtain ⟨y, hy⟩ : ∃ y, chS key s (k : Int) = y := ⟨_, rfl⟩
          rw [hy] at hch hCW hst
          rw [hx] at hB hst ⊢
          unfold W at hB hCW
          have HST := Lib.hid hst
          have HCHK := Lib.hid hch
          have HFR := Lib.hid hfr
          have hd4 : decide ((k : Int) < n) = true := by simp; omega
          clear hst hch hx hy hfr
          rcases Int.lt_or_le x y with hxy | hxy
          · have hd5 : decide (x < y) = true := by simp [hxy]
            go_wp2_with fail
            refine HCHK.out.mono ?_
            rintro e w2 ⟨rfl, hf2⟩
            have HF2 := Lib.hid hf2
            clear hf2
            go_wp2_with fail
            go_roundw
            case rel => exact ⟨k + 1, by omega, by omega, by go_num, by rw [HST.out]; congr 1; omega, HFR.out.trans HF2.out (by simp)⟩
            case measure => simp [intOf]; omega
          · have hd5 : decide (x < y) = false := by simp; omega
            go_wp2_with fail
            refine HCHK.out.mono ?_
            rintro e w2 ⟨rfl, hf2⟩
            have HF2 := Lib.hid hf2
            clear hf2
            go_wp2_with fail
            go_roundw
            case rel => exact ⟨k + 1, by omega, by omega, by go_num, by rw [HST.out]; congr 1; omega, HFR.out.trans HF2.out (by simp)⟩
            case measure => simp [intOf]; omega
        · obtain rfl : k = n := by omega
          have HF := Lib.hid hfr
          clear hfr
          go_wp2_with fail
          refine bodyPost_ret (v := .tuple #[.int .u64 (bestTo key s k), .bool true]) (by simp [results, Try.results23, go_sem]) rfl ⟨rfl, HF.out⟩

end Go.Proofs.Ytkioniffgmalgaa
