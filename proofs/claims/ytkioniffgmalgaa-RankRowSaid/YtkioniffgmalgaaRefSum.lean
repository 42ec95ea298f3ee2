/-
  The reference's sum by a contract: it is the program's.
-/
import Derived.Test.YtkioniffgmalgaaRef
import Derived.RangeFuncBox
namespace Go.Proofs.Ytkioniffgmalgaa
open Go.RowKit Sp
set_option linter.unusedVariables false

theorem round_st (s : St) (hs : s.W) (w : World) : Calls Try.prog 36 #[.int .u64 s.a, .int .u64 s.b, .int .u64 s.c, .int .u64 s.d] w fun e w' => e = .returned (st4 (half2 (half1 s))) ∧ w = w' := round_calls s hs w

set_option maxRecDepth 100000 in
set_option maxHeartbeats 2000000 in
theorem refSum_calls (k0 k1 : Int) (bs : List Int) (A : Option Addr) (c : Nat) (w : World) (hX : BytesAt w A bs (fun _ => True)) (hb : Byts bs) (hk0 : W k0) (hk1 : W k1) (hl : bs.length < 1099511627776) :
    Calls Try.prog 15 #[.int .u64 k0, .int .u64 k1, .slice A bs.length c] w fun e w' => e = .returned (.int .u64 (sumS k0 k1 bs)) ∧ Below w.heap.size w w' := by
  have HWD := Lib.hid (words_calls bs A c w hX hb hl)
  have HW := Lib.hid (fun i => foldW_W hk0 hk1 hb i)
  have HE := Lib.hid (foldW_end k0 k1 bs)
  have H0 : Hid (foldW k0 k1 bs 0 = ⟨xo k0 8317987319222330741, xo k1 7237128888997146477, xo k0 7816392313619706465, xo k1 8387220255154660723⟩) := Lib.hid rfl
  have HWL := Lib.hid (fun i => numTo_W (wl_byts hb i))
  clear hX hb
  go_enter Try.func15, Try.ntmps15
  go_wp2_with fail
  refine HWD.out.mono ?_
  rintro e w1 ⟨v, rfl, hown, hbel⟩
  obtain ⟨n, hn⟩ : ∃ n, bs.length / 8 + 1 = n := ⟨_, rfl⟩
  rw [hn] at hown HE
  obtain ⟨g, cap, rfl⟩ : ∃ g cap, v = .slice (some ⟨g, 0, none⟩) n cap := by
    obtain ⟨g, cap, e, _⟩ := hown.form (by omega)
    exact ⟨g, cap, e⟩
  have hcell : ∀ k, k < n → w1.cell? ⟨g, k, none⟩ = some (.int .u64 (numTo (wl bs k) 8)) := by
    intro k hk
    rw [hown.cellAt k (by omega)]
    simp [wordsL, hk]
  have HC := Lib.hid hcell
  have HN : n ≤ 137438953473 := by omega
  clear hcell hown hn
  go_wp2_with fail
  go_loop [7, 8, 9, 10, 12] (fun a b c d i => ∃ k : Nat, k ≤ n ∧ i = .int .i64 k ∧ a = .int .u64 (foldW k0 k1 bs k).a ∧ b = .int .u64 (foldW k0 k1 bs k).b ∧ c = .int .u64 (foldW k0 k1 bs k).c ∧ d = .int .u64 (foldW k0 k1 bs k).d) (fun _ _ _ _ i => n - (intOf i).toNat)
  case atStart => exact ⟨0, Nat.zero_le _, rfl, rfl, rfl, rfl, rfl⟩
  case round =>
    obtain ⟨k, hk, rfl, rfl, rfl, rfl, rfl⟩ := hrel
    have hws := HW.out k
    by_cases hlt : k < n
    · have c0 := HC.out k hlt
      have hm : W (numTo (wl bs k) 8) := HWL.out k
      have hstep : foldW k0 k1 bs (k + 1) = wordS (foldW k0 k1 bs k) (numTo (wl bs k) 8) := rfl
      generalize foldW k0 k1 bs k = s at *
      generalize numTo (wl bs k) 8 = m at *
      have hS1 : St.W ⟨s.a, s.b, s.c, xo m s.d⟩ := ⟨hws.a, hws.b, hws.c, W.xo hm hws.d⟩
      have HST := Lib.hid hstep
      clear hstep
      go_wp2_with fail
      refine (round_calls ⟨s.a, s.b, s.c, xo m s.d⟩ hS1 _).mono ?_
      rintro e w2 ⟨rfl, rfl⟩
      go_wp2_with fail
      have hS2 := half2_W (half1_W hS1)
      have hS3 := half2_W (half1_W hS2)
      have ht : rnds 2 ⟨s.a, s.b, s.c, xo m s.d⟩ = half2 (half1 (half2 (half1 ⟨s.a, s.b, s.c, xo m s.d⟩))) := rfl
      have hst2 : wordS s m = ⟨xo m (rnds 2 ⟨s.a, s.b, s.c, xo m s.d⟩).a, (rnds 2 ⟨s.a, s.b, s.c, xo m s.d⟩).b, (rnds 2 ⟨s.a, s.b, s.c, xo m s.d⟩).c, (rnds 2 ⟨s.a, s.b, s.c, xo m s.d⟩).d⟩ := by
        have e : xo s.d m = xo m s.d := xo_comm hws.d hm
        simp only [wordS]
        rw [e, ht, xo_comm hS3.a hm]
      rw [ht] at hst2
      have HS2 := Lib.hid hst2
      clear hst2 ht
      refine (round_calls (half2 (half1 ⟨s.a, s.b, s.c, xo m s.d⟩)) hS2 _).mono ?_
      rintro e w2 ⟨rfl, rfl⟩
      generalize half2 (half1 (half2 (half1 ⟨s.a, s.b, s.c, xo m s.d⟩))) = t at *
      go_wp2_with fail
      go_round
      case rel => exact ⟨k + 1, by omega, by go_num, by rw [HST.out, HS2.out]; rfl, by rw [HST.out, HS2.out], by rw [HST.out, HS2.out], by rw [HST.out, HS2.out]⟩
      case measure => simp [intOf]; omega
    · obtain rfl : k = n := by omega
      generalize foldW k0 k1 bs k = s at *
      have hS1 : St.W ⟨s.a, s.b, xo 255 s.c, s.d⟩ := ⟨hws.a, hws.b, W.xo (by unfold Sp.W; omega) hws.c, hws.d⟩
      have hend : endS s = xo (xo (xo (rnds 4 ⟨s.a, s.b, xo 255 s.c, s.d⟩).a (rnds 4 ⟨s.a, s.b, xo 255 s.c, s.d⟩).b) (rnds 4 ⟨s.a, s.b, xo 255 s.c, s.d⟩).c) (rnds 4 ⟨s.a, s.b, xo 255 s.c, s.d⟩).d := by
        rw [xo_comm (a := 255) (by unfold Sp.W; omega) hws.c]; rfl
      have HEND := Lib.hid hend
      have HRW := Lib.hid (fun j => rnds_W hS1 j)
      clear hend
      go_wp2_with fail
      go_loop [7, 8, 9, 10, 13] (fun a b c d i => ∃ j : Nat, j ≤ 4 ∧ i = .int .i64 j ∧ a = .int .u64 (rnds j ⟨s.a, s.b, xo 255 s.c, s.d⟩).a ∧ b = .int .u64 (rnds j ⟨s.a, s.b, xo 255 s.c, s.d⟩).b ∧ c = .int .u64 (rnds j ⟨s.a, s.b, xo 255 s.c, s.d⟩).c ∧ d = .int .u64 (rnds j ⟨s.a, s.b, xo 255 s.c, s.d⟩).d) (fun _ _ _ _ i => 4 - (intOf i).toNat)
      case atStart => exact ⟨0, by omega, rfl, rfl, rfl, rfl, rfl⟩
      case round =>
        obtain ⟨j, hj, rfl, rfl, rfl, rfl, rfl⟩ := hrel
        have hrw := HRW.out j
        by_cases hj4 : j < 4
        · have hst : rnds (j + 1) ⟨s.a, s.b, xo 255 s.c, s.d⟩ = half2 (half1 (rnds j ⟨s.a, s.b, xo 255 s.c, s.d⟩)) := rfl
          generalize rnds j ⟨s.a, s.b, xo 255 s.c, s.d⟩ = t at *
          have HST := Lib.hid hst
          clear hst
          go_wp2_with fail
          refine (round_calls t hrw _).mono ?_
          rintro e w2 ⟨rfl, rfl⟩
          go_wp2_with fail
          go_round
          case rel => exact ⟨j + 1, by omega, by go_num, by rw [HST.out], by rw [HST.out], by rw [HST.out], by rw [HST.out]⟩
          case measure => simp [intOf]; omega
        · obtain rfl : j = 4 := by omega
          generalize rnds 4 ⟨s.a, s.b, xo 255 s.c, s.d⟩ = t at *
          go_wp2_with fail
          go_ret
          refine ⟨?_, hbel⟩
          rw [← HE.out, HEND.out]
          rfl
end Go.Proofs.Ytkioniffgmalgaa
