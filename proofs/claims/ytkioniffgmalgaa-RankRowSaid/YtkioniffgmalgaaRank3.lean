/-
  rank's score and Score by their contracts.
-/
import Derived.Test.YtkioniffgmalgaaRank2
import Derived.Deep.Cut
namespace Go.Proofs.Ytkioniffgmalgaa
open Go.RowKit Sp
set_option linter.unusedVariables false

theorem tries_cases (weight : Int) : (weight ≤ 0 ∧ tries weight = 0) ∨ (∃ m : Nat, weight = m ∧ 0 < m ∧ m ≤ 100 ∧ tries weight = m) ∨ (100 < weight ∧ tries weight = 100) := by
  rcases Int.lt_or_le 0 weight with h | h
  · rcases Int.lt_or_le 100 weight with h2 | h2
    · exact .inr (.inr ⟨h2, by unfold tries; omega⟩)
    · exact .inr (.inl ⟨weight.toNat, by omega, by omega, by omega, by unfold tries; omega⟩)
  · exact .inl ⟨h, by unfold tries; omega⟩

set_option maxRecDepth 100000 in
set_option maxHeartbeats 1000000 in
theorem score_calls (key : List Int) (s : ByteArray) (weight : Int) (w : World) (hb : Byts key) (hs : s.size ≤ 100) (hw : -9223372036854775808 ≤ weight ∧ weight ≤ 9223372036854775807) :
    Calls Try.prog 38 #[.agg #[.int .u64 (kA key), .int .u64 (kB key)], .string s, .int .i64 weight] w fun e w' => e = .returned (.tuple #[.int .u64 (scS key s weight), .bool (decide (0 < weight))]) ∧ Fr [] w w' := by
  have HC := Lib.hid (fun (k : Nat) (hk : k < 100) W => chance_calls (kA key) (kB key) k s W (kA_W hb) (kB_W hb) (by omega) hs)
  have HWB := Lib.hid (fun n hn => bestTo_W hb s n hn)
  have HWC := Lib.hid (fun (k : Nat) (hk : k < 100) => chS_W hb s (x := (k : Int)) (by omega))
  have HCH : Hid (∀ x, sumS (kA key) (kB key) (sb s ++ [x]) = chS key s x) := Lib.hid (fun x => rfl)
  obtain ⟨a, ha⟩ : ∃ a, kA key = a := ⟨_, rfl⟩
  obtain ⟨b, hbb⟩ : ∃ b, kB key = b := ⟨_, rfl⟩
  rw [ha, hbb] at HC HCH ⊢
  obtain ⟨h, hh⟩ : ∃ h, w.heap.size = h := ⟨_, rfl⟩
  have hA : Fr [] w (w.alloc (.cells #[.int .u64 a, .int .u64 b] 73)) := (Fr.refl [] w).alloc _
  have hk : Blk (w.alloc (.cells #[.int .u64 a, .int .u64 b] 73)) h 73 #[.int .u64 a, .int .u64 b] := by rw [← hh]; exact Blk.new w 73 _
  have HK := Lib.hid (And.intro hk hA)
  have HH := Lib.hid hh
  have htc := tries_cases weight
  have htl := tries_le weight
  obtain ⟨n, hn⟩ : ∃ n, tries weight = n := ⟨_, rfl⟩
  have hsc : scS key s weight = bestTo key s n := by rw [← hn]; rfl
  rw [hn] at htc htl
  rw [hsc]
  clear ha hbb hh hA hk hn hsc
  go_enter Try.func38, Try.ntmps38
  go_upto_region 2 with fail
  rw [HH.out]
  go_cut [12, 13] from 10 (fun s12 s13 wc => s12 = .int .i64 n ∧ s13 = .int .i64 0 ∧ (w.alloc (.cells #[.int .u64 a, .int .u64 b] 73)) = wc)
  case first =>
    rcases htc with ⟨h1, rfl⟩ | ⟨m, rfl, h1, h2, rfl⟩ | ⟨h1, rfl⟩
    · rcases Int.lt_or_le weight 0 with h2 | h2
      · go_wp2_with fail
        go_meet
        exact ⟨rfl, rfl, rfl⟩
      · obtain rfl : weight = 0 := by omega
        go_wp2_with fail
        go_meet
        exact ⟨rfl, rfl, rfl⟩
    · have h3 : ¬ (n : Int) < 0 := by omega
      have h4 : ¬ (100 : Int) < (n : Int) := by omega
      go_wp2_with fail
      go_meet
      exact ⟨by simp, rfl, rfl⟩
    · have h3 : ¬ weight < 0 := by omega
      go_wp2_with fail
      go_meet
      exact ⟨by simp, rfl, rfl⟩
  case rest =>
    obtain ⟨rfl, rfl, rfl⟩ := hcut
    clear htc
    go_wp2_with fail
    go_loopw [8, 13] (fun best i wr => ∃ k : Nat, k ≤ n ∧ i = .int .i64 k ∧ best = .int .u64 (bestTo key s k) ∧ Fr [] w wr ∧ Blk wr h 73 #[.int .u64 a, .int .u64 b]) (fun _ i _ => n - (intOf i).toNat)
    case atStart => exact ⟨0, by omega, rfl, rfl, HK.out.2, HK.out.1⟩
    case round =>
      obtain ⟨k, hkn, rfl, rfl, hfr, hbk⟩ := hrel
      by_cases hlt : k < n
      · have hc0 : wr.cell? ⟨h, 0, none⟩ = some (.int .u64 a) := hbk.cell 0
        have hc1 : wr.cell? ⟨h, 1, none⟩ = some (.int .u64 b) := hbk.cell 1
        have hcon : IntKind.u8.wrap (k : Int) = k := by rw [IntKind.wrap_u8]; omega
        have hch := HC.out k (by omega) wr
        rw [HCH.out] at hch
        have hB := HWB.out k (by omega)
        have hCW := HWC.out k (by omega)
        have hst : bestTo key s (k + 1) = max (bestTo key s k) (chS key s (k : Int)) := rfl
        obtain ⟨x, hx⟩ : ∃ x, bestTo key s k = x := ⟨_, rfl⟩
        obtain ⟨y, hy⟩ : ∃ y, chS key s (k : Int) = y := ⟨_, rfl⟩
        rw [hy] at hch hCW hst
        rw [hx] at hB hst ⊢
        unfold W at hB hCW
        have HST := Lib.hid hst
        have HCHK := Lib.hid hch
        have HBK := Lib.hid hbk
        have HFR := Lib.hid hfr
        clear hst hch hx hy hbk hfr
        rcases Int.lt_or_le x y with hxy | hxy
        all_goals
          go_wp2_with fail
          refine HCHK.out.mono ?_
          rintro e w2 ⟨rfl, hf2⟩
          have HF2 := Lib.hid hf2
          clear hf2
          go_wp2_with fail
          go_roundw
          case rel => exact ⟨k + 1, by omega, by go_num, by rw [HST.out]; first | (congr 1; omega) | (simp; omega), HFR.out.trans HF2.out (by simp), HF2.out.blk HBK.out (by simp)⟩
          case measure => simp [intOf]; omega
      · obtain rfl : k = n := by omega
        have HF := Lib.hid hfr
        clear hfr
        go_wp2_with fail
        refine bodyPost_ret (v := .tuple #[.int .u64 (bestTo key s k), .bool (decide (0 < weight))]) (by simp [results, Try.results38, go_sem]) rfl ⟨rfl, HF.out⟩

theorem Score_calls (key : List Int) (A : Option Addr) (c : Nat) (s : ByteArray) (weight : Int) (w : World) (hX : BytesAt w A key (fun _ => True)) (hb : Byts key) (hl : key.length ≤ 1000) (hs : s.size ≤ 100) (hw : -9223372036854775808 ≤ weight ∧ weight ≤ 9223372036854775807) :
    Calls Try.prog 20 #[.slice A key.length c, .string s, .int .i64 weight] w fun e w' => e = .returned (.tuple #[.int .u64 (scS key s weight), .bool (decide (0 < weight))]) ∧ Fr [] w w' := by
  have HH := Lib.hid (halves_calls key A c w hX hb hl)
  have HC := Lib.hid (fun W => score_calls key s weight W hb hs hw)
  obtain ⟨a, ha⟩ : ∃ a, kA key = a := ⟨_, rfl⟩
  obtain ⟨b, hbb⟩ : ∃ b, kB key = b := ⟨_, rfl⟩
  rw [ha, hbb] at HH HC
  obtain ⟨q, hq⟩ : ∃ q, decide (0 < weight) = q := ⟨_, rfl⟩
  rw [hq] at HC ⊢
  clear hX hb ha hbb hq
  go_enter Try.func20, Try.ntmps20
  go_wp2_with fail
  refine HH.out.mono ?_
  rintro e w1 ⟨rfl, hf1⟩
  have HF1 := Lib.hid hf1
  clear hf1
  go_wp2_with fail
  refine (HC.out w1).mono ?_
  rintro e w2 ⟨rfl, hf2⟩
  have HF2 := Lib.hid (HF1.out.trans hf2 (by simp))
  clear hf2
  go_wp2_with fail
  refine bodyPost_ret (v := .tuple #[.int .u64 (scS key s weight), .bool q]) (by simp [results, Try.results20, go_sem]) rfl ⟨rfl, HF2.out⟩

end Go.Proofs.Ytkioniffgmalgaa
