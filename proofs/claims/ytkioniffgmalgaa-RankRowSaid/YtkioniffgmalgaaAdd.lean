/-
  Bytes added to a hash, by a contract.
-/
import Derived.Test.YtkioniffgmalgaaWord
import Derived.Deep.RegionLaw
import Derived.BigRegion
namespace Go.Proofs.Ytkioniffgmalgaa
open Go.RowKit Sp

/-- The hash at block h was given the bytes bs. -/
def HashIs (w : World) (h : Nat) (k0 k1 : Int) (bs : List Int) : Prop :=
  ∃ L, Tail bs L ∧ Blk w h 30 (hashC (stOf k0 k1 bs (bs.length / 8)) L bs.length)
/-- A slice of bytes reads as xs. -/
def BytesAt (w : World) (A : Option Addr) (xs : List Int) (ok : Nat → Prop) : Prop :=
  0 < xs.length → ∃ b off, A = some ⟨b, off, none⟩ ∧ ok b ∧ b < w.heap.size ∧ ∀ k, k < xs.length → w.cell? ⟨b, off + k, none⟩ = some (.int .u8 (xs.getD k 0))

theorem blk_s {w : World} {h : Nat} {t : TypeId} {v0 v1 v2 v3 v4 v5 v6 v7 v8 v9 v10 v11 v12 v13 : Value} (hB : Blk w h t #[v0, v1, v2, v3, v4, v5, v6, v7, v8, v9, v10, v11, v12, v13]) :
    w.cell? ⟨h, 1, none⟩ = some v1 ∧ w.cell? ⟨h, 2, none⟩ = some v2 ∧ w.cell? ⟨h, 3, none⟩ = some v3 ∧ w.cell? ⟨h, 4, none⟩ = some v4 := ⟨hB.cell 1, hB.cell 2, hB.cell 3, hB.cell 4⟩
theorem hashC_set (s : St) (L : List Int) (hL : L.length = 8) (n : Int) (j : Nat) (hj : j < 8) (x : Int) : (hashC s L n).setIfInBounds (5 + j) (.int .u8 x) = hashC s (L.set j x) n := by
  match L, hL with
  | [a0, a1, a2, a3, a4, a5, a6, a7], _ =>
    rcases (by omega : j = 0 ∨ j = 1 ∨ j = 2 ∨ j = 3 ∨ j = 4 ∨ j = 5 ∨ j = 6 ∨ j = 7) with e | e | e | e | e | e | e | e <;> subst e <;> rfl
theorem hashC_n (s : St) (L : List Int) (n m : Int) : (hashC s L n).setIfInBounds 13 (.int .i64 m) = hashC s L m := rfl

set_option maxHeartbeats 1000000 in
theorem add_calls (h : Nat) (k0 k1 : Int) (bs xs : List Int) (A : Option Addr) (c : Nat) (w : World) (hH : HashIs w h k0 k1 bs) (hX : BytesAt w A xs (· ≠ h)) (hb : Byts (bs ++ xs)) (hk0 : W k0) (hk1 : W k1) (hl : bs.length + xs.length < 1099511627776) :
    Calls Try.prog 13 #[.pointer (some ⟨h, 0, none⟩), .slice A xs.length c] w fun e w' => e = .returned (.tuple #[]) ∧ HashIs w' h k0 k1 (bs ++ xs) ∧ Fr [h] w w' := by
  have hmade : w.cell? ⟨h, 0, none⟩ = some (.bool true) := by
    obtain ⟨L, _, hB⟩ := hH
    exact hB.cell 0
  have HB := Lib.hid hb
  clear hb
  go_enter Try.func13, Try.ntmps13
  go_wp2_with fail
  go_loopw [17] (fun i wr => ∃ k : Nat, k ≤ xs.length ∧ i = .int .i64 k ∧ HashIs wr h k0 k1 (bs ++ xs.take k) ∧ Fr [h] w wr) (fun i _ => xs.length - (intOf i).toNat)
  case atStart => exact ⟨0, Nat.zero_le _, rfl, by simpa using hH, Fr.refl _ _⟩
  case round =>
    obtain ⟨k, hk, rfl, ⟨L, hT, hB⟩, hfr⟩ := hrel
    by_cases hlt : k < xs.length
    · obtain ⟨b, off, rfl, hne, hbw, hcell⟩ := hX (by omega)
      have cx := (hfr.cell (p := ⟨b, off + k, none⟩) hbw (by simpa using hne)).trans (hcell k hlt)
      have hbb : Byts (bs ++ xs.take k) := by
        have := HB.out.take (bs.length + k)
        rwa [List.take_length_add_append] at this
      have hbx := HB.out (bs.length + k)
      rw [List.getD_eq_getElem?_getD, List.getElem?_append_right (by omega), Nat.add_sub_cancel_left, ← List.getD_eq_getElem?_getD] at hbx
      have hnext : bs ++ xs.take (k + 1) = (bs ++ xs.take k) ++ [xs.getD k 0] := by
        rw [List.take_add_one, List.append_assoc, List.getD_eq_getElem?_getD, List.getElem?_eq_getElem hlt]; rfl
      generalize xs.getD k 0 = x at *
      have HNX := Lib.hid hnext
      clear hnext
      have hlen : (bs ++ xs.take k).length < 1099511627776 := by simp; omega
      generalize hbk : bs ++ xs.take k = bk at *
      have HK := Lib.hid hbk
      clear hcell hX hbk
      have hsW := stOf_W hk0 hk1 hbb (bk.length / 8)
      generalize hs : stOf k0 k1 bk (bk.length / 8) = s at *
      have HS := Lib.hid hs
      clear hs
      generalize hn : bk.length = n at *
      have HN := Lib.hid hn
      clear hn
      have cn : wr.cell? ⟨h, 13, none⟩ = some (.int .i64 n) := hB.cell 13
      have fn := hB.frozen 13
      have cj : wr.cell? ⟨h, 5 + n % 8, none⟩ = some (.int .u8 (L.getD (n % 8) 0)) := by
        rw [hB.cell]; unfold hashC
        rcases (by omega : n % 8 = 0 ∨ n % 8 = 1 ∨ n % 8 = 2 ∨ n % 8 = 3 ∨ n % 8 = 4 ∨ n % 8 = 5 ∨ n % 8 = 6 ∨ n % 8 = 7) with e | e | e | e | e | e | e | e <;> rw [e] <;> rfl
      have fj := hB.frozen (5 + n % 8)
      go_wp2_with fail
      have hB1 : Blk (wr.setCell ⟨h, 5 + n % 8, none⟩ (.int .u8 x)).drew h 30 (hashC s (L.set (n % 8) x) n) := by
        have := hB.set_ (5 + n % 8) (.int .u8 x)
        rwa [hashC_set s L hT.1 n (n % 8) (by omega) x] at this
      have c13 := hB1.cell 13
      have f13 := hB1.frozen 13
      rw [show (hashC s (L.set (n % 8) x) n)[13]? = some (.int .i64 n) from rfl] at c13
      go_region
      by_cases hw : (n + 1) % 8 = 0
      · have hz : (((n : Int) + 1) % 8 == 0) = true := by rw [beq_iff_eq]; omega
        go_wp2_with fail
        have hB2 : Blk ((wr.setCell ⟨h, 5 + n % 8, none⟩ (.int .u8 x)).setCell ⟨h, 13, none⟩ (.int .i64 ((n : Int) + 1))).drew h 30 (hashC s (L.set (n % 8) x) ((n : Int) + 1)) := by
          have := hB1.set_ 13 (.int .i64 ((n : Int) + 1))
          rwa [hashC_n] at this
        have hf2 : Fr [h] w ((wr.setCell ⟨h, 5 + n % 8, none⟩ (.int .u8 x)).setCell ⟨h, 13, none⟩ (.int .i64 ((n : Int) + 1))).drew := ((hfr.setCell (p := ⟨h, 5 + n % 8, none⟩) (.inl (by simp)) _).setCell (p := ⟨h, 13, none⟩) (.inl (by simp)) _).drew
        generalize ((wr.setCell ⟨h, 5 + n % 8, none⟩ (.int .u8 x)).setCell ⟨h, 13, none⟩ (.int .i64 ((n : Int) + 1))).drew = W2 at *
        clear c13 f13 hB1 cn fn cj fj cx hB
        obtain ⟨L2, hL2⟩ : ∃ L2, L.set (n % 8) x = L2 := ⟨_, rfl⟩
        have hlen2 : L2.length = 8 := by rw [← hL2]; simp [hT.1]
        have hby2 : Byts L2 := by rw [← hL2]; exact byts_set hT.2.1 hbx _
        rw [hL2] at hB2
        have HL2 := Lib.hid hL2
        clear hL2
        match L2, hlen2 with
        | [a0, a1, a2, a3, a4, a5, a6, a7], _ =>
        have hnum := fun W => number_calls [a0, a1, a2, a3, a4, a5, a6, a7] rfl hby2 W
        have HNUM := Lib.hid hnum
        have hwd := fun W => word_calls s hsW (numTo [a0, a1, a2, a3, a4, a5, a6, a7] 8) (numTo_W hby2) W
        have HWD := Lib.hid hwd
        clear hnum hby2 hwd
        unfold hashC at hB2
        simp only [List.getD_cons_zero, List.getD_cons_succ] at hB2
        have c1 := hB2.cell 1
        have c2 := hB2.cell 2
        have c3 := hB2.cell 3
        have c4 := hB2.cell 4
        have c5 := hB2.cell 5
        have c6 := hB2.cell 6
        have c7 := hB2.cell 7
        have c8 := hB2.cell 8
        have c9 := hB2.cell 9
        have c10 := hB2.cell 10
        have c11 := hB2.cell 11
        have c12 := hB2.cell 12
        simp at c1 c2 c3 c4 c5 c6 c7 c8 c9 c10 c11 c12
        have hB2d : Blk W2.drew h 30 #[.bool true, .int .u64 s.a, .int .u64 s.b, .int .u64 s.c, .int .u64 s.d, .int .u8 a0, .int .u8 a1, .int .u8 a2, .int .u8 a3, .int .u8 a4, .int .u8 a5, .int .u8 a6, .int .u8 a7, .int .i64 ((n : Int) + 1)] := hB2
        have hf2d : Fr [h] w W2.drew := hf2.drew
        have hHI : ∀ W, Blk W h 30 #[.bool true, .int .u64 s.a, .int .u64 s.b, .int .u64 s.c, .int .u64 s.d, .int .u8 a0, .int .u8 a1, .int .u8 a2, .int .u8 a3, .int .u8 a4, .int .u8 a5, .int .u8 a6, .int .u8 a7, .int .i64 ((n : Int) + 1)] →
            HashIs ((((W.setCell ⟨h, 1, none⟩ (.int .u64 (wordS s (numTo [a0, a1, a2, a3, a4, a5, a6, a7] 8)).a)).setCell ⟨h, 2, none⟩ (.int .u64 (wordS s (numTo [a0, a1, a2, a3, a4, a5, a6, a7] 8)).b)).setCell ⟨h, 3, none⟩ (.int .u64 (wordS s (numTo [a0, a1, a2, a3, a4, a5, a6, a7] 8)).c)).setCell ⟨h, 4, none⟩ (.int .u64 (wordS s (numTo [a0, a1, a2, a3, a4, a5, a6, a7] 8)).d)) h k0 k1 (bs ++ xs.take (k + 1)) := by
          intro W hW
          rw [HNX.out]
          have hst := step_whole k0 k1 hT hbx (by rw [HN.out]; exact hw)
          rw [HN.out, HL2.out, HS.out] at hst
          refine ⟨_, hst.1, ?_⟩
          have := (((hW.set_ 1 (.int .u64 (wordS s (numTo [a0, a1, a2, a3, a4, a5, a6, a7] 8)).a)).set_ 2 (.int .u64 (wordS s (numTo [a0, a1, a2, a3, a4, a5, a6, a7] 8)).b)).set_ 3 (.int .u64 (wordS s (numTo [a0, a1, a2, a3, a4, a5, a6, a7] 8)).c)).set_ 4 (.int .u64 (wordS s (numTo [a0, a1, a2, a3, a4, a5, a6, a7] 8)).d)
          rw [List.length_append, List.length_singleton, HN.out, hst.2]
          simpa [hashC] using this
        have hfr4 : ∀ W W' v0 v1 v2 v3, Fr [h] w W → Fr [] W W' → Fr [h] w ((((W'.setCell ⟨h, 1, none⟩ v0).setCell ⟨h, 2, none⟩ v1).setCell ⟨h, 3, none⟩ v2).setCell ⟨h, 4, none⟩ v3) := fun W W' v0 v1 v2 v3 a b =>
          ((((a.trans b (by simp)).setCell (p := ⟨h, 1, none⟩) (.inl (by simp)) _).setCell (p := ⟨h, 2, none⟩) (.inl (by simp)) _).setCell (p := ⟨h, 3, none⟩) (.inl (by simp)) _).setCell (p := ⟨h, 4, none⟩) (.inl (by simp)) _
        have HHI := Lib.hid hHI
        have HF4 := Lib.hid hfr4
        clear hHI hfr4
        go_region_law (first
          | (go_simp; go_at_call 33; refine (HNUM.out _).mono ?_; rintro e W3 ⟨rfl, hf3⟩; have hB3 := hf3.blk hB2d (by simp); obtain ⟨d1, d2, d3, d4⟩ := blk_s hB3)
          | (go_simp; go_at_call 32; refine (HWD.out _).mono ?_; rintro e W4 ⟨rfl, hf4⟩; have hB4 := hf4.blk hB3 (by simp); obtain ⟨e1, e2, e3, e4⟩ := blk_s hB4; have g1 := hB4.frozen 1; have g2 := hB4.frozen 2; have g3 := hB4.frozen 3; have g4 := hB4.frozen 4))
        all_goals go_wp2_with fail
        all_goals go_roundw
        all_goals first
          | (simp [intOf]; omega; done)
          | exact ⟨k + 1, by omega, by go_num, HHI.out _ hB4, HF4.out _ _ _ _ _ _ (hf2d.trans hf3 (by simp)) hf4⟩
      · have hz : (((n : Int) + 1) % 8 == 0) = false := by rw [beq_eq_false_iff_ne]; omega
        go_wp2_with fail
        have hB2 : Blk ((wr.setCell ⟨h, 5 + n % 8, none⟩ (.int .u8 x)).setCell ⟨h, 13, none⟩ (.int .i64 ((n : Int) + 1))).drew h 30 (hashC s (L.set (n % 8) x) ((n : Int) + 1)) := by
          have := hB1.set_ 13 (.int .i64 ((n : Int) + 1))
          rwa [hashC_n] at this
        have hf2 : Fr [h] w ((wr.setCell ⟨h, 5 + n % 8, none⟩ (.int .u8 x)).setCell ⟨h, 13, none⟩ (.int .i64 ((n : Int) + 1))).drew := ((hfr.setCell (p := ⟨h, 5 + n % 8, none⟩) (.inl (by simp)) _).setCell (p := ⟨h, 13, none⟩) (.inl (by simp)) _).drew
        go_roundw
        case rel => exact ⟨k + 1, by omega, by go_num, by
          rw [HNX.out]
          have hst := step_more k0 k1 hT hbx (by rw [HN.out]; exact hw)
          rw [HN.out, HS.out] at hst
          refine ⟨_, hst.1, ?_⟩
          rw [List.length_append, List.length_singleton, HN.out, hst.2]
          exact hB2, hf2⟩
        case measure => simp [intOf]; omega
    · obtain rfl : k = xs.length := by omega
      go_wp2_with fail
      go_end0
      rw [List.take_length] at hB
      exact ⟨rfl, ⟨L, by simpa using hT, by simpa using hB⟩, hfr⟩

end Go.Proofs.Ytkioniffgmalgaa
