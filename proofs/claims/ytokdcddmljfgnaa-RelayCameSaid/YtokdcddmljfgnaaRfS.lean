/-
  The reference relay: its cells, and its small functions by their contracts.
-/
import Derived.Test.YtokdcddmljfgnaaRelayN
import Derived.Test.YtokdcddmljfgnaaRef01
import Derived.Test.YtokdcddmljfgnaaOrder
namespace Go.Proofs.Ytokdcddmljfgnaa
open Go.RowKit Go.Shelf
set_option linter.unusedVariables false

def rfCells (N : Nat) (v : Nat → Value) (S : Sta) : Array Value := #[.int .i64 N, v 0, v 1, .bool (S.e 0), .bool (S.e 1), .bool (S.t 0), .bool (S.t 1)]

/-- The reference relay at block q: two slices that own what waits, whether each has ended, whether each side was shut. -/
structure RfS (w : World) (q base N : Nat) (v : Nat → Value) (S : Sta) : Prop where
  blk : Blk w q 82 (rfCells N v S)
  own : ∀ i, i = 0 ∨ i = 1 → w.ownsRow base 5 1 (v i) (S.x i).length (bcells (S.x i))
  apart : Apart (v 0) (v 1)
  lo : q < base ∧ base ≤ w.heap.size
  len : ∀ i, i = 0 ∨ i = 1 → (S.x i).length ≤ N

section
variable {w w' : World} {q base N i : Nat} {v : Nat → Value} {S : Sta} {L : List Nat}
theorem RfS.cellN (h : RfS w q base N v S) : w.cell? ⟨q, 0, none⟩ = some (.int .i64 N) := h.blk.cell 0
theorem RfS.cellV (h : RfS w q base N v S) (hi : i = 0 ∨ i = 1) : w.cell? ⟨q, 1 + i, none⟩ = some (v i) := by
  rcases hi with rfl | rfl
  · exact h.blk.cell 1
  · exact h.blk.cell 2
theorem RfS.cellE (h : RfS w q base N v S) (hi : i = 0 ∨ i = 1) : w.cell? ⟨q, 3 + i, none⟩ = some (.bool (S.e i)) := by
  rcases hi with rfl | rfl
  · exact h.blk.cell 3
  · exact h.blk.cell 4
theorem RfS.cellT (h : RfS w q base N v S) (hi : i = 0 ∨ i = 1) : w.cell? ⟨q, 5 + i, none⟩ = some (.bool (S.t i)) := by
  rcases hi with rfl | rfl
  · exact h.blk.cell 5
  · exact h.blk.cell 6
theorem RfS.form (h : RfS w q base N v S) (hi : i = 0 ∨ i = 1) : ∃ A c, v i = .slice A (S.x i).length c := own_slice (h.own i hi)
theorem RfS.fr (h : RfS w q base N v S) (hf : Fr L w w') (hL : ∀ x ∈ L, x ≠ q ∧ (v 0).ownBlock ≠ some x ∧ (v 1).ownBlock ≠ some x) : RfS w' q base N v S :=
  ⟨hf.blk h.blk (fun hm => (hL _ hm).1 rfl), fun i hi => hf.own (h.own i hi) (fun g hg hm => by
    rcases hi with rfl | rfl
    · exact (hL g hm).2.1 hg
    · exact (hL g hm).2.2 hg), h.apart, ⟨h.lo.1, Nat.le_trans h.lo.2 hf.size⟩, h.len⟩
theorem RfS.fr0 (h : RfS w q base N v S) (hf : Fr [] w w') : RfS w' q base N v S := h.fr hf (by simp)
theorem RfS.blocks (h : RfS w q base N v S) (hi : i = 0 ∨ i = 1) {g : Nat} (hg : (v i).ownBlock = some g) : base ≤ g ∧ g < w.heap.size := ⟨own_ge (h.own i hi) hg, own_lt (h.own i hi) hg⟩
/-- A store into the relay's own block leaves the slices. -/
theorem RfS.setQ (h : RfS w q base N v S) (o : Nat) (u : Value) {S' : Sta} (hx : S'.x = S.x) (hb : Blk (w.setCell ⟨q, o, none⟩ u) q 82 (rfCells N v S')) : RfS (w.setCell ⟨q, o, none⟩ u) q base N v S' := by
  have hf : Fr [q] w (w.setCell ⟨q, o, none⟩ u) := (Fr.refl [q] w).setCell (.inl (by simp)) _
  refine ⟨hb, fun i hi => ?_, h.apart, ⟨h.lo.1, Nat.le_trans h.lo.2 hf.size⟩, fun i hi => by rw [hx]; exact h.len i hi⟩
  rw [hx]
  exact hf.own (h.own i hi) (fun g hg hm => by have := (h.blocks hi hg).1; have := h.lo.1; simp at hm; omega)
theorem RfS.end_ (h : RfS w q base N v S) (hi : i = 0 ∨ i = 1) : RfS (w.setCell ⟨q, 3 + i, none⟩ (.bool true)) q base N v (endS S i) := by
  refine h.setQ _ _ rfl ?_
  rcases hi with rfl | rfl
  · exact h.blk.set_ 3 _
  · exact h.blk.set_ 4 _
theorem RfS.told (h : RfS w q base N v S) (hi : i = 0 ∨ i = 1) : RfS (w.setCell ⟨q, 5 + i, none⟩ (.bool true)) q base N v { S with t := upd S.t i true } := by
  refine h.setQ _ _ rfl ?_
  rcases hi with rfl | rfl
  · exact h.blk.set_ 5 _
  · exact h.blk.set_ 6 _
end

theorem side_yes (s : Int) (i : Nat) (w : World) (hs : Sd s i) : Calls Try.prog 49 #[.int .i64 s] w fun e w' => e = .returned (.bool true) ∧ w = w' := by
  rcases hs with ⟨rfl, rfl⟩ | ⟨rfl, rfl⟩
  all_goals
    go_enter Try.func49, Try.ntmps49
    go_wp2_with fail
    go_ret
    exact ⟨rfl, rfl⟩
theorem side_no (s : Int) (w : World) (hs : s < 0 ∨ 2 ≤ s) : Calls Try.prog 49 #[.int .i64 s] w fun e w' => e = .returned (.bool false) ∧ w = w' := by
  have h0 : (s == 0) = false := by simp; omega
  have h1 : (s == 1) = false := by simp; omega
  go_enter Try.func49, Try.ntmps49
  clear hs
  go_wp2_with fail
  go_ret
  exact ⟨rfl, rfl⟩

section
variable (q base N : Nat) (v : Nat → Value) (S : Sta) (w : World)

theorem rfnew_bad (k : Int) (w : World) (h : k < 1 ∨ 256 < k) : Calls Try.prog 38 #[.int .i64 k] w fun e w' => e = .returned (.tuple #[.pointer none, .int .i64 2]) ∧ w = w' := by
  rcases Int.lt_or_le k 1 with h1 | h1
  · go_enter Try.func38, Try.ntmps38
    have hd : decide (k < 1) = true := by simp [h1]
    go_wp2_with fail
    refine bodyPost_ret (v := .tuple #[.pointer none, .int .i64 2]) (by simp [results, Try.results38, go_sem]) rfl ?_
    exact ⟨rfl, rfl⟩
  · have h2 : 256 < k := by omega
    have hd : decide (k < 1) = false := by simp; omega
    have hd2 : decide (256 < k) = true := by simp [h2]
    go_enter Try.func38, Try.ntmps38
    go_wp2_with fail
    refine bodyPost_ret (v := .tuple #[.pointer none, .int .i64 2]) (by simp [results, Try.results38, go_sem]) rfl ?_
    exact ⟨rfl, rfl⟩

theorem rfnew_good (h1 : 0 < N) (h2 : N ≤ 256) :
    Calls Try.prog 38 #[.int .i64 N] w fun e w' => e = .returned (.tuple #[.pointer (some ⟨w.heap.size, 0, none⟩), .int .i64 0]) ∧ RfS w' w.heap.size (w.heap.size + 1) N (fun _ => .slice none 0 0) sta0 ∧ Fr [] w w' ∧ w'.heap.size = w.heap.size + 1 := by
  have hd : decide ((N : Int) < 1) = false := by simp; omega
  have hd2 : decide (256 < (N : Int)) = false := by simp; omega
  have hd3 : ¬ (N : Int) < 1 := by omega
  have hd4 : ¬ 256 < (N : Int) := by omega
  go_enter Try.func38, Try.ntmps38
  go_wp2_with fail
  refine bodyPost_ret (v := .tuple #[.pointer (some ⟨w.heap.size, 0, none⟩), .int .i64 0]) (by simp [results, Try.results38, go_sem]) rfl ?_
  exact ⟨rfl, ⟨Blk.new w 82 _, fun i hi => World.ownsRow_nil _ _ _ _, fun g hg => by simp [Value.ownBlock] at hg, by simp, fun i hi => by simp [sta0]⟩, (Fr.refl [] w).alloc _, by simp⟩

theorem rfover_calls (h : RfS w q base N v S) : Calls Try.prog 45 #[.pointer (some ⟨q, 0, none⟩)] w fun e w' => e = .returned (.bool (overB S)) ∧ w = w' := by
  have h5 : w.cell? ⟨q, 5, none⟩ = some (.bool (S.t 0)) := h.blk.cell 5
  have h6 : w.cell? ⟨q, 6, none⟩ = some (.bool (S.t 1)) := h.blk.cell 6
  obtain ⟨a, ha⟩ : ∃ a, S.t 0 = a := ⟨_, rfl⟩
  obtain ⟨c, hc⟩ : ∃ c, S.t 1 = c := ⟨_, rfl⟩
  rw [ha] at h5
  rw [hc] at h6
  have HA := Lib.hid (And.intro ha hc)
  clear h ha hc
  go_enter Try.func45, Try.ntmps45
  cases a <;> cases c
  all_goals
    go_wp2_with fail
    go_ret
    exact ⟨ret_bool (by simp [overB, HA.out.1, HA.out.2]), rfl⟩

theorem rfwants_calls (s : Int) (i : Nat) (h : RfS w q base N v S) (hs : Sd s i) (hN : N ≤ 4096) :
    Calls Try.prog 43 #[.pointer (some ⟨q, 0, none⟩), .int .i64 s] w fun e w' => e = .returned (.int .i64 (wn N S i)) ∧ Fr [] w w' := by
  have hn := h.cellN
  have hv := h.cellV hs.side
  have he := h.cellE hs.side
  have hl := h.len i hs.side
  obtain ⟨A, c, hA⟩ := h.form hs.side
  rw [hA] at hv
  have HY := Lib.hid (side_yes s i w hs)
  obtain ⟨xs, hxs⟩ : ∃ xs, S.x i = xs := ⟨_, rfl⟩
  obtain ⟨ei, hei⟩ : ∃ ei, S.e i = ei := ⟨_, rfl⟩
  rw [hei] at he
  rw [hxs] at hl hv
  have HX := Lib.hid hxs
  have HE := Lib.hid hei
  clear h hxs hei hA
  rcases hs with ⟨rfl, rfl⟩ | ⟨rfl, rfl⟩
  all_goals
    simp only [Nat.reduceAdd] at hv he
    go_enter Try.func43, Try.ntmps43
    go_wp2_with fail
    refine HY.out.mono ?_
    rintro e w1 ⟨rfl, rfl⟩
    cases ei
    · go_wp2_with fail
      go_quiet (fail)
      go_wp2_with fail
      go_ret
      exact ⟨ret_int (by rw [wn_open HE.out, HX.out]; omega), (Fr.refl [] w).drewN _⟩
    · go_wp2_with fail
      go_ret
      exact ⟨ret_int (by rw [wn_ended HE.out]; rfl), Fr.refl _ _⟩

theorem rfwants_off (s : Int) (hs : s < 0 ∨ 2 ≤ s) : Calls Try.prog 43 #[.pointer (some ⟨q, 0, none⟩), .int .i64 s] w fun e w' => e = .returned (.int .i64 0) ∧ w = w' := by
  have HY := Lib.hid (side_no s w hs)
  go_enter Try.func43, Try.ntmps43
  clear hs
  go_wp2_with fail
  refine HY.out.mono ?_
  rintro e w1 ⟨rfl, rfl⟩
  go_wp2_with fail
  go_ret
  exact ⟨rfl, rfl⟩

theorem rfwaits_calls (s : Int) (i : Nat) (h : RfS w q base N v S) (hs : Sd s i) (hN : N ≤ 4096) :
    Calls Try.prog 44 #[.pointer (some ⟨q, 0, none⟩), .int .i64 s] w fun e w' => e = .returned (.int .i64 (S.x (1 - i)).length) ∧ w = w' := by
  have hj : 1 - i = 0 ∨ 1 - i = 1 := by omega
  have hv := h.cellV hj
  have hl := h.len (1 - i) hj
  obtain ⟨A, c, hA⟩ := h.form hj
  rw [hA] at hv
  have HY := Lib.hid (side_yes s i w hs)
  obtain ⟨xs, hxs⟩ : ∃ xs, S.x (1 - i) = xs := ⟨_, rfl⟩
  rw [hxs] at hl hv ⊢
  clear h hxs hA
  rcases hs with ⟨rfl, rfl⟩ | ⟨rfl, rfl⟩
  all_goals
    simp only [Nat.reduceAdd, Nat.reduceSub] at hv
    go_enter Try.func44, Try.ntmps44
    go_wp2_with fail
    refine HY.out.mono ?_
    rintro e w1 ⟨rfl, rfl⟩
    go_wp2_with fail
    go_ret
    exact ⟨rfl, rfl⟩

theorem rfwaits_off (s : Int) (hs : s < 0 ∨ 2 ≤ s) : Calls Try.prog 44 #[.pointer (some ⟨q, 0, none⟩), .int .i64 s] w fun e w' => e = .returned (.int .i64 0) ∧ w = w' := by
  have HY := Lib.hid (side_no s w hs)
  go_enter Try.func44, Try.ntmps44
  clear hs
  go_wp2_with fail
  refine HY.out.mono ?_
  rintro e w1 ⟨rfl, rfl⟩
  go_wp2_with fail
  go_ret
  exact ⟨rfl, rfl⟩

theorem rfend_calls (s : Int) (i : Nat) (h : RfS w q base N v S) (hs : Sd s i) :
    Calls Try.prog 41 #[.pointer (some ⟨q, 0, none⟩), .int .i64 s] w fun e w' => e = .returned (.int .i64 (endR S i)) ∧ RfS w' q base N v (endS S i) ∧ Fr [q] w w' := by
  have he := h.cellE hs.side
  have hz := h.blk.frozen (3 + i)
  have HE2 := Lib.hid (h.end_ hs.side)
  have H := Lib.hid h
  have HY := Lib.hid (side_yes s i w hs)
  obtain ⟨ei, hei⟩ : ∃ ei, S.e i = ei := ⟨_, rfl⟩
  rw [hei] at he
  have HE := Lib.hid hei
  have HSM : Hid (S.e i = true → endS S i = S) := Lib.hid (fun h => endS_same h)
  obtain ⟨T, hT⟩ : ∃ T, endS S i = T := ⟨_, rfl⟩
  obtain ⟨k, hk⟩ : ∃ k, endR S i = k := ⟨_, rfl⟩
  have HQ := Lib.hid hk
  rw [hT] at HE2 HSM ⊢
  rw [hk]
  clear h hei hT hk
  rcases hs with ⟨rfl, rfl⟩ | ⟨rfl, rfl⟩
  all_goals
    simp only [Nat.reduceAdd] at he hz HE2
    go_enter Try.func41, Try.ntmps41
    go_wp2_with fail
    refine HY.out.mono ?_
    rintro e w1 ⟨rfl, rfl⟩
    cases ei
    · go_wp2_with fail
      go_ret
      refine ⟨ret_int ?_, HE2.out, (Fr.refl [q] w).setCell (.inl (by simp)) _⟩
      have := HQ.out
      simp [endR, HE.out] at this
      exact this
    · go_wp2_with fail
      go_ret
      refine ⟨ret_int ?_, ?_, Fr.refl _ _⟩
      · have := HQ.out
        simp [endR, HE.out] at this
        exact this
      · rw [HSM.out HE.out]; exact H.out

theorem rfend_off (s : Int) (hs : s < 0 ∨ 2 ≤ s) : Calls Try.prog 41 #[.pointer (some ⟨q, 0, none⟩), .int .i64 s] w fun e w' => e = .returned (.int .i64 2) ∧ w = w' := by
  have HY := Lib.hid (side_no s w hs)
  go_enter Try.func41, Try.ntmps41
  clear hs
  go_wp2_with fail
  refine HY.out.mono ?_
  rintro e w1 ⟨rfl, rfl⟩
  go_wp2_with fail
  go_ret
  exact ⟨rfl, rfl⟩

theorem rfshut_off (s : Int) (hs : s < 0 ∨ 2 ≤ s) : Calls Try.prog 42 #[.pointer (some ⟨q, 0, none⟩), .int .i64 s] w fun e w' => e = .returned (.bool false) ∧ w = w' := by
  have HY := Lib.hid (side_no s w hs)
  go_enter Try.func42, Try.ntmps42
  clear hs
  go_wp2_with fail
  refine HY.out.mono ?_
  rintro e w1 ⟨rfl, rfl⟩
  go_wp2_with fail
  go_ret
  exact ⟨rfl, rfl⟩

set_option maxHeartbeats 1000000 in
theorem rfshut_calls (s : Int) (i : Nat) (h : RfS w q base N v S) (hs : Sd s i) (hN : N ≤ 4096) :
    Calls Try.prog 42 #[.pointer (some ⟨q, 0, none⟩), .int .i64 s] w fun e w' => e = .returned (.bool (shutB S i)) ∧ RfS w' q base N v (shutS S i) ∧ Fr [q] w w' := by
  have hj : 1 - i = 0 ∨ 1 - i = 1 := by omega
  have he := h.cellE hj
  have hv := h.cellV hj
  have ht := h.cellT hs.side
  have hz := h.blk.frozen (5 + i)
  have hl := h.len (1 - i) hj
  obtain ⟨A, c, hA⟩ := h.form hj
  rw [hA] at hv
  have HY := Lib.hid (side_yes s i w hs)
  have HT2 := Lib.hid (h.told hs.side)
  have H := Lib.hid h
  have HNO : Hid (shutB S i = false → shutS S i = S) := Lib.hid (fun h => shutS_no h)
  have HYES : Hid (shutB S i = true → shutS S i = { S with t := upd S.t i true }) := Lib.hid (fun h => shutS_yes h)
  obtain ⟨xs, hxs⟩ : ∃ xs, S.x (1 - i) = xs := ⟨_, rfl⟩
  obtain ⟨ej, hej⟩ : ∃ ej, S.e (1 - i) = ej := ⟨_, rfl⟩
  obtain ⟨ti, hti⟩ : ∃ ti, S.t i = ti := ⟨_, rfl⟩
  have hB : shutB S i = (ej && decide (xs.length = 0) && !ti) := by simp only [shutB, hxs, hej, hti]
  have HB := Lib.hid hB
  rw [hxs] at hl hv
  rw [hej] at he
  rw [hti] at ht
  clear h hxs hej hti hB hA
  rcases hs with ⟨rfl, rfl⟩ | ⟨rfl, rfl⟩
  all_goals
    simp only [Nat.reduceAdd, Nat.reduceSub] at he hv ht hz HT2
    go_enter Try.func42, Try.ntmps42
    go_wp2_with fail
    refine HY.out.mono ?_
    rintro e w1 ⟨rfl, rfl⟩
    cases ej
    · go_wp2_with fail
      go_ret
      have hb := HB.out
      simp at hb
      exact ⟨ret_bool hb, by rw [HNO.out hb]; exact H.out, Fr.refl _ _⟩
    · rcases xs with _ | ⟨y, ys⟩
      · cases ti
        · go_wp2_with fail
          go_ret
          have hb := HB.out
          simp at hb
          exact ⟨ret_bool hb, by rw [HYES.out hb]; exact HT2.out, (Fr.refl [q] w).setCell (.inl (by simp)) _⟩
        · go_wp2_with fail
          go_ret
          have hb := HB.out
          simp at hb
          exact ⟨ret_bool hb, by rw [HNO.out hb]; exact H.out, Fr.refl _ _⟩
      · have hx1 : decide (0 < ((y :: ys).length : Int)) = true := by simp
        have hx2 : 0 < ((y :: ys).length : Int) := by simp
        go_wp2_with fail
        go_ret
        have hb := HB.out
        simp at hb
        exact ⟨ret_bool hb, by rw [HNO.out hb]; exact H.out, Fr.refl _ _⟩

end
end Go.Proofs.Ytokdcddmljfgnaa
