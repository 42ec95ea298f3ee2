/-
  The relay's functions by their contracts: Waits, Take, End, Shut, Put at a side that there is.
-/
import Derived.Test.YtokdcddmljfgnaaRelayF
namespace Go.Proofs.Ytokdcddmljfgnaa
open Go.RowKit Go.Shelf
set_option linter.unusedVariables false

theorem ret_bool {x y : Bool} (h : y = x) : Ending.returned (.bool x) = .returned (.bool y) := by rw [h]

section
variable (p N : Nat) (r b : Nat → Nat) (S : Sta) (w : World)

set_option maxHeartbeats 1000000 in
theorem rwaits_calls (s : Int) (i : Nat) (h : RelS w p r b N S) (hs : Sd s i) :
    Calls Try.prog 33 #[.pointer (some ⟨p, 0, none⟩), .int .i64 s] w fun e w' => e = .returned (.int .i64 (S.x (1 - i)).length) ∧ w = w' := by
  have hj : 1 - i = 0 ∨ 1 - i = 1 := by omega
  have hr := h.cellR hj
  have hrd := (h.ring (1 - i) hj).rd
  have hl := h.lt hj
  have H := Lib.hid h
  obtain ⟨xs, hxs⟩ : ∃ xs, S.x (1 - i) = xs := ⟨_, rfl⟩
  obtain ⟨ri, hri⟩ : ∃ ri, r (1 - i) = ri := ⟨_, rfl⟩
  rw [hri] at hr hrd
  rw [hxs] at hl hrd ⊢
  have HRD := Lib.hid hrd
  clear h hrd hxs hri
  rcases hs with ⟨rfl, rfl⟩ | ⟨rfl, rfl⟩
  all_goals
    simp only [Nat.reduceMul, Nat.reduceSub] at hr
    go_enter Try.func33, Try.ntmps33
    go_wp2_with fail
    (first | (with_reducible refine (from_zero _ _ _ _ _ _ _ w H.out.relC).mono ?_) | (with_reducible refine (from_one _ _ _ _ _ _ _ w H.out.relC).mono ?_))
    rintro e w1 ⟨rfl, rfl⟩
    go_wp2_with fail
    refine (len_calls _ N xs.length w HRD.out).mono ?_
    rintro e w1 ⟨rfl, rfl⟩
    go_wp2_with fail
    go_ret
    exact ⟨rfl, rfl⟩

set_option maxHeartbeats 1000000 in
theorem rltake_calls (s k : Int) (i : Nat) (h : RelS w p r b N S) (hs : Sd s i) (hk : -9223372036854775808 ≤ k ∧ k ≤ 9223372036854775807) :
    Calls Try.prog 34 #[.pointer (some ⟨p, 0, none⟩), .int .i64 s, .int .i64 k] w fun e w' => ∃ v, e = .returned v ∧ w'.ownsRow w.heap.size 5 1 v (takeN S i k) (bcells ((S.x (1 - i)).take (takeN S i k))) ∧ RelS w' p r b N (takeS S i k) ∧ Fr [r (1 - i)] w w' := by
  have hj : 1 - i = 0 ∨ 1 - i = 1 := by omega
  have hr := h.cellR hj
  have htk := take_calls (r (1 - i)) (b (1 - i)) N (S.x (1 - i)) k w (h.ring (1 - i) hj) hk
  have HP : Hid (∀ (w' : World), RingS w' (r (1 - i)) (b (1 - i)) N ((S.x (1 - i)).drop (takeN S i k)) → Fr [r (1 - i)] w w' → RelS w' p r b N (takeS S i k)) := Lib.hid (fun w' hR hf => h.ring_ hj hf (by simp) hR)
  have H := Lib.hid h
  change Calls _ _ _ _ (fun e w' => ∃ v, e = .returned v ∧ w'.ownsRow w.heap.size 5 1 v (takeN S i k) (bcells ((S.x (1 - i)).take (takeN S i k))) ∧ RingS w' (r (1 - i)) (b (1 - i)) N ((S.x (1 - i)).drop (takeN S i k)) ∧ Fr [r (1 - i)] w w') at htk
  obtain ⟨q, hq⟩ : ∃ q, takeN S i k = q := ⟨_, rfl⟩
  obtain ⟨T, hT⟩ : ∃ T, takeS S i k = T := ⟨_, rfl⟩
  rw [hq] at htk HP ⊢
  rw [hT] at HP ⊢
  obtain ⟨ri, hri⟩ : ∃ ri, r (1 - i) = ri := ⟨_, rfl⟩
  obtain ⟨bi, hbi⟩ : ∃ bi, b (1 - i) = bi := ⟨_, rfl⟩
  obtain ⟨xs, hxs⟩ : ∃ xs, S.x (1 - i) = xs := ⟨_, rfl⟩
  rw [hri, hbi, hxs] at htk HP
  rw [hri, hxs]
  rw [hri] at hr
  have HTK := Lib.hid htk
  clear h htk hq hT hri hbi hxs
  rcases hs with ⟨rfl, rfl⟩ | ⟨rfl, rfl⟩
  all_goals
    simp only [Nat.reduceMul, Nat.reduceSub] at hr
    go_enter Try.func34, Try.ntmps34
    go_wp2_with fail
    (first | (with_reducible refine (from_zero _ _ _ _ _ _ _ w H.out.relC).mono ?_) | (with_reducible refine (from_one _ _ _ _ _ _ _ w H.out.relC).mono ?_))
    rintro e w1 ⟨rfl, rfl⟩
    go_wp2_with fail
    refine HTK.out.mono ?_
    rintro e w1 ⟨v, rfl, ho, hR, hf⟩
    have HALL := Lib.hid (And.intro ho (And.intro (HP.out w1 hR hf) hf))
    clear ho hR hf
    go_wp2_with fail
    go_ret
    exact ⟨_, rfl, HALL.out⟩

set_option maxHeartbeats 1000000 in
theorem rend_calls (s : Int) (i : Nat) (h : RelS w p r b N S) (hs : Sd s i) :
    Calls Try.prog 32 #[.pointer (some ⟨p, 0, none⟩), .int .i64 s] w fun e w' => e = .returned (.int .i64 (endR S i)) ∧ RelS w' p r b N (endS S i) ∧ Fr [p] w w' := by
  have he := h.cellE hs.side
  have hz := h.blk.frozen (3 * i + 1)
  have HE2 := Lib.hid (h.end_ hs.side)
  have H := Lib.hid h
  obtain ⟨ei, hei⟩ : ∃ ei, S.e i = ei := ⟨_, rfl⟩
  rw [hei] at he
  have HE := Lib.hid hei
  have HSM : Hid (S.e i = true → endS S i = S) := Lib.hid (fun h => endS_same h)
  obtain ⟨T, hT⟩ : ∃ T, endS S i = T := ⟨_, rfl⟩
  obtain ⟨q, hq⟩ : ∃ q, endR S i = q := ⟨_, rfl⟩
  have HQ := Lib.hid hq
  rw [hT] at HE2 HSM ⊢
  rw [hq]
  clear h hei hT hq
  rcases hs with ⟨rfl, rfl⟩ | ⟨rfl, rfl⟩
  all_goals
    simp only [Nat.reduceMul, Nat.reduceAdd] at he hz HE2
    go_enter Try.func32, Try.ntmps32
    go_wp2_with fail
    (first | (with_reducible refine (from_zero _ _ _ _ _ _ _ w H.out.relC).mono ?_) | (with_reducible refine (from_one _ _ _ _ _ _ _ w H.out.relC).mono ?_))
    rintro e w1 ⟨rfl, rfl⟩
    go_wp2_with fail
    refine (from_zero _ _ _ _ _ _ _ w H.out.relC).mono ?_
    rintro e w1 ⟨rfl, rfl⟩
    cases ei
    · go_wp2_with fail
      go_ret
      refine ⟨ret_int ?_, HE2.out, (Fr.refl [p] w).setCell (.inl (by simp)) _⟩
      have := HQ.out
      simp [endR, HE.out] at this
      exact this
    · go_wp2_with fail
      go_ret
      refine ⟨ret_int ?_, ?_, Fr.refl _ _⟩
      · have := HQ.out
        simp [endR, HE.out] at this
        exact this
      · rw [HSM.out HE.out]; exact H.out

set_option maxHeartbeats 1000000 in
theorem rshut_calls (s : Int) (i : Nat) (h : RelS w p r b N S) (hs : Sd s i) :
    Calls Try.prog 35 #[.pointer (some ⟨p, 0, none⟩), .int .i64 s] w fun e w' => e = .returned (.bool (shutB S i)) ∧ RelS w' p r b N (shutS S i) ∧ Fr [p] w w' := by
  have hj : 1 - i = 0 ∨ 1 - i = 1 := by omega
  have hii : 1 - (1 - i) = i := by rcases hs with ⟨_, rfl⟩ | ⟨_, rfl⟩ <;> rfl
  have hr := h.cellR hj
  have he := h.cellE hj
  have ht := h.cellT hj
  rw [hii] at ht
  have hz := h.blk.frozen (3 * (1 - i) + 2)
  have hrd := (h.ring (1 - i) hj).rd
  have hl := h.lt hj
  have HT2 := Lib.hid (h.told hs.side)
  have H := Lib.hid h
  have HNO : Hid (shutB S i = false → shutS S i = S) := Lib.hid (fun h => shutS_no h)
  have HYES : Hid (shutB S i = true → shutS S i = { S with t := upd S.t i true }) := Lib.hid (fun h => shutS_yes h)
  obtain ⟨xs, hxs⟩ : ∃ xs, S.x (1 - i) = xs := ⟨_, rfl⟩
  obtain ⟨ri, hri⟩ : ∃ ri, r (1 - i) = ri := ⟨_, rfl⟩
  obtain ⟨ej, hej⟩ : ∃ ej, S.e (1 - i) = ej := ⟨_, rfl⟩
  obtain ⟨ti, hti⟩ : ∃ ti, S.t i = ti := ⟨_, rfl⟩
  have hB : shutB S i = (ej && decide (xs.length = 0) && !ti) := by simp only [shutB, hxs, hej, hti]
  have HB := Lib.hid hB
  rw [hri] at hr hrd
  rw [hxs] at hl hrd
  rw [hej] at he
  rw [hti] at ht
  have HRD := Lib.hid hrd
  clear h hrd hxs hri hej hti hB hii
  rcases hs with ⟨rfl, rfl⟩ | ⟨rfl, rfl⟩
  all_goals
    simp only [Nat.reduceMul, Nat.reduceAdd, Nat.reduceSub] at hr he ht hz HT2
    go_enter Try.func35, Try.ntmps35
    go_wp2_with fail
    (first | (with_reducible refine (from_zero _ _ _ _ _ _ _ w H.out.relC).mono ?_) | (with_reducible refine (from_one _ _ _ _ _ _ _ w H.out.relC).mono ?_))
    rintro e w1 ⟨rfl, rfl⟩
    cases ej
    · go_wp2_with fail
      go_ret
      have hb := HB.out
      simp at hb
      exact ⟨ret_bool hb, by rw [HNO.out hb]; exact H.out, Fr.refl _ _⟩
    · cases ti
      · rcases Nat.eq_zero_or_pos xs.length with hx0 | hx0
        · have hx1 : decide (0 < (xs.length : Int)) = false := by simp [hx0]
          have hx2 : ¬ 0 < (xs.length : Int) := by omega
          have HX0 := Lib.hid hx0
          clear hx0
          go_wp2_with fail
          refine (len_calls _ N xs.length w HRD.out).mono ?_
          rintro e w1 ⟨rfl, rfl⟩
          go_wp2_with fail
          go_ret
          have hb := HB.out
          simp [HX0.out] at hb
          exact ⟨ret_bool hb, by rw [HYES.out hb]; exact HT2.out, (Fr.refl [p] w).setCell (.inl (by simp)) _⟩
        · have hx1 : decide (0 < (xs.length : Int)) = true := by simp; omega
          have hx2 : 0 < (xs.length : Int) := by omega
          go_wp2_with fail
          refine (len_calls _ N xs.length w HRD.out).mono ?_
          rintro e w1 ⟨rfl, rfl⟩
          go_wp2_with fail
          go_ret
          have hb := HB.out
          rw [show decide (xs.length = 0) = false by simp; intro h; simp [h] at hx0] at hb
          simp at hb
          exact ⟨ret_bool hb, by rw [HNO.out hb]; exact H.out, Fr.refl _ _⟩
      · go_wp2_with fail
        go_ret
        have hb := HB.out
        simp at hb
        exact ⟨ret_bool hb, by rw [HNO.out hb]; exact H.out, Fr.refl _ _⟩

end
end Go.Proofs.Ytokdcddmljfgnaa
