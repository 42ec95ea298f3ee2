/-
  The reference's Names: the least name above the last one, again and again, is the one sorted row without doubles: plain laws.
-/
import Derived.Test.YtlhogpnfongfmaaGive27
namespace Go.Proofs.Ytlhogpnfongfmaa
open Go.RowKit
set_option linter.unusedVariables false

/-- The model's '<' on bytes is the lists' own. -/
theorem less_lists : ∀ x y : List UInt8, Op.bytesLess x y = decide (x < y)
  | [], [] => by simp [Op.bytesLess]
  | _ :: _, [] => by simp [Op.bytesLess]
  | [], _ :: _ => by simp [Op.bytesLess]
  | a :: x, b :: y => by
    have ih := less_lists x y
    simp only [Op.bytesLess, ih, List.cons_lt_cons_iff]
    by_cases h1 : a < b <;> by_cases h2 : a = b <;> simp [h1, h2]
/-- Go's '<' on strings. -/
def ltB (a b : ByteArray) : Bool := Op.bytesLess a.toList b.toList
theorem ltB_iff (a b : ByteArray) : ltB a b = true ↔ a.data.toList < b.data.toList := by
  unfold ltB
  rw [less_lists, ByteArray.toList_eq, ByteArray.toList_eq, decide_eq_true_iff]
theorem ltB_irrefl (a : ByteArray) : ltB a a = false := by
  cases h : ltB a a with
  | false => rfl
  | true => exact absurd ((ltB_iff _ _).1 h) (List.lt_irrefl _)
theorem ltB_trans {a b c : ByteArray} (h1 : ltB a b = true) (h2 : ltB b c = true) : ltB a c = true := by
  rw [ltB_iff] at *
  exact List.lt_trans h1 h2
theorem ltB_total {a b : ByteArray} (h1 : ltB a b = false) (h2 : ltB b a = false) : a = b := by
  have e : a.data.toList = b.data.toList := by
    refine List.le_antisymm ?_ ?_
    · refine List.not_lt.1 fun h => ?_
      rw [(ltB_iff _ _).2 h] at h2; cases h2
    · refine List.not_lt.1 fun h => ?_
      rw [(ltB_iff _ _).2 h] at h1; cases h1
  exact ByteArray.ext (Array.toList_inj.1 e)
theorem bytes_beq_iff (a b : ByteArray) : (a.toList == b.toList) = true ↔ a = b := by
  rw [beq_iff_eq, ByteArray.toList_eq, ByteArray.toList_eq]
  exact ⟨fun e => ByteArray.ext (Array.toList_inj.1 e), fun e => by rw [e]⟩

/-- Whether s stands above the last one. -/
def aboveB (last : Option ByteArray) (s : ByteArray) : Bool := match last with
  | none => true
  | some l => !(ltB s l || s.toList == l.toList)
theorem aboveB_iff (l s : ByteArray) : aboveB (some l) s = true ↔ ltB l s = true := by
  unfold aboveB
  simp only [Bool.not_eq_true', Bool.or_eq_false_iff]
  constructor
  · rintro ⟨h1, h2⟩
    cases h : ltB l s with
    | true => rfl
    | false =>
      have e := ltB_total h1 h
      rw [(bytes_beq_iff _ _).2 e] at h2; cases h2
  · intro h
    refine ⟨?_, ?_⟩
    · cases h1 : ltB s l with
      | false => rfl
      | true => have := ltB_trans h h1; rw [ltB_irrefl] at this; cases this
    · cases h1 : (s.toList == l.toList) with
      | false => rfl
      | true =>
        rw [(bytes_beq_iff _ _).1 h1, ltB_irrefl] at h; cases h

/-- The least above the last one among the first i. -/
def selB (xs : List ByteArray) (last : Option ByteArray) : Nat → Option ByteArray
  | 0 => none
  | i + 1 => match xs[i]? with
    | none => selB xs last i
    | some s => if aboveB last s && (match selB xs last i with | none => true | some b => ltB s b) then some s else selB xs last i

section
variable {xs : List ByteArray} {last : Option ByteArray}
theorem selB_out {i : Nat} {s : ByteArray} (hs : xs[i]? = some s) (ha : aboveB last s = false) : selB xs last (i + 1) = selB xs last i := by
  rw [selB, hs]
  simp [ha]
theorem selB_first {i : Nat} {s : ByteArray} (hs : xs[i]? = some s) (ha : aboveB last s = true) (h : selB xs last i = none) : selB xs last (i + 1) = some s := by
  rw [selB, hs]
  simp [ha, h]
theorem selB_next {i : Nat} {s b : ByteArray} (hs : xs[i]? = some s) (ha : aboveB last s = true) (h : selB xs last i = some b) : selB xs last (i + 1) = if ltB s b then some s else some b := by
  rw [selB, hs]
  simp [ha, h]
theorem selB_none {i : Nat} (hi : i ≤ xs.length) (h : selB xs last i = none) : ∀ k < i, ∀ s, xs[k]? = some s → aboveB last s = false := by
  induction i with
  | zero => intro k hk; omega
  | succ i ih =>
    obtain ⟨s, hs⟩ : ∃ s, xs[i]? = some s := ⟨_, List.getElem?_eq_getElem (by omega)⟩
    cases ha : aboveB last s with
    | true =>
      exfalso
      cases hb : selB xs last i with
      | none => rw [selB_first hs ha hb] at h; cases h
      | some b =>
        rw [selB_next hs ha hb] at h
        split at h <;> cases h
    | false =>
      rw [selB_out hs ha] at h
      intro k hk t ht
      rcases Nat.lt_or_ge k i with h1 | h1
      · exact ih (by omega) h k h1 t ht
      · obtain rfl : k = i := by omega
        rw [hs] at ht; cases ht
        exact ha
theorem selB_some {i : Nat} {b : ByteArray} (hi : i ≤ xs.length) (h : selB xs last i = some b) : b ∈ xs ∧ aboveB last b = true ∧ ∀ k < i, ∀ s, xs[k]? = some s → aboveB last s = true → ltB s b = false := by
  induction i generalizing b with
  | zero => cases h
  | succ i ih =>
    obtain ⟨s, hs⟩ : ∃ s, xs[i]? = some s := ⟨_, List.getElem?_eq_getElem (by omega)⟩
    have hsm : s ∈ xs := List.mem_of_getElem? hs
    cases ha : aboveB last s with
    | false =>
      rw [selB_out hs ha] at h
      obtain ⟨h1, h2, h3⟩ := ih (by omega) h
      refine ⟨h1, h2, fun k hk t ht hat => ?_⟩
      rcases Nat.lt_or_ge k i with h4 | h4
      · exact h3 k h4 t ht hat
      · obtain rfl : k = i := by omega
        rw [hs] at ht; cases ht
        rw [ha] at hat; cases hat
    | true =>
      cases hb : selB xs last i with
      | none =>
        rw [selB_first hs ha hb] at h
        cases h
        refine ⟨hsm, ha, fun k hk t ht hat => ?_⟩
        rcases Nat.lt_or_ge k i with h4 | h4
        · have := selB_none (by omega) hb k h4 t ht
          rw [this] at hat; cases hat
        · obtain rfl : k = i := by omega
          rw [hs] at ht; cases ht
          exact ltB_irrefl _
      | some c =>
        obtain ⟨h1, h2, h3⟩ := ih (by omega) hb
        rw [selB_next hs ha hb] at h
        by_cases hlt : ltB s c = true
        · rw [if_pos hlt] at h
          obtain rfl : s = b := Option.some.inj h
          refine ⟨hsm, ha, fun k hk t ht hat => ?_⟩
          rcases Nat.lt_or_ge k i with h4 | h4
          · have h5 := h3 k h4 t ht hat
            cases h6 : ltB t s with
            | false => rfl
            | true => rw [ltB_trans h6 hlt] at h5; cases h5
          · obtain rfl : k = i := by omega
            rw [hs] at ht; cases ht
            exact ltB_irrefl _
        · rw [if_neg hlt] at h
          obtain rfl : c = b := Option.some.inj h
          refine ⟨h1, h2, fun k hk t ht hat => ?_⟩
          rcases Nat.lt_or_ge k i with h4 | h4
          · exact h3 k h4 t ht hat
          · obtain rfl : k = i := by omega
            rw [hs] at ht; cases ht
            simpa using hlt
end

/-- The last of the first j. -/
def lastB (K : List ByteArray) (j : Nat) : Option ByteArray := if j = 0 then none else K[j - 1]?
theorem sel_names {K xs : List ByteArray} (hs : K.Pairwise (fun a b => ltB a b = true)) (hm : ∀ s, s ∈ K ↔ s ∈ xs) {j : Nat} (hj : j ≤ K.length) : selB xs (lastB K j) xs.length = K[j]? := by
  have hp := List.pairwise_iff_getElem.1 hs
  have habv : ∀ (k : Nat) (hk : k < K.length), aboveB (lastB K j) K[k] = true ↔ j ≤ k := fun k hk => by
    unfold lastB
    rcases Nat.eq_zero_or_pos j with h0 | h0
    · rw [if_pos h0]; simp [aboveB, h0]
    · rw [if_neg (by omega), List.getElem?_eq_getElem (by omega), aboveB_iff]
      constructor
      · intro h
        rcases Nat.lt_or_ge k j with h1 | h1
        · exfalso
          rcases Nat.lt_or_ge k (j - 1) with h2 | h2
          · have := ltB_trans h (hp k (j - 1) hk (by omega) h2)
            rw [ltB_irrefl] at this; cases this
          · have e : k = j - 1 := by omega
            subst e
            rw [ltB_irrefl] at h; cases h
        · exact h1
      · intro h
        exact hp (j - 1) k (by omega) hk (by omega)
  have hget : ∀ b, b ∈ xs → aboveB (lastB K j) b = true → ∃ k, ∃ hk : k < K.length, K[k] = b ∧ j ≤ k := fun b hb ha => by
    obtain ⟨k, hk, rfl⟩ := List.mem_iff_getElem.1 ((hm b).2 hb)
    exact ⟨k, hk, rfl, (habv k hk).1 ha⟩
  rcases Nat.lt_or_ge j K.length with h | h
  · rw [List.getElem?_eq_getElem h]
    have hjx : K[j] ∈ xs := (hm _).1 (List.getElem_mem h)
    obtain ⟨i, hi, hij⟩ := List.mem_iff_getElem.1 hjx
    have hix : xs[i]? = some K[j] := by rw [List.getElem?_eq_getElem hi, hij]
    cases hsel : selB xs (lastB K j) xs.length with
    | none =>
      have := selB_none (Nat.le_refl _) hsel i hi _ hix
      rw [(habv j h).2 (Nat.le_refl _)] at this; cases this
    | some b =>
      obtain ⟨h1, h2, h3⟩ := selB_some (Nat.le_refl _) hsel
      obtain ⟨k, hk, rfl, hjk⟩ := hget b h1 h2
      have h4 := h3 i hi _ hix ((habv j h).2 (Nat.le_refl _))
      rcases Nat.lt_or_ge j k with h5 | h5
      · rw [hp j k h hk h5] at h4; cases h4
      · obtain rfl : k = j := by omega
        rfl
  · rw [List.getElem?_eq_none h]
    cases hsel : selB xs (lastB K j) xs.length with
    | none => rfl
    | some b =>
      obtain ⟨h1, h2, h3⟩ := selB_some (Nat.le_refl _) hsel
      obtain ⟨k, hk, rfl, hjk⟩ := hget b h1 h2
      omega

end Go.Proofs.Ytlhogpnfongfmaa
