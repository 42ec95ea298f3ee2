/-
  Names of a quota that somebody made; the quotas that nobody made.
-/
import Derived.Test.YtlhogpnfongfmaaIter27
import Derived.Test.YtlhogpnfongfmaaRefN27
namespace Go.Proofs.Ytlhogpnfongfmaa
open Go.RowKit Go.Maps Go.Sort Go.Shelf
set_option linter.unusedVariables false

theorem keys_facts {R : Value → Option (DataW Unit × List MemPlace)} {w : World} {b n : Nat} {D : DataW Unit} (hown : w.ownsMap Try.prog 9 R b n D) : (strKeys D).Nodup ∧ ∀ x, x ∈ strKeys D ↔ Maps.has D (.string x) = true := by
  obtain ⟨es, hD, hp, _⟩ := hown.entries law9
  obtain ⟨es', hD', hko⟩ := hown.keysOf
  obtain rfl : es = es' := by rw [hD] at hD'; simpa using hD'
  subst hD
  have hk : ∀ p ∈ es, ∃ x, p.1 = .string x := fun p hp => by
    obtain ⟨v, hv⟩ := hko p hp
    obtain ⟨x, _, hx, _⟩ := Maps.keyOf_str Try.underlying9 hv
    exact ⟨x, hx⟩
  refine ⟨?_, fun x => ?_⟩
  · show (es.map fun p => strOf p.1).Nodup
    refine List.pairwise_map.2 (hp.imp_of_mem fun {p q} hp' hq' hne e => hne ?_)
    obtain ⟨a, ha⟩ := hk p hp'
    obtain ⟨b, hb⟩ := hk q hq'
    rw [ha, hb] at e ⊢
    exact congrArg _ e
  · rw [has_eq, List.any_eq_true]
    show x ∈ (es.map fun p => strOf p.1) ↔ _
    rw [List.mem_map]
    constructor
    · rintro ⟨p, hp', rfl⟩
      obtain ⟨a, ha⟩ := hk p hp'
      exact ⟨p, hp', by rw [ha]; simp [Lit.sameKey, strOf]⟩
    · rintro ⟨p, hp', hs⟩
      obtain ⟨a, ha⟩ := hk p hp'
      rw [ha] at hs
      exact ⟨p, hp', by rw [ha]; simpa [Lit.sameKey, strOf] using hs⟩

def strB (x : List UInt8) : ByteArray := ⟨x.toArray⟩
theorem strB_data (x : List UInt8) : (strB x).data.toList = x := by simp [strB]
theorem strB_eq (s : ByteArray) : strB s.data.toList = s := by
  cases s
  simp [strB]
theorem sorted_strict {ss : List (List UInt8)} (hn : ss.Nodup) : ((ss.mergeSort (fun x y => decide (x ≤ y))).map strB).Pairwise (fun a b => ltB a b = true) := by
  have hs : (ss.mergeSort (fun x y => decide (x ≤ y))).Pairwise (fun a b => decide (a ≤ b) = true) := List.pairwise_mergeSort (fun a b c h1 h2 => by simp only [decide_eq_true_eq] at *; exact List.le_trans h1 h2) (fun a b => by simp only [Bool.or_eq_true, decide_eq_true_eq]; exact List.le_total a b) ss
  have hd : (ss.mergeSort (fun x y => decide (x ≤ y))).Pairwise (fun a b => a ≠ b) := (List.mergeSort_perm ss _).nodup_iff.2 hn
  refine List.pairwise_map.2 ((hs.and hd).imp fun {a b} h => ?_)
  obtain ⟨h1, h2⟩ := h
  simp only [decide_eq_true_eq] at h1
  rw [ltB_iff, strB_data, strB_data]
  by_cases h3 : a < b
  · exact h3
  · exact absurd (List.le_antisymm h1 (List.not_lt.1 h3)) h2

set_option maxHeartbeats 1000000 in
theorem names_calls (q m n : Nat) (f : Bs → Nat) (w : World) (h : QAt w q m n f) (hn : n ≤ 1000000) :
    Calls Try.prog 14 #[.pointer (some ⟨q, 0, none⟩)] w fun e w' => ∃ (v : Value) (K : List ByteArray), e = .returned v ∧ w'.ownsRow w.heap.size 9 1 v K.length (scells K) ∧ K.Pairwise (fun a b => ltB a b = true) ∧ (∀ s : ByteArray, s ∈ K ↔ 0 < f s.data.toList) ∧ K.length ≤ n ∧ Fr [] w w' := by
  have hc := h.blk.cell 0
  simp at hc
  obtain ⟨D, hown, hat, hhas, hf⟩ := h.map
  have hnone := none_calls q m n f w h
  have hsz := hown.size_le
  obtain ⟨hnd, hmem⟩ := keys_facts hown
  have HND := Lib.hid hnd
  have HMEM := Lib.hid (fun x => (hmem x).trans (by rw [hhas x, decide_eq_true_iff] : _ ↔ 0 < f x))
  clear hat hhas hf hnd hmem h
  refine (callsIn_wide (n := 6)).1 ?_
  have hfK : Fence.wide.fn 20 := trivial
  have hfS : Fence.wide.fn 19 := trivial
  have hfN : Fence.wide.fn 18 := trivial
  refine callsIn_of_wp Try.func14 rfl trivial ?_ rfl
  simp only [Try.ntmps14, List.size_toArray, List.length_cons, List.length_nil, Nat.reduceAdd, Nat.reduceSub, Array.replicate_succ, Array.replicate_zero, List.push_toArray, List.append_toArray, List.nil_append, List.cons_append]
  gi_wp2_with (first
    | (gi_at_call 18; refine ((callsIn_wide (n := 5)).2 hnone).mono ?_; rintro e w' ⟨rfl, rfl⟩)
    | (gi_at_call 20; refine (keys_in _ _).mono ?_; rintro e w' ⟨rfl, rfl⟩)
    | (gi_at_call 19; refine (sorted_keys m n D _ w hown (by unfold maxLen; omega) (by omega)).mono ?_; rintro e w' ⟨v, ss, rfl, hS, hrow, hnil, hb⟩))
  go_ret
  have hl : (ss.mergeSort (fun x y => decide (x ≤ y))).length = ss.length := List.length_mergeSort ss
  refine ⟨v, (ss.mergeSort (fun x y => decide (x ≤ y))).map strB, rfl, ?_, sorted_strict (hS.nodup_iff.2 HND.out), fun s => ?_, ?_, Fr.of_below (((Below.refl _ w).alloc (Nat.le_refl _) _).trans (hb.mono (by simp)))⟩
  · rw [List.length_map, hl]
    have e : scells ((ss.mergeSort (fun x y => decide (x ≤ y))).map strB) = (ss.mergeSort (fun x y => decide (x ≤ y))).map encStr := by
      unfold scells
      rw [List.map_map]
      rfl
    rw [e]
    exact own_base hrow (by simp)
  · rw [← HMEM.out s.data.toList, List.mem_map]
    constructor
    · rintro ⟨x, hx, rfl⟩
      rw [strB_data]
      exact hS.mem_iff.1 ((List.mergeSort_perm ss _).mem_iff.1 hx)
    · intro hx
      exact ⟨s.data.toList, (List.mergeSort_perm ss _).mem_iff.2 (hS.mem_iff.2 hx), strB_eq s⟩
  · rw [List.length_map, hl, hS.length_eq]
    obtain ⟨es, hD, _⟩ := hown.entries law9
    subst hD
    simpa [strKeys, Maps.size] using hsz

/-! ### the quotas that nobody made -/
theorem none_nil (w : World) : Calls Try.prog 18 #[.pointer none] w fun e w' => e = .returned (.bool true) ∧ w = w' := by
  go_enter Try.func18, Try.ntmps18
  go_wp2
  go_ret
  exact ⟨rfl, rfl⟩
theorem none_odd (ob : Nat) (w : World) (h : Blk w ob 36 #[.map none]) : Calls Try.prog 18 #[.pointer (some ⟨ob, 0, none⟩)] w fun e w' => e = .returned (.bool true) ∧ w = w' := by
  have hc := h.cell 0
  simp at hc
  have qT := fun (w : World) (r : Option Nat) => run_eql_map_nil w _ _ _ r Try.underlying34
  go_enter Try.func18, Try.ntmps18
  go_wp2
  go_ret
  exact ⟨rfl, rfl⟩
section
variable {p : Value} {w : World} (hn : Calls Try.prog 18 #[p] w fun e w' => e = .returned (.bool true) ∧ w = w')
include hn
theorem many_none (s : ByteArray) : Calls Try.prog 9 #[p, .string s] w fun e w' => e = .returned (.int .i64 0) ∧ w = w' := by
  have HN := Lib.hid hn
  clear hn
  go_enter Try.func9, Try.ntmps9
  go_wp2_with (go_at_call 18; refine HN.out.mono ?_; rintro e w' ⟨rfl, rfl⟩)
  go_ret
  exact ⟨rfl, rfl⟩
theorem take_none (s : ByteArray) (most : Int) : Calls Try.prog 11 #[p, .string s, .int .i64 most] w fun e w' => e = .returned (.bool false) ∧ w = w' := by
  have HN := Lib.hid hn
  clear hn
  go_enter Try.func11, Try.ntmps11
  go_wp2_with (go_at_call 18; refine HN.out.mono ?_; rintro e w' ⟨rfl, rfl⟩)
  go_ret
  exact ⟨rfl, rfl⟩
theorem give_of_none (s : ByteArray) : Calls Try.prog 10 #[p, .string s] w fun e w' => e = .returned (.bool false) ∧ w = w' := by
  have HM := Lib.hid (many_none hn s)
  clear hn
  go_enter Try.func10, Try.ntmps10
  go_wp2_with (go_at_call 9; refine HM.out.mono ?_; rintro e w' ⟨rfl, rfl⟩)
  go_ret
  exact ⟨rfl, rfl⟩
theorem names_none : Calls Try.prog 14 #[p] w fun e w' => e = .returned (.slice none 0 0) ∧ w = w' := by
  have HN := Lib.hid hn
  clear hn
  go_enter Try.func14, Try.ntmps14
  go_wp2_with (go_at_call 18; refine HN.out.mono ?_; rintro e w' ⟨rfl, rfl⟩)
  go_ret
  exact ⟨rfl, rfl⟩
end

end Go.Proofs.Ytlhogpnfongfmaa
