/-
  The reference's quota by contracts: Many, Take, Give, Same.
-/
import Derived.Test.YtlhogpnfongfmaaRows27
import Derived.BigQuiet
namespace Go.Proofs.Ytlhogpnfongfmaa
open Go.RowKit
set_option linter.unusedVariables false

/-- How often a name was taken. -/
def cnt (l : List ByteArray) (s : ByteArray) : Nat := l.countP (fun t => t.toList == s.toList)
theorem cnt_snoc (l : List ByteArray) (s t : ByteArray) : cnt (l ++ [t]) s = cnt l s + if (t.toList == s.toList) = true then 1 else 0 := by
  unfold cnt
  rw [List.countP_append, List.countP_cons, List.countP_nil, Nat.zero_add]
theorem cnt_le (l : List ByteArray) (s : ByteArray) : cnt l s ≤ l.length := List.countP_le_length

set_option maxHeartbeats 400000 in
theorem refMany_calls (B r : Nat) (v : Value) (l : List ByteArray) (s : ByteArray) (w : World) (h : RefAt w B r v l) (hl : l.length ≤ 1000) :
    Calls Try.prog 17 #[.pointer (some ⟨r, 0, none⟩), .string s] w fun e w' => e = .returned (.int .i64 (cnt l s)) ∧ w = w' := by
  obtain ⟨A, c, rfl, hcv⟩ := own_cell h.own
  have hc := h.blk.cell 0
  simp at hc
  have HCV := Lib.hid hcv
  clear hcv h
  go_enter Try.func17, Try.ntmps17
  go_wp2_with fail
  go_loop [5, 6] (fun n i => ∃ k : Nat, k ≤ l.length ∧ i = .int .i64 k ∧ n = .int .i64 (cnt (l.take k) s)) (fun _ i => l.length - (intOf i).toNat)
  case atStart => exact ⟨0, Nat.zero_le _, rfl, rfl⟩
  case round =>
    obtain ⟨k, hk, rfl, rfl⟩ := hrel
    by_cases hlt : k < l.length
    · obtain ⟨g, rfl, _, _, hcc⟩ := HCV.out (by omega)
      obtain ⟨t, ht⟩ : ∃ t, l[k]? = some t := ⟨_, List.getElem?_eq_getElem hlt⟩
      have h1 := hcc k (.string t) (by simp [scells, ht])
      rw [Nat.zero_add] at h1
      have hsn := cnt_snoc (l.take k) s t
      have htk : l.take (k + 1) = l.take k ++ [t] := by rw [List.take_add_one, ht]; rfl
      rw [← htk] at hsn
      have hle := cnt_le (l.take k) s
      have hle2 : (l.take k).length ≤ k := List.length_take_le _ _
      obtain ⟨x, hx⟩ : ∃ x, cnt (l.take k) s = x := ⟨_, rfl⟩
      rw [hx] at hsn hle ⊢
      clear hcc ht htk hx
      by_cases he : (t.toList == s.toList) = true
      · rw [if_pos he] at hsn
        have HSN := Lib.hid hsn
        clear hsn
        go_wp2_with fail
        go_round
        case rel => exact ⟨k + 1, by omega, by go_num, by rw [HSN.out]; go_num⟩
        case measure => simp [intOf]; omega
      · have he2 : (t.toList == s.toList) = false := by simpa using he
        rw [if_neg he] at hsn
        have HSN := Lib.hid hsn
        clear hsn he
        go_wp2_with fail
        go_round
        case rel => exact ⟨k + 1, by omega, by go_num, by rw [HSN.out]; rfl⟩
        case measure => simp [intOf]; omega
    · obtain rfl : k = l.length := by omega
      rw [List.take_length]
      go_wp2_with fail
      go_ret
      exact ⟨rfl, rfl⟩

set_option maxHeartbeats 400000 in
theorem refTake_calls (B r : Nat) (v : Value) (l : List ByteArray) (s : ByteArray) (most : Int) (w : World) (h : RefAt w B r v l) (hl : l.length < 1000) (hB : B ≤ w.heap.size) :
    Calls Try.prog 13 #[.pointer (some ⟨r, 0, none⟩), .string s, .int .i64 most] w fun e w' => e = .returned (.bool (decide ((cnt l s : Int) < most))) ∧
      ∃ v', RefAt w' B r v' (if (cnt l s : Int) < most then l ++ [s] else l) ∧ Fr (r :: v.ownBlock.toList) w w' ∧ (∀ g, v'.ownBlock = some g → v.ownBlock = some g ∨ w.heap.size ≤ g) := by
  have HM := Lib.hid (refMany_calls B r v l s w h (by omega))
  have H := Lib.hid h
  obtain ⟨A, c, rfl, _⟩ := own_cell h.own
  have hc := h.blk.cell 0
  simp at hc
  have hfz := h.blk.frozen 0
  have hrlt := h.blk.lt
  clear h
  obtain ⟨n, hn⟩ : ∃ n, cnt l s = n := ⟨_, rfl⟩
  have hn2 : n ≤ 1000 := by have := cnt_le l s; omega
  rw [hn] at HM ⊢
  clear hn
  by_cases hlt : (n : Int) < most
  · have hnle : ¬ most ≤ (n : Int) := by omega
    rw [decide_eq_true hlt, if_pos hlt]
    obtain ⟨i9, hi, hz0, hz1, hz2⟩ := info_parts info9
    have hnr := H.out.apart
    have HNR := Lib.hid hnr
    have hcr : ∀ w', Fr (Value.slice A l.length c).ownBlock.toList w w' → w'.frozen? ⟨r, 0, none⟩ = false ∧ Blk w' r 40 #[.slice A l.length c] := fun w' hf => by
      have := hf.blk H.out.blk (fun hm => HNR.out r (by simpa using hm) rfl)
      exact ⟨this.frozen 0, this⟩
    have HCR := Lib.hid hcr
    clear hnr hcr hlt
    go_enter Try.func13, Try.ntmps13
    go_wp2_with fail
    refine HM.out.mono ?_
    rintro e w1 ⟨rfl, rfl⟩
    go_wp2_with (first
      | (at_builtin; refine wpList_append_any _ rfl (.tmp 16) (.tmp 18) _ rfl B 9 i9 _ 1 16 Try.underlying38 hi hz0 hz1 hz2 rfl (by omega) (.slice A l.length c) l.length (scells l) rfl (own_alloc H.out.own _) (w.heap.size + 1) (some ⟨w.heap.size, 0, none⟩) 1 1 (scells [s]) rfl (reads_new w 9 (scells [s]) 1 rfl) (scells_one _) (by simp only [maxLen]; omega) (by omega) (by simp; omega) ?_; intro v3 w3 hown3 hg3 hat3; obtain ⟨V3, c3, rfl, _⟩ := own_cell hown3; have hf3 := ((Fr.refl (Value.slice A l.length c).ownBlock.toList w).alloc (.cells (scells [s]).toArray 9)).trans (Fr.of_grownO hg3) (fun y hy => .inl hy); have hfz3 := (HCR.out w3 hf3).1; have hB3 := Lib.hid (HCR.out w3 hf3).2; have hce3 : w3.cell? ⟨r, 0, none⟩ = some (.slice A l.length c) := hB3.out.cell 0; have HOWN := Lib.hid hown3; have HAT := Lib.hid hat3; have HF3 := Lib.hid hf3; clear hown3 hg3 hat3 hf3))
    go_ret
    have hap : ∀ g, (Value.slice V3 (l.length + 1) c3).ownBlock = some g → (Value.slice A l.length c).ownBlock = some g ∨ w.heap.size ≤ g := fun g hg => by
      rcases HAT.out with h1 | h1
      · exact .inl (h1 ▸ hg)
      · rw [h1] at hg; cases hg; exact .inr (by simp)
    have hne : ∀ g, (Value.slice V3 (l.length + 1) c3).ownBlock = some g → g ≠ r := fun g hg e => by
      rcases hap g hg with h1 | h1
      · exact HNR.out g h1 e
      · omega
    refine ⟨rfl, .slice V3 (l.length + 1) c3, ⟨?_, ?_, hne⟩, ?_, hap⟩
    · exact hB3.out.set_ 0 (.slice V3 (l.length + 1) c3)
    · rw [List.length_append, scells_append]
      exact ((Fr.refl [r] w3).setCell (.inl (by simp)) _).own HOWN.out (fun g hg hm => by simp at hm; exact hne g hg hm)
    · exact (HF3.out.mono (fun x hx => .inl (List.mem_cons_of_mem _ hx))).setCell (.inl (by simp)) _
  · have hle : most ≤ (n : Int) := by omega
    rw [decide_eq_false hlt, if_neg hlt]
    clear hlt
    go_enter Try.func13, Try.ntmps13
    go_wp2_with fail
    refine HM.out.mono ?_
    rintro e w1 ⟨rfl, rfl⟩
    go_wp2_with fail
    go_ret
    exact ⟨rfl, _, H.out, Fr.refl _ _, fun g hg => .inl hg⟩

set_option maxHeartbeats 400000 in
theorem refSame_calls (xs : List ByteArray) (A B : Option Addr) (c d : Nat) (w : World) (hX : StrsAt w A xs (fun _ => True)) (hY : StrsAt w B xs (fun _ => True)) (hl : xs.length ≤ 9223372036854775807) :
    Calls Try.prog 15 #[.slice A xs.length c, .slice B xs.length d] w fun e w' => e = .returned (.bool true) ∧ Fr [] w w' := by
  have HX := Lib.hid hX
  have HY := Lib.hid hY
  clear hX hY
  go_enter Try.func15, Try.ntmps15
  go_wp2_with fail
  go_loopw [5] (fun i wr => ∃ k : Nat, k ≤ xs.length ∧ i = .int .i64 k ∧ Fr [] w wr) (fun i _ => xs.length - (intOf i).toNat)
  case atStart => exact ⟨0, by omega, rfl, Fr.refl _ _⟩
  case round =>
    obtain ⟨k, hk, rfl, hfr⟩ := hrel
    by_cases hlt : k < xs.length
    · obtain ⟨b1, o1, rfl, _, hb1, hc1⟩ := (HX.out.fr hfr (fun _ _ _ => by simp)) (by omega)
      obtain ⟨b2, o2, rfl, _, hb2, hc2⟩ := (HY.out.fr hfr (fun _ _ _ => by simp)) (by omega)
      obtain ⟨x, hgx⟩ : ∃ x, xs[k]? = some x := ⟨_, List.getElem?_eq_getElem hlt⟩
      have hx := hc1 k x hgx
      have hy := hc2 k x hgx
      have HF := Lib.hid hfr
      clear hc1 hc2 hgx hfr
      go_wp2_with fail
      go_quiet (fail)
      go_wp2_with fail
      go_roundw
      case rel => exact ⟨k + 1, by omega, by go_num, HF.out.drewN _⟩
      case measure => simp [intOf]; omega
    · obtain rfl : k = xs.length := by omega
      go_wp2_with fail
      go_ret
      exact ⟨rfl, hfr⟩

end Go.Proofs.Ytlhogpnfongfmaa
