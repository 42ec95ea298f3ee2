/-
  The reference's Give by its contract; the quotas that nobody made.
-/
import Derived.Test.YtlhogpnfongfmaaRef27
namespace Go.Proofs.Ytlhogpnfongfmaa
open Go.RowKit
set_option linter.unusedVariables false

/-- The names without the first that is s. -/
def del1 (l : List ByteArray) (s : ByteArray) : List ByteArray := l.eraseP (fun t => t.toList == s.toList)
def has1 (l : List ByteArray) (s : ByteArray) : Bool := l.any (fun t => t.toList == s.toList)
theorem has1_cnt (l : List ByteArray) (s : ByteArray) : has1 l s = decide (0 < cnt l s) := by
  unfold has1 cnt
  rw [Bool.eq_iff_iff, List.any_eq_true, decide_eq_true_iff, List.countP_pos_iff]
theorem has1_snoc (l : List ByteArray) (s t : ByteArray) : has1 (l ++ [t]) s = (has1 l s || (t.toList == s.toList)) := by
  unfold has1
  rw [List.any_append]
  simp
theorem del1_yes {l : List ByteArray} {s t : ByteArray} (h : has1 l s = true) : del1 (l ++ [t]) s = del1 l s ++ [t] := by
  unfold del1 has1 at *
  rw [List.eraseP_append, if_pos h]
theorem del1_no {l : List ByteArray} {s t : ByteArray} (h : has1 l s = false) : del1 (l ++ [t]) s = if (t.toList == s.toList) = true then l else l ++ [t] := by
  unfold del1 has1 at *
  rw [List.eraseP_append, if_neg (by rw [h]; exact Bool.false_ne_true)]
  by_cases he : (t.toList == s.toList) = true
  · simp [he]
  · simp [he]
theorem del1_same {l : List ByteArray} {s : ByteArray} (h : has1 l s = false) : del1 l s = l := by
  unfold del1 has1 at *
  refine List.eraseP_of_forall_not fun a ha he => ?_
  have : l.any (fun t => t.toList == s.toList) = true := List.any_eq_true.2 ⟨a, ha, he⟩
  rw [h] at this; cases this
theorem del1_len (l : List ByteArray) (s : ByteArray) : (del1 l s).length ≤ l.length := List.length_eraseP_le

set_option maxHeartbeats 1000000 in
theorem refGive_calls (B r : Nat) (v : Value) (l : List ByteArray) (s : ByteArray) (w : World) (h : RefAt w B r v l) (hl : l.length ≤ 1000) (hB : B ≤ w.heap.size) :
    Calls Try.prog 12 #[.pointer (some ⟨r, 0, none⟩), .string s] w fun e w' => e = .returned (.bool (decide (0 < cnt l s))) ∧
      ∃ v', RefAt w' B r v' (del1 l s) ∧ Fr [r] w w' ∧ (∀ g, v'.ownBlock = some g → w.heap.size ≤ g) := by
  rw [← has1_cnt]
  have HH := Lib.hid h
  obtain ⟨A, c, rfl, hcv⟩ := own_cell h.own
  have HCV := Lib.hid hcv
  have hrlt := h.blk.lt
  obtain ⟨H, hH⟩ : ∃ H, w.heap.size = H := ⟨_, rfl⟩
  rw [hH] at hrlt hB
  have HW := Lib.hid hH
  have hkeep : ∀ W, Fr [] w W → W.cell? ⟨r, 0, none⟩ = some (.slice A l.length c) ∧ Blk W r 40 #[.slice A l.length c] := fun W hf => by
    have := hf.blk h.blk (by simp)
    exact ⟨this.cell 0, this⟩
  have HKEEP := Lib.hid hkeep
  have hc : w.cell? ⟨r, 0, none⟩ = some (.slice A l.length c) := h.blk.cell 0
  clear h hcv hkeep hH
  go_enter Try.func12, Try.ntmps12
  rw [HW.out]
  go_wp2_with fail
  go_loopw [5, 6, 7] (fun v5 v6 i wr => ∃ k : Nat, k ≤ l.length ∧ i = .int .i64 k ∧ v6 = .bool (has1 (l.take k) s) ∧ wr.ownsRow H 9 1 v5 (del1 (l.take k) s).length (scells (del1 (l.take k) s)) ∧ Fr [] w wr ∧ H ≤ wr.heap.size) (fun _ _ i _ => l.length - (intOf i).toNat)
  case atStart => exact ⟨0, Nat.zero_le _, rfl, rfl, World.ownsRow_nil _ _ _ _, Fr.refl _ _, by have := HW.out; omega⟩
  case round =>
    obtain ⟨k, hk, rfl, rfl, hown, hfr, hHw⟩ := hrel
    have HOW := Lib.hid hown
    have HF := Lib.hid hfr
    have hcr := (HKEEP.out wr hfr).1
    clear hown hfr hc
    by_cases hlt : k < l.length
    · obtain ⟨g, rfl, _, hgl, hcc⟩ := HCV.out (by omega)
      obtain ⟨t, ht⟩ : ∃ t, l[k]? = some t := ⟨_, List.getElem?_eq_getElem hlt⟩
      have h1 := hcc k (.string t) (by simp [scells, ht])
      rw [Nat.zero_add] at h1
      have h2 : wr.cell? ⟨g, k, none⟩ = some (.string t) := (HF.out.cell (p := ⟨g, k, none⟩) hgl (by simp)).trans h1
      have htk : l.take (k + 1) = l.take k ++ [t] := by rw [List.take_add_one, ht]; rfl
      have hdl := del1_len (l.take k) s
      have hdl2 : (l.take k).length ≤ k := List.length_take_le _ _
      have hhs := has1_snoc (l.take k) s t
      have hdy := fun h => del1_yes (l := l.take k) (s := s) (t := t) h
      have hdn := fun h => del1_no (l := l.take k) (s := s) (t := t) h
      have hds := fun h => del1_same (l := l.take k) (s := s) h
      rw [← htk] at hhs hdy hdn
      obtain ⟨xs, hxs⟩ : ∃ xs, del1 (l.take k) s = xs := ⟨_, rfl⟩
      obtain ⟨ys, hys⟩ : ∃ ys, del1 (l.take (k + 1)) s = ys := ⟨_, rfl⟩
      obtain ⟨b, hb⟩ : ∃ b, has1 (l.take k) s = b := ⟨_, rfl⟩
      obtain ⟨b', hb'⟩ : ∃ b, has1 (l.take (k + 1)) s = b := ⟨_, rfl⟩
      rw [hxs] at HOW hdl hdy hds
      rw [hys] at hdy hdn
      rw [hb] at hhs hdy hdn hds ⊢
      rw [hb'] at hhs
      have HYS := Lib.hid (And.intro hys hb')
      have HTK := Lib.hid htk
      clear h1 hcc ht htk hxs hys hb hb'
      obtain ⟨i9, hi, hz0, hz1, hz2⟩ := info_parts info9
      by_cases hskip : b = false ∧ (t.toList == s.toList) = true
      · obtain ⟨rfl, he⟩ := hskip
        have hyx : ys = xs := by
          rw [hdn rfl, if_pos he, ← hds rfl]
        rw [he] at hhs
        have HYX := Lib.hid (And.intro hyx hhs)
        clear hhs hdy hdn hds hyx
        go_wp2_with fail
        go_roundw
        case rel => exact ⟨k + 1, by omega, by go_num, by rw [HYS.out.2, HYX.out.2]; rfl, by rw [HYS.out.1, HYX.out.1]; exact HOW.out, HF.out, hHw⟩
        case measure => simp [intOf]; omega
      · have hyx : ys = xs ++ [t] := by
          cases b with
          | true => rw [hdy rfl]
          | false =>
            have he : ¬ (t.toList == s.toList) = true := fun he => hskip ⟨rfl, he⟩
            rw [hdn rfl, if_neg he, hds rfl]
            exact HTK.out
        have hbb : b' = b := by
          rw [hhs]
          cases b with
          | true => rfl
          | false =>
            have he : ¬ (t.toList == s.toList) = true := fun he => hskip ⟨rfl, he⟩
            cases hx : (t.toList == s.toList) with
            | true => exact absurd hx he
            | false => rfl
        have HYX := Lib.hid (And.intro hyx hbb)
        have hcase : (b = true ∧ (t.toList == s.toList) = true) ∨ (t.toList == s.toList) = false := by
          cases b with
          | true =>
            cases he : (t.toList == s.toList) with
            | true => exact .inl ⟨rfl, rfl⟩
            | false => exact .inr rfl
          | false =>
            have he : ¬ (t.toList == s.toList) = true := fun he => hskip ⟨rfl, he⟩
            cases hx : (t.toList == s.toList) with
            | true => exact absurd hx he
            | false => exact .inr rfl
        clear hhs hdy hdn hds hyx hbb hskip
        rcases hcase with ⟨rfl, he⟩ | he
        all_goals
          go_wp2_with (first
            | (at_builtin; refine wpList_append_any _ rfl (.tmp 30) (.tmp 38) _ rfl H 9 i9 _ 1 16 Try.underlying38 hi hz0 hz1 hz2 rfl (by omega) u5 xs.length (scells xs) rfl (own_alloc HOW.out _) (wr.heap.size + 1) (some ⟨wr.heap.size, 0, none⟩) 1 1 (scells [t]) rfl (reads_new wr 9 (scells [t]) 1 rfl) (scells_one _) (by simp only [maxLen]; omega) (by omega) (by simp; omega) ?_; intro v3 w3 hown3 hg3 hat3))
          have hge : ∀ y ∈ u5.ownBlock.toList, H ≤ y := fun y hy => own_ge HOW.out (by simpa using hy)
          have hf3 := ((Fr.refl u5.ownBlock.toList wr).alloc (.cells (scells [t]).toArray 9)).trans (Fr.of_grownO hg3) (fun y hy => .inl hy)
          have hrow : w3.ownsRow H 9 1 v3 ys.length (scells ys) := by
            rw [HYX.out.1, scells_append, List.length_append]
            exact hown3
          have HALL := Lib.hid (And.intro hrow (HF.out.trans hf3 (fun y hy => .inr (by have := hge y hy; have := HW.out; omega))))
          have hz3 : H ≤ w3.heap.size := Nat.le_trans hHw hf3.size
          clear hown3 hg3 hat3 hge hf3 hrow
          go_wp2_with fail
          go_roundw
          case rel => exact ⟨k + 1, by omega, by go_num, by rw [HYS.out.2, HYX.out.2], by rw [HYS.out.1]; exact HALL.out.1, HALL.out.2, hz3⟩
          case measure => simp [intOf]; omega
    · obtain rfl : k = l.length := by omega
      have hrow := HOW.out
      rw [List.take_length] at hrow
      rw [List.take_length]
      obtain ⟨V, c', rfl, _⟩ := own_cell hrow
      have HROW := Lib.hid hrow
      have hbk := (HKEEP.out wr HF.out).2
      have hfz := hbk.frozen 0
      have HBK := Lib.hid hbk
      clear hrow hbk
      go_wp2_with fail
      go_ret
      have hge : ∀ g, (Value.slice V (del1 l s).length c').ownBlock = some g → H ≤ g := fun g hg => own_ge HROW.out hg
      have hS : Fr [r] wr (wr.setCell ⟨r, 0, none⟩ (.slice V (del1 l s).length c')) := (Fr.refl [r] wr).setCell (.inl (by simp)) _
      exact ⟨rfl, _, ⟨HBK.out.set_ 0 _, own_base (hS.own HROW.out (fun g hg hm => by have := hge g hg; simp at hm; omega)) hB, fun g hg => by have := hge g hg; omega⟩, (HF.out.mono (by simp)).trans hS (by simp), hge⟩

end Go.Proofs.Ytlhogpnfongfmaa
