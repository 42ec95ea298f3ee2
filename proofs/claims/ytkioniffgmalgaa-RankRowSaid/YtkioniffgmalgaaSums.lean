/-
  SipSums' walk.
-/
import Derived.Test.YtkioniffgmalgaaRefSum
import Derived.Test.YtkioniffgmalgaaAppend
import Derived.Laws.BytesArg
namespace Go.Proofs.Ytkioniffgmalgaa
open Go.RowKit Sp
set_option linter.unusedVariables false

theorem conv_bytes {W : World} {A : Option Addr} {xs : List Int} {ok : Nat → Prop} (c : Nat) (h : BytesAt W A xs ok) :
    (convert 31 9 (.slice A xs.length c)).run Try.prog W = .ok (.string (strOfNums xs)) W := by
  rcases Nat.eq_zero_or_pos xs.length with h0 | h0
  · obtain rfl : xs = [] := List.eq_nil_of_length_eq_zero h0
    cases A with
    | none => exact run_convert_bytes_nil W 31 5 Try.underlying31 Try.underlying5 _ c 9 Try.underlying9
    | some a =>
      rw [run_convert_bytes_string W 31 9 5 _ _ c Try.underlying31 Try.underlying5 Try.underlying9, show ([] : List Int).length = 0 from rfl, run_bytesToString W a 0 c [] (run_loadCells_list (P := Try.prog) W a [] (fun j v hj => by simp at hj))]
      rfl
  · obtain ⟨b, off, rfl, _, _, hc⟩ := h h0
    exact run_convert_bytes_arg W 31 5 Try.underlying31 Try.underlying5 b off _ c xs rfl hc 9 Try.underlying9

theorem own_form {w : World} {base : Nat} {e : TypeId} {n : Nat} {v : Value} {xs : List Int} (h : w.ownsRow base e 1 v n (bcells xs)) :
    ∃ A c, v = .slice A n c ∧ xs.length = n ∧ (∀ a, A = some a → a.spot = none ∧ base ≤ a.block ∧ a.block < w.heap.size) ∧ BytesAt w A xs (base ≤ ·) ∧ n ≤ c := by
  have hl : xs.length = n := by have := h.1; simpa [bcells] using this
  rcases h.2 with ⟨rfl, rfl⟩ | ⟨g, cap, cur, rfl, hb, hh, hnc, _⟩
  · exact ⟨none, 0, rfl, hl, (fun a ha => by cases ha), (fun h0 => absurd h0 (by omega)), Nat.le_refl _⟩
  · have hlt : g < w.heap.size := (Array.getElem?_eq_some_iff.1 hh).1
    refine ⟨some ⟨g, 0, none⟩, cap, rfl, hl, fun a ha => by cases ha; exact ⟨rfl, hb, hlt⟩, fun h0 => ⟨g, 0, rfl, hb, hlt, fun k hk => ?_⟩, hnc⟩
    rw [Nat.zero_add, h.cellAt k (by omega)]
    simp [bcells, List.getElem?_eq_getElem hk, List.getD_eq_getElem?_getD]

theorem BytesAt.reads {w : World} {A : Option Addr} {xs : List Int} {ok : Nat → Prop} (h : BytesAt w A xs ok) : Reads w w.heap.size 1 A xs.length (bcells xs) := by
  refine ⟨by simp [bcells], fun h0 => ?_⟩
  obtain ⟨b, off, rfl, _, hb, hc⟩ := h h0
  refine ⟨⟨b, off, none⟩, rfl, hb, fun j u hu => ?_⟩
  have hj : j < xs.length := by
    rcases Nat.lt_or_ge j xs.length with h | h
    · exact h
    · simp [bcells, List.getElem?_eq_none h] at hu
  have e : (⟨b, off, none⟩ : Addr).add j = ⟨b, off + j, none⟩ := by unfold Addr.add; split <;> simp_all
  rw [e, hc j hj, ← hu]
  simp [bcells, List.getElem?_eq_getElem hj, List.getD_eq_getElem?_getD]

theorem info5 : (Try.prog.info? 5).map (fun i => (i.zero, i.size, i.bytes)) = some (some (.int .u8 0), 1, 1) := by kernel_rfl

set_option maxRecDepth 100000 in
set_option maxHeartbeats 1000000 in
theorem sums_calls (k0 k1 : Int) (bs : List Int) (A : Option Addr) (c : Nat) (w : World) (hX : BytesAt w A bs (fun _ => True)) (hb : Byts bs) (hk0 : W k0) (hk1 : W k1) (hl : bs.length ≤ 9223372036854775807) :
    Calls Try.prog 4 #[.int .u64 k0, .int .u64 k1, .slice A bs.length c] w fun e w' => e = .returned (.bool true) ∧ Fr [] w w' := by
  by_cases hlen : 2000 < bs.length
  · clear hX hb
    go_enter Try.func4, Try.ntmps4
    go_wp2_with fail
    go_ret
    exact ⟨rfl, Fr.refl _ _⟩
  · obtain ⟨i0, hi, hz0, hz1, hz2⟩ := info_parts info5
    have HX := Lib.hid hX
    have HB := Lib.hid hb
    clear hX hb
    go_enter Try.func4, Try.ntmps4
    go_wp2_with (first
      | (at_builtin; refine wpList_append_any _ rfl (.tmp 11) (.tmp 12) _ rfl w.heap.size 5 i0 _ 1 1 Try.underlying31 hi hz0 hz1 hz2 rfl (by omega) (.slice (some ⟨w.heap.size, 0, none⟩) 0 0) 0 [] rfl (ownsRow_empty w 5 w.heap.size (Nat.le_refl _)) w.heap.size A bs.length c (bcells bs) rfl (HX.out.reads.alloc (Nat.le_refl _) _) (bcells_one _) (by simp only [maxLen]; omega) (by omega) (by simp) ?_; intro v1 w1 hown1 hg1 hat1))
    simp only [Nat.zero_add, List.nil_append] at hown1
    obtain ⟨A1, c1, rfl, _, hsp, hX1, _⟩ := own_form hown1
    have hf1 : Fr [] w w1 := ((Fr.refl [] w).alloc (.cells #[] 5)).trans (Fr.of_grown hg1) (by simp)
    have HSP := Lib.hid hsp
    have HX1 := Lib.hid (hX1.imp (ok' := fun _ => True) fun _ _ _ => trivial)
    clear hown1 hg1 hat1 hsp hX1
    refine (sum_calls k0 k1 bs A1 c1 w1 HX1.out HB.out hk0 hk1 (by omega)).mono ?_
    rintro e w2 ⟨rfl, hf2⟩
    have hf12 := hf1.trans hf2 (by simp)
    go_wp2_with fail
    refine (refSum_calls k0 k1 bs A c w2 (HX.out.fr hf12 (by simp)) HB.out hk0 hk1 (by omega)).mono ?_
    rintro e w3 ⟨rfl, hb3⟩
    have hf3 := Fr.of_below hb3
    have hs1 := conv_bytes c1 ((HX1.out.fr hf2 (by simp)).fr hf3 (by simp))
    have hs2 := conv_bytes c ((HX.out.fr hf12 (by simp)).fr hf3 (by simp))
    go_wp2_with fail
    go_ret
    exact ⟨rfl, hf12.trans hf3 (by simp)⟩
end Go.Proofs.Ytkioniffgmalgaa
