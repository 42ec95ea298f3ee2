/-
  The laws' without and place by their contracts.
-/
import Derived.Test.YtkioniffgmalgaaLessLaw
namespace Go.Proofs.Ytkioniffgmalgaa
open Go.RowKit Go.Sort Sp
set_option linter.unusedVariables false

/-- One number more at the end of a row of the call's own. -/
theorem fr_own_one {w w3 : World} {B : Nat} {u : Value} {k : Nat} {xs : List Value} {o : Obj} (ho : w.ownsRow B 3 1 u k xs) (hg : (w.alloc o).grownBy w3 u.ownBlock) (hB : B ≤ w.heap.size) : Fr u.ownBlock.toList w w3 ∧ (∀ y ∈ u.ownBlock.toList, B ≤ y) ∧ B ≤ w3.heap.size := by
  have hf := ((Fr.refl u.ownBlock.toList w).alloc o).trans (Fr.of_grownO hg) (fun y hy => .inl hy)
  exact ⟨hf, fun y hy => own_ge ho (by simpa using hy), Nat.le_trans hB hf.size⟩

set_option maxRecDepth 100000 in
set_option maxHeartbeats 1000000 in
theorem without_calls (l : List Int) (n : Int) (less : Bool) (A : Option Addr) (c : Nat) (w : World) (h : IntsAt w A l (fun _ => True)) (hl : l.length ≤ 1000) (hx : ∀ x ∈ l, 0 ≤ x ∧ x ≤ 1000) (hn : 0 ≤ n ∧ n ≤ 1000) :
    Calls Try.prog 29 #[.slice A l.length c, .int .i64 n, .bool less] w fun e w' => ∃ A1 c1, e = .returned (.slice A1 (withoutI l n less).length c1) ∧ IntsAt w' A1 (withoutI l n less) (fun b => w.heap.size ≤ b) ∧ Fr [] w w' := by
  have H := Lib.hid h
  have HX := Lib.hid hx
  clear h hx
  obtain ⟨B, hB⟩ : ∃ B, w.heap.size = B := ⟨_, rfl⟩
  go_enter Try.func29, Try.ntmps29
  rw [hB]
  go_wp2_with fail
  go_loopw [7, 8] (fun v7 i wr => ∃ k : Nat, k ≤ l.length ∧ i = .int .i64 k ∧ wr.ownsRow B 3 1 v7 (withoutI (l.take k) n less).length (icells (withoutI (l.take k) n less)) ∧ Fr [] w wr ∧ B ≤ wr.heap.size) (fun _ i _ => l.length - (intOf i).toNat)
  case atStart => exact ⟨0, Nat.zero_le _, rfl, by simp [icells, withoutI]; exact World.ownsRow_nil _ _ _ _, Fr.refl _ _, by omega⟩
  case round =>
    obtain ⟨k, hk, rfl, ho, hfr, hBw⟩ := hrel
    have HO := Lib.hid ho
    have HF := Lib.hid hfr
    clear ho hfr
    by_cases hlt : k < l.length
    · obtain ⟨b, off, rfl, _, hb, hc⟩ := H.out (by omega)
      obtain ⟨x, hr⟩ : ∃ x, l[k]? = some x := ⟨_, List.getElem?_eq_getElem hlt⟩
      have h1 : wr.cell? ⟨b, off + k, none⟩ = some (.int .i64 x) := (HF.out.cell (p := ⟨b, _, none⟩) hb (by simp)).trans (hc k x hr)
      have hxb := HX.out x (List.mem_of_getElem? hr)
      have hsn := withoutI_snoc (l.take k) n less x
      have htk : l.take (k + 1) = l.take k ++ [x] := by rw [List.take_add_one, hr]; rfl
      rw [← htk] at hsn
      have hwl := withoutI_len (l.take k) n less
      have hwk : (l.take k).length ≤ k := List.length_take_le _ _
      obtain ⟨xs, hxs⟩ : ∃ xs, withoutI (l.take k) n less = xs := ⟨_, rfl⟩
      obtain ⟨ys, hys⟩ : ∃ ys, withoutI (l.take (k + 1)) n less = ys := ⟨_, rfl⟩
      rw [hxs] at HO hsn hwl
      rw [hys] at hsn
      have HYS := Lib.hid hys
      clear hc hr htk hxs hys
      obtain ⟨i3, hi3, hz30, hz31, hz32⟩ := info_parts info3
      by_cases hxn : x = n
      · rw [if_pos hxn, List.append_nil] at hsn
        subst hxn
        have HSN := Lib.hid hsn
        clear hsn
        go_wp2_with fail
        go_roundw
        case rel => exact ⟨k + 1, by omega, by go_num, by rw [HYS.out, HSN.out]; exact HO.out, HF.out, hBw⟩
        case measure => simp [intOf]; omega
      · have hne : (x == n) = false := by simpa using hxn
        rw [if_neg hxn] at hsn
        by_cases hgt : less = true ∧ n < x
        · obtain ⟨rfl, hgt⟩ := hgt
          have e : (if true && decide (n < x) then x - 1 else x) = x - 1 := by simp [hgt]
          rw [e] at hsn
          have HSN := Lib.hid hsn
          clear hsn e hxn
          go_wp2_with (first
            | (at_builtin; refine wpList_append_any _ rfl (.tmp 30) (.tmp 36) _ rfl B 3 i3 _ 1 8 Try.underlying40 hi3 hz30 hz31 hz32 rfl (by omega) u7 xs.length (icells xs) rfl (own_alloc HO.out _) (wr.heap.size + 1) (some ⟨wr.heap.size, 0, none⟩) 1 1 (icells [x - 1]) rfl (reads_new wr 3 (icells [x - 1]) 1 rfl) (icells_one _) (by simp only [maxLen]; omega) (by omega) (by simp; omega) ?_; intro v4 w3 hown4 hg4 hat4))
          obtain ⟨hf3, hge, hz3⟩ := fr_own_one HO.out hg4 hBw
          have hrow : w3.ownsRow B 3 1 v4 ys.length (icells ys) := by
            rw [HSN.out]
            simp only [icells, List.map_append, List.length_append, List.length_singleton] at hown4 ⊢
            exact hown4
          have HALL := Lib.hid (And.intro hrow (HF.out.trans hf3 (fun y hy => .inr (by have := hge y hy; have := HF.out.size; omega))))
          clear hown4 hg4 hat4 hf3 hge hrow
          go_wp2_with fail
          go_roundw
          case rel => exact ⟨k + 1, by omega, by go_num, by rw [HYS.out]; exact HALL.out.1, HALL.out.2, hz3⟩
          case measure => simp [intOf]; omega
        · have e : (if less && decide (n < x) then x - 1 else x) = x := by
            cases less with
            | false => rfl
            | true => simp at hgt; rw [if_neg (by simp; exact hgt)]
          rw [e] at hsn
          have HSN := Lib.hid hsn
          clear hsn e hxn
          cases less with
          | false =>
            clear hgt
            go_wp2_with (first
              | (at_builtin; refine wpList_append_any _ rfl (.tmp 38) (.tmp 43) _ rfl B 3 i3 _ 1 8 Try.underlying40 hi3 hz30 hz31 hz32 rfl (by omega) u7 xs.length (icells xs) rfl (own_alloc HO.out _) (wr.heap.size + 1) (some ⟨wr.heap.size, 0, none⟩) 1 1 (icells [x]) rfl (reads_new wr 3 (icells [x]) 1 rfl) (icells_one _) (by simp only [maxLen]; omega) (by omega) (by simp; omega) ?_; intro v4 w3 hown4 hg4 hat4))
            obtain ⟨hf3, hge, hz3⟩ := fr_own_one HO.out hg4 hBw
            have hrow : w3.ownsRow B 3 1 v4 ys.length (icells ys) := by
              rw [HSN.out]
              simp only [icells, List.map_append, List.length_append, List.length_singleton] at hown4 ⊢
              exact hown4
            have HALL := Lib.hid (And.intro hrow (HF.out.trans hf3 (fun y hy => .inr (by have := hge y hy; have := HF.out.size; omega))))
            clear hown4 hg4 hat4 hf3 hge hrow
            go_wp2_with fail
            go_roundw
            case rel => exact ⟨k + 1, by omega, by go_num, by rw [HYS.out]; exact HALL.out.1, HALL.out.2, hz3⟩
            case measure => simp [intOf]; omega
          | true =>
            have hng : ¬ n < x := by simpa using hgt
            have hng2 : x ≤ n := by omega
            clear hgt
            go_wp2_with (first
              | (at_builtin; refine wpList_append_any _ rfl (.tmp 38) (.tmp 43) _ rfl B 3 i3 _ 1 8 Try.underlying40 hi3 hz30 hz31 hz32 rfl (by omega) u7 xs.length (icells xs) rfl (own_alloc HO.out _) (wr.heap.size + 1) (some ⟨wr.heap.size, 0, none⟩) 1 1 (icells [x]) rfl (reads_new wr 3 (icells [x]) 1 rfl) (icells_one _) (by simp only [maxLen]; omega) (by omega) (by simp; omega) ?_; intro v4 w3 hown4 hg4 hat4))
            obtain ⟨hf3, hge, hz3⟩ := fr_own_one HO.out hg4 hBw
            have hrow : w3.ownsRow B 3 1 v4 ys.length (icells ys) := by
              rw [HSN.out]
              simp only [icells, List.map_append, List.length_append, List.length_singleton] at hown4 ⊢
              exact hown4
            have HALL := Lib.hid (And.intro hrow (HF.out.trans hf3 (fun y hy => .inr (by have := hge y hy; have := HF.out.size; omega))))
            clear hown4 hg4 hat4 hf3 hge hrow
            go_wp2_with fail
            go_roundw
            case rel => exact ⟨k + 1, by omega, by go_num, by rw [HYS.out]; exact HALL.out.1, HALL.out.2, hz3⟩
            case measure => simp [intOf]; omega
    · obtain rfl : k = l.length := by omega
      have hs := HO.out
      rw [List.take_length] at hs
      obtain ⟨A1, c1, rfl, hI⟩ := ints_of_own hs
      have HI := Lib.hid hI
      clear hs hI
      go_wp2_with fail
      go_ret
      exact ⟨A1, c1, rfl, HI.out, HF.out⟩

set_option maxHeartbeats 400000 in
theorem place_calls (l : List Int) (n : Int) (A : Option Addr) (c : Nat) (w : World) (h : IntsAt w A l (fun _ => True)) (hl : l.length ≤ 1000) :
    Calls Try.prog 30 #[.slice A l.length c, .int .i64 n] w fun e w' => e = .returned (.int .i64 (placeI l n)) ∧ w = w' := by
  have H := Lib.hid h
  clear h
  go_enter Try.func30, Try.ntmps30
  go_wp2_with fail
  go_loop [5] (fun i => ∃ k : Nat, k ≤ l.length ∧ i = .int .i64 k ∧ n ∉ l.take k) (fun i => l.length - (intOf i).toNat)
  case atStart => exact ⟨0, Nat.zero_le _, rfl, by simp⟩
  case round =>
    obtain ⟨k, hk, rfl, hno⟩ := hrel
    have HN := Lib.hid hno
    clear hno
    by_cases hlt : k < l.length
    · obtain ⟨b, off, rfl, _, hb, hc⟩ := H.out (by omega)
      obtain ⟨x, hr⟩ : ∃ x, l[k]? = some x := ⟨_, List.getElem?_eq_getElem hlt⟩
      have h1 := hc k x hr
      have HR := Lib.hid hr
      clear hc hr
      by_cases hxn : x = n
      · have HP := Lib.hid (placeI_at HN.out (hxn ▸ HR.out))
        subst hxn
        go_wp2_with fail
        go_ret
        exact ⟨by rw [HP.out]; rfl, rfl⟩
      · have hne : (x == n) = false := by simpa using hxn
        go_wp2_with fail
        go_round
        case rel => exact ⟨k + 1, by omega, by go_num, by
          rw [List.take_add_one, HR.out]
          simp only [Option.toList_some, List.mem_append, List.mem_singleton, not_or]
          exact ⟨HN.out, fun e => hxn e.symm⟩⟩
        case measure => simp [intOf]; omega
    · obtain rfl : k = l.length := by omega
      have hno := HN.out
      rw [List.take_length] at hno
      have HP := Lib.hid (placeI_no hno)
      go_wp2_with fail
      go_ret
      exact ⟨by rw [HP.out]; rfl, rfl⟩

end Go.Proofs.Ytkioniffgmalgaa
