/-
  The reference ring: its functions by their contracts.
-/
import Derived.Test.YtokdcddmljfgnaaTwo
import Derived.Deep.RegionLaw
namespace Go.Proofs.Ytokdcddmljfgnaa
open Go.RowKit Go.Shelf
set_option linter.unusedVariables false

theorem rnew_bad (k : Int) (w : World) (h : k < 1 ∨ 4096 < k) : Calls Try.prog 21 #[.int .i64 k] w fun e w' => e = .returned (.tuple #[.pointer none, .int .i64 2]) ∧ w = w' := by
  rcases Int.lt_or_le k 1 with h1 | h1
  · go_enter Try.func21, Try.ntmps21
    have hd : decide (k < 1) = true := by simp [h1]
    go_wp2_with fail
    refine bodyPost_ret (v := .tuple #[.pointer none, .int .i64 2]) (by simp [results, Try.results21, go_sem]) rfl ?_
    exact ⟨rfl, rfl⟩
  · have h2 : 4096 < k := by omega
    have hd : decide (k < 1) = false := by simp; omega
    have hd2 : decide (4096 < k) = true := by simp [h2]
    go_enter Try.func21, Try.ntmps21
    go_wp2_with fail
    refine bodyPost_ret (v := .tuple #[.pointer none, .int .i64 2]) (by simp [results, Try.results21, go_sem]) rfl ?_
    exact ⟨rfl, rfl⟩

theorem rnew_good (n : Nat) (w : World) (h1 : 0 < n) (h2 : n ≤ 4096) :
    Calls Try.prog 21 #[.int .i64 n] w fun e w' => e = .returned (.tuple #[.pointer (some ⟨w.heap.size, 0, none⟩), .int .i64 0]) ∧ w' = w.alloc (.cells #[.int .i64 n, .slice none 0 0] 46) := by
  have hd : decide ((n : Int) < 1) = false := by simp; omega
  have hd2 : decide (4096 < (n : Int)) = false := by simp; omega
  have hd3 : ¬ (n : Int) < 1 := by omega
  have hd4 : ¬ 4096 < (n : Int) := by omega
  go_enter Try.func21, Try.ntmps21
  go_wp2_with fail
  refine bodyPost_ret (v := .tuple #[.pointer (some ⟨w.heap.size, 0, none⟩), .int .i64 0]) (by simp [results, Try.results21, go_sem]) rfl ?_
  exact ⟨rfl, rfl⟩

/-- Copy: bytes in memory of their own. -/
theorem copy_calls (n : Nat) (xs : List Int) (A : Option Addr) (c : Nat) (w : World) (hn : xs.length = n) (hX : BytesAt w A xs (fun _ => True)) (hl : xs.length ≤ 140737488355328) :
    Calls Try.prog 22 #[.slice A n c] w fun e w' => ∃ v, e = .returned v ∧ w'.ownsRow w.heap.size 5 1 v xs.length (bcells xs) ∧ Fr [] w w' := by
  subst hn
  obtain ⟨i0, hi, hz0, hz1, hz2⟩ := info_parts info5
  have HRD := Lib.hid hX.reads
  clear hX
  go_enter Try.func22, Try.ntmps22
  go_wp2_with (first
    | (at_builtin; refine wpList_append_any _ rfl (.tmp 4) (.tmp 5) _ rfl w.heap.size 5 i0 _ 1 1 Try.underlying22 hi hz0 hz1 hz2 rfl (by omega) (.slice none 0 0) 0 [] rfl (World.ownsRow_nil _ _ _ _) w.heap.size A xs.length c (bcells xs) rfl HRD.out (bcells_one _) (by simp only [maxLen]; omega) (by omega) (by omega) ?_; intro v4 w3 hown4 hg4 hat4))
  rw [Nat.zero_add, List.nil_append] at hown4
  have HO := Lib.hid hown4
  have HF := Lib.hid ((Fr.of_grownO hg4).mono (L := []) (by simp [Value.ownBlock]))
  clear hown4 hg4 hat4
  go_wp2_with fail
  go_ret
  exact ⟨_, rfl, HO.out, HF.out⟩

/-- The reference ring at block q: its size, and a slice that owns its bytes. -/
def RefR (w : World) (q base N : Nat) (xs : List Int) : Prop := ∃ v, Blk w q 46 #[.int .i64 N, v] ∧ w.ownsRow base 5 1 v xs.length (bcells xs) ∧ q < base ∧ base ≤ w.heap.size

theorem rskip_bad (q base N : Nat) (xs : List Int) (k : Int) (w : World) (hR : RefR w q base N xs) (hk : k < 0 ∨ (xs.length : Int) < k) (hxl : xs.length ≤ 4096) :
    Calls Try.prog 26 #[.pointer (some ⟨q, 0, none⟩), .int .i64 k] w fun e w' => e = .returned (.int .i64 2) ∧ w = w' := by
  obtain ⟨v, hB, ho, hne⟩ := hR
  obtain ⟨A, c, rfl⟩ := own_slice ho
  have hr2 : w.cell? ⟨q, 1, none⟩ = some (.slice A xs.length c) := hB.cell 1
  clear ho hB hne
  rcases Int.lt_or_le k 0 with h | h
  · have hd : decide (k < 0) = true := by simp [h]
    go_enter Try.func26, Try.ntmps26
    go_wp2_with fail
    go_ret
    exact ⟨rfl, rfl⟩
  · have hd : decide (k < 0) = false := by simp; omega
    have hd2 : (xs.length : Int) < k := by omega
    have hd3 : decide ((xs.length : Int) < k) = true := by simp [hd2]
    go_enter Try.func26, Try.ntmps26
    go_wp2_with fail
    go_ret
    exact ⟨rfl, rfl⟩

theorem own_mono {w : World} {b b' : Nat} {e : TypeId} {n : Nat} {v : Value} {xs : List Value} (h : w.ownsRow b e 1 v n xs) (hb : b' ≤ b) : w.ownsRow b' e 1 v n xs := by
  obtain ⟨h1, h2⟩ := h
  rcases h2 with h | ⟨g, cap, cur, hv, hbg, hr⟩
  · exact ⟨h1, .inl h⟩
  · exact ⟨h1, .inr ⟨g, cap, cur, hv, by omega, hr⟩⟩

set_option maxRecDepth 100000 in
theorem rskip_good (q base N n : Nat) (xs : List Int) (w : World) (hR : RefR w q base N xs) (hn : n ≤ xs.length) (hxl : xs.length ≤ 4096) :
    Calls Try.prog 26 #[.pointer (some ⟨q, 0, none⟩), .int .i64 n] w fun e w' => e = .returned (.int .i64 0) ∧ RefR w' q w.heap.size N (xs.drop n) ∧ Fr [q] w w' := by
  obtain ⟨v, hB, ho, hq, hbw⟩ := hR
  obtain ⟨A, c, rfl, hl, hX, hc, hcm⟩ := own_form ho
  have hr2 : w.cell? ⟨q, 1, none⟩ = some (.slice A xs.length c) := hB.cell 1
  have hd : decide ((n : Int) < 0) = false := by simp
  have hd1 : ¬ (n : Int) < 0 := by omega
  have hd2 : ¬ (xs.length : Int) < n := by omega
  have hd3 : decide ((xs.length : Int) < n) = false := by simp; omega
  have hsl := fun wx => slice_l A xs.length c n hn wx
  have hct := cut_at (m := c) (l := n) (n := xs.length - n) hX (by omega) hc
  rw [List.take_of_length_le (by simp)] at hct
  have HCT := Lib.hid (hct.imp (ok' := fun _ => True) (fun _ _ _ => trivial))
  have HB := Lib.hid hB
  clear ho hX hct hB
  go_enter Try.func26, Try.ntmps26
  go_wp2_with fail
  refine (copy_calls (xs.length - n) (xs.drop n) (cutA A c n) (c - n) w (by simp) HCT.out (by simp; omega)).mono ?_
  rintro e w2 ⟨v, rfl, ho, hf⟩
  obtain ⟨A2, c2, rfl⟩ := own_slice ho
  have hB2 := hf.blk HB.out (by simp)
  have hz1 := hB2.frozen 1
  have hr3 : w2.cell? ⟨q, 1, none⟩ = some (.slice A xs.length c) := hB2.cell 1
  have hsz := hf.size
  have ho' := ho
  have HALL := Lib.hid (And.intro (hB2.set_ 1 (.slice A2 (xs.drop n).length c2)) (And.intro (Fr.ownB (L := [q]) ((Fr.refl [q] w2).setCell (p := ⟨q, 1, none⟩) (.inl (by simp)) (.slice A2 (xs.drop n).length c2)) ho' (by simp; omega)) ((hf.mono (L := [q]) (by simp)).setCell (p := ⟨q, 1, none⟩) (.inl (by simp)) (.slice A2 (xs.drop n).length c2))))
  have hz2 : w2.heap.size = (w2.setCell ⟨q, 1, none⟩ (.slice A2 (xs.drop n).length c2)).heap.size := by simp [World.setCell]
  have HZ := Lib.hid hz2
  have hln : (xs.drop n).length = xs.length - n := by simp
  have HLN := Lib.hid hln
  clear ho ho' hf hB2 hz2 hln
  go_wp2_with fail
  go_ret
  have e1 := HALL.out
  have e2 := HZ.out
  simp only [List.length_drop] at e1 e2
  exact ⟨rfl, ⟨_, e1.1, by simpa [List.length_drop] using e1.2.1, by omega, by omega⟩, e1.2.2⟩

set_option maxRecDepth 100000 in
set_option maxHeartbeats 1000000 in
theorem rpeek_calls (q base N : Nat) (xs : List Int) (k : Int) (w : World) (hR : RefR w q base N xs) (hxl : xs.length ≤ 4096) :
    Calls Try.prog 27 #[.pointer (some ⟨q, 0, none⟩), .int .i64 k] w fun e w' => ∃ v, e = .returned v ∧ w'.ownsRow w.heap.size 5 1 v (min k.toNat xs.length) (bcells (xs.take (min k.toNat xs.length))) ∧ Fr [] w w' := by
  obtain ⟨j, hj⟩ : ∃ j, min k.toNat xs.length = j := ⟨_, rfl⟩
  rw [hj]
  obtain ⟨i0, hi, hz0, hz1, hz2⟩ := info_parts info5
  obtain ⟨v, hB, ho, hq, hbw⟩ := hR
  obtain ⟨A, c, rfl, hl, hX, hc, hcm⟩ := own_form ho
  have HX := Lib.hid hX
  have HB := Lib.hid hB
  clear ho hX hB
  go_enter Try.func27, Try.ntmps27
  go_wp2_with fail
  go_loopw [5, 6] (fun v i wr => ∃ n : Nat, n ≤ j ∧ i = .int .i64 n ∧ wr.ownsRow w.heap.size 5 1 v n (bcells (xs.take n)) ∧ Fr [] w wr) (fun _ i _ => j - (intOf i).toNat)
  case atStart => exact ⟨0, by omega, rfl, World.ownsRow_nil _ _ _ _, Fr.refl _ _⟩
  case round =>
    obtain ⟨n, hn, rfl, hown, hfr⟩ := hrel
    have hr2 : wr.cell? ⟨q, 1, none⟩ = some (.slice A xs.length c) := (hfr.blk HB.out (by simp)).cell 1
    by_cases hlt : n < j
    · obtain ⟨b, o, rfl, _, hbl, hce⟩ := (HX.out.fr hfr (by simp)) (by omega)
      have hx := hce n (by omega)
      obtain ⟨x, hxe⟩ : ∃ x, xs.getD n 0 = x := ⟨_, rfl⟩
      rw [hxe] at hx
      have hsuc : xs.take (n + 1) = xs.take n ++ [x] := by
        rw [List.take_add_one, ← hxe, List.getD_eq_getElem?_getD, List.getElem?_eq_getElem (by omega)]; rfl
      have HSU := Lib.hid hsuc
      have hd1 : decide ((n : Int) < k) = true := by simp; omega
      have hd2 : (n : Int) < xs.length := by omega
      have hd3 : (n : Int) < k := by omega
      clear hsuc hce hxe
      go_wp2_with (first
        | (at_builtin; refine wpList_append_own _ rfl _ _ 22 rfl w.heap.size 5 i0 (.int .u8 0) 1 1 Try.underlying22 hi hz0 hz1 hz2 rfl (by decide) _ _ _ rfl (hown.alloc _) ⟨wr.heap.size, 0, none⟩ 1 1 [.int .u8 x] rfl rfl (cell_one_new _ _ _) (by simp [Value.oneCell']) (by unfold maxLen; omega) (by omega) (by have := hfr.size; simp; omega) ?_; intro v' w1' hown' hgrow _))
      have hg2 : (wr.alloc (.cells #[.int .u8 x] 5)).grownBy w1' u5.ownBlock := hgrow
      have hf1 : Fr [] w w1' := (hfr.alloc (.cells #[.int .u8 x] 5)).trans (Fr.of_grownO hg2) (fun x hx => .inr (own_ge hown (by simpa using hx : u5.ownBlock = some x)))
      clear hgrow hg2
      go_wp2_with fail
      go_roundw
      case rel => exact ⟨n + 1, by omega, by go_num, by rw [HSU.out, bcells_append]; exact hown', hf1⟩
      case measure => simp [intOf]; omega
    · obtain rfl : n = j := by omega
      have HO := Lib.hid hown
      clear hown
      by_cases hnk : (n : Int) < k
      · have hd1 : decide ((n : Int) < k) = true := by simp; omega
        have hd2 : ¬ (n : Int) < xs.length := by omega
        have hd4 : decide ((n : Int) < xs.length) = false := by simp; omega
        go_wp2_with fail
        go_ret
        exact ⟨_, rfl, HO.out, hfr⟩
      · have hd1 : decide ((n : Int) < k) = false := by simp; omega
        go_wp2_with fail
        go_ret
        exact ⟨_, rfl, HO.out, hfr⟩

theorem RefR.fr {w w' : World} {q base N : Nat} {xs : List Int} {L : List Nat} (h : RefR w q base N xs) (hf : Fr L w w') (hL : ∀ x ∈ L, x < base ∧ x ≠ q) : RefR w' q base N xs := by
  obtain ⟨v, hB, ho, hq, hbw⟩ := h
  exact ⟨v, hf.blk hB (fun hm => (hL _ hm).2 rfl), hf.ownB ho (fun b hb => (hL b hb).1), hq, Nat.le_trans hbw hf.size⟩

theorem RefR.mono {w : World} {q b b' N : Nat} {xs : List Int} (h : RefR w q b N xs) (hq : q < b') (hb : b' ≤ b) : RefR w q b' N xs := by
  obtain ⟨v, hB, ho, _, hbw⟩ := h
  exact ⟨v, hB, own_mono ho hb, hq, by omega⟩

theorem rskip_calls (q base N : Nat) (xs : List Int) (k : Int) (w : World) (hR : RefR w q base N xs) (hxl : xs.length ≤ 4096) :
    Calls Try.prog 26 #[.pointer (some ⟨q, 0, none⟩), .int .i64 k] w fun e w' => e = .returned (.int .i64 (skipR xs k)) ∧ RefR w' q base N (skipL xs k) ∧ Fr [q] w w' := by
  by_cases h : k < 0 ∨ (xs.length : Int) < k
  · refine (rskip_bad q base N xs k w hR h hxl).mono ?_
    rintro e w' ⟨rfl, rfl⟩
    simp only [skipR, skipL, if_pos h]
    exact ⟨trivial, hR, Fr.refl _ _⟩
  · have hk : ((k.toNat : Nat) : Int) = k := by omega
    have := rskip_good q base N k.toNat xs w hR (by omega) hxl
    rw [hk] at this
    refine this.mono ?_
    rintro e w' ⟨rfl, hR', hf⟩
    obtain ⟨_, _, _, hq, hbw⟩ := hR
    simp only [skipR, skipL, if_neg h]
    exact ⟨trivial, hR'.mono hq hbw, hf⟩

/-- Take. -/
theorem rtake_calls (q base N : Nat) (xs : List Int) (k : Int) (w : World) (hR : RefR w q base N xs) (hxl : xs.length ≤ 4096) :
    Calls Try.prog 25 #[.pointer (some ⟨q, 0, none⟩), .int .i64 k] w fun e w' => ∃ v, e = .returned v ∧ w'.ownsRow w.heap.size 5 1 v (min k.toNat xs.length) (bcells (xs.take (min k.toNat xs.length))) ∧ RefR w' q w.heap.size N (xs.drop (min k.toNat xs.length)) ∧ Fr [q] w w' := by
  obtain ⟨j, hj⟩ : ∃ j, min k.toNat xs.length = j := ⟨_, rfl⟩
  have hq : q < w.heap.size := by obtain ⟨v, _, _, h1, h2⟩ := hR; omega
  have HR := Lib.hid hR
  have hpk := rpeek_calls q base N xs k w hR hxl
  rw [hj] at hpk ⊢
  have HPK := Lib.hid hpk
  clear hR hpk
  go_enter Try.func25, Try.ntmps25
  go_wp2_with fail
  refine HPK.out.mono ?_
  rintro e w1 ⟨v, rfl, hown, hf1⟩
  obtain ⟨A, c, rfl⟩ := own_slice hown
  have HO := Lib.hid hown
  have HR1 := Lib.hid (HR.out.fr hf1 (by simp))
  have HF1 := Lib.hid hf1
  have hz1 := hf1.size
  clear hown hf1
  go_wp2_with fail
  refine (rskip_good q base N j xs w1 HR1.out (by omega) hxl).mono ?_
  rintro e w2 ⟨rfl, hR2, hf2⟩
  have HR2 := Lib.hid hR2
  clear hR2
  go_wp2_with fail
  go_ret
  exact ⟨_, rfl, hf2.ownB HO.out (by simp; omega), HR2.out.mono hq hz1, (HF1.out.mono (L := [q]) (by simp)).trans hf2 (by simp)⟩

end Go.Proofs.Ytokdcddmljfgnaa
