/-
  The ring's operations, by what is held.
-/
import Derived.Test.YtokdcddmljfgnaaPeek
import Derived.BigRegion
namespace Go.Proofs.Ytokdcddmljfgnaa
open Go.RowKit Go.Shelf
set_option linter.unusedVariables false

/-- A ring of N bytes holds xs. -/
def RingS (w : World) (rb bb N : Nat) (xs : List Int) : Prop := Byts xs ∧ ∃ f mem, RingM w rb bb N f mem xs

theorem RingM.fr {w w' : World} {rb bb N f : Nat} {mem xs : List Int} {L : List Nat} (h : RingM w rb bb N f mem xs) (hf : Fr L w w') (h1 : rb ∉ L) (h2 : bb ∉ L) : RingM w' rb bb N f mem xs :=
  ⟨hf.blk h.1 h1, hf.blk h.2.1 h2, h.2.2⟩
theorem RingS.fr {w w' : World} {rb bb N : Nat} {xs : List Int} {L : List Nat} (h : RingS w rb bb N xs) (hf : Fr L w w') (h1 : rb ∉ L) (h2 : bb ∉ L) : RingS w' rb bb N xs := by
  obtain ⟨hb, f, mem, h⟩ := h
  exact ⟨hb, f, mem, h.fr hf h1 h2⟩
theorem RingS.rd {w : World} {rb bb N : Nat} {xs : List Int} (h : RingS w rb bb N xs) : Rd w (some ⟨rb, 0, none⟩) N xs.length := by
  obtain ⟨_, f, mem, h⟩ := h; exact h.rd
theorem RingS.lt {w : World} {rb bb N : Nat} {xs : List Int} (h : RingS w rb bb N xs) : rb < w.heap.size ∧ bb < w.heap.size ∧ rb ≠ bb ∧ 0 < N ∧ N ≤ 4096 ∧ xs.length ≤ N := by
  obtain ⟨_, f, mem, h⟩ := h; exact ⟨h.1.lt, h.2.1.lt, h.2.2.1, h.2.2.2.2.1, h.2.2.2.2.2.1, h.2.2.2.2.2.2.2.1⟩
theorem Byts.take {xs : List Int} (h : Byts xs) (k : Nat) : Byts (xs.take k) := fun i => by
  have := h i
  simp only [List.getD_eq_getElem?_getD, List.getElem?_take] at *
  split
  · exact this
  · simp
theorem Byts.drop {xs : List Int} (h : Byts xs) (k : Nat) : Byts (xs.drop k) := fun i => by
  have := h (k + i)
  simp only [List.getD_eq_getElem?_getD, List.getElem?_drop] at *
  exact this
theorem Byts.append {xs ys : List Int} (h : Byts xs) (h' : Byts ys) : Byts (xs ++ ys) := fun i => by
  simp only [List.getD_eq_getElem?_getD]
  rcases Nat.lt_or_ge i xs.length with hi | hi
  · rw [List.getElem?_append_left hi]; simpa [List.getD_eq_getElem?_getD] using h i
  · rw [List.getElem?_append_right hi]; simpa [List.getD_eq_getElem?_getD] using h' (i - xs.length)

theorem put_calls (rb bb N : Nat) (xs bs : List Int) (A : Option Addr) (c : Nat) (w : World) (hR : RingS w rb bb N xs) (hX : BytesAt w A bs (fun b => b ≠ rb ∧ b ≠ bb)) (hb : Byts bs) (hl : bs.length ≤ c) (hc : c ≤ 9223372036854775807) :
    Calls Try.prog 13 #[.pointer (some ⟨rb, 0, none⟩), .slice A bs.length c] w fun e w' => e = .returned (.int .i64 (min bs.length (N - xs.length) : Nat)) ∧
      RingS w' rb bb N (xs ++ bs.take (min bs.length (N - xs.length))) ∧ Fr [rb, bb] w w' := by
  by_cases h0 : bs.length = 0 ∨ N = xs.length
  · refine (put_none (some ⟨rb, 0, none⟩) N xs.length A bs.length c w hR.rd (by omega) (by omega)).mono ?_
    rintro e w' ⟨rfl, hf⟩
    have e0 : min bs.length (N - xs.length) = 0 := by omega
    rw [e0]
    exact ⟨rfl, by simpa using hR.fr hf (by simp) (by simp), hf.mono (by simp)⟩
  · have hlt := hR.lt
    obtain ⟨hbx, f, mem, hM⟩ := hR
    refine (put_some rb bb N f mem xs bs A c w hM hX hb hl hc (by omega) (by omega)).mono ?_
    rintro e w' ⟨rfl, ⟨mem', hM'⟩, hf⟩
    exact ⟨rfl, ⟨hbx.append (hb.take _), f, mem', hM'⟩, hf⟩

theorem peek_calls (rb bb N : Nat) (xs : List Int) (k : Int) (w : World) (hR : RingS w rb bb N xs) (hk : -9223372036854775808 ≤ k ∧ k ≤ 9223372036854775807) :
    Calls Try.prog 14 #[.pointer (some ⟨rb, 0, none⟩), .int .i64 k] w fun e w' => ∃ v, e = .returned v ∧ w'.ownsRow w.heap.size 5 1 v (min k.toNat xs.length) (bcells (xs.take (min k.toNat xs.length))) ∧ Fr [] w w' := by
  by_cases h0 : 0 < k ∧ 0 < xs.length
  · obtain ⟨hbx, f, mem, hM⟩ := hR
    exact peek_some rb bb N f mem xs k w hM hbx (by omega) h0.2
  · have e0 : min k.toNat xs.length = 0 := by omega
    rw [e0]
    have H := Lib.hid hR.rd
    have hle := hR.lt
    have hm : max 0 (min k xs.length) = 0 := by omega
    go_enter Try.func14, Try.ntmps14
    go_wp2_with fail
    refine (len_calls (some ⟨rb, 0, none⟩) N xs.length w H.out).mono ?_
    rintro e w1 ⟨rfl, rfl⟩
    rcases Int.lt_or_le 0 k with hk0 | hk0
    · have hx0 : xs.length = 0 := by omega
      have hx1 : (xs.length : Int) = 0 := by omega
      have hx2 : (xs.length : Int) < k := by omega
      have HX0 := Lib.hid hx0
      go_wp2_with fail
      all_goals (go_ret; exact ⟨_, rfl, World.ownsRow_nil _ _ _ _, Fr.refl _ _⟩)
    · have hx3 : ¬ (xs.length : Int) < k := by omega
      go_wp2_with fail
      all_goals (go_ret; exact ⟨_, rfl, World.ownsRow_nil _ _ _ _, Fr.refl _ _⟩)

set_option maxRecDepth 100000 in
set_option maxHeartbeats 2000000 in
theorem skip_some (rb bb N f : Nat) (mem xs : List Int) (k : Nat) (w : World) (hR : RingM w rb bb N f mem xs) (hk : k ≤ xs.length) :
    Calls Try.prog 16 #[.pointer (some ⟨rb, 0, none⟩), .int .i64 k] w fun e w' => e = .returned (.int .i64 0) ∧ RingM w' rb bb N ((f + k) % N) mem (xs.drop k) ∧ Fr [rb] w w' := by
  have H := Lib.hid hR.rd
  obtain ⟨hB1, hB2, hne, hml, hN0, hN1, hfN, hxl, hheld⟩ := hR
  have HH := Lib.hid hheld
  clear hheld
  have hr0 : w.cell? ⟨rb, 0, none⟩ = some (.slice (some ⟨bb, 0, none⟩) N N) := hB1.cell 0
  have hr1 : w.cell? ⟨rb, 1, none⟩ = some (.int .i64 f) := hB1.cell 1
  have hr2 : w.cell? ⟨rb, 2, none⟩ = some (.int .i64 xs.length) := hB1.cell 2
  have hz1 := hB1.frozen 1
  have hz2 := hB1.frozen 2
  have hN2 : ((N : Int) == 0) = false := by simp; omega
  have hN3 : ¬ N = 0 := by omega
  have hk1 : ¬ (k : Int) < 0 := by omega
  have hk2 : ¬ (xs.length : Int) < k := by omega
  go_enter Try.func16, Try.ntmps16
  go_wp2_with fail
  refine (size_calls (some ⟨rb, 0, none⟩) N xs.length w H.out).mono ?_
  rintro e w1 ⟨rfl, rfl⟩
  have hw1 : IntKind.i64.wrap ((f : Int) + k) = ((f + k : Nat) : Int) := by rw [IntWalk.i64_in _ (by omega)]; omega
  have hw2 : IntKind.i64.wrap ((xs.length : Int) - k) = ((xs.length - k : Nat) : Int) := by rw [IntWalk.i64_in _ (by omega)]; omega
  have hm1 : ((f + k : Nat) : Int).tmod N = ((f + k) % N : Nat) := rfl
  have hm2 : ((f : Int) + k).tmod N = ((f + k) % N : Nat) := by rw [← Int.natCast_add]; rfl
  go_wp2_with fail
  go_region
  have hmd : ((f : Int) + k) % N = ((f + k) % N : Nat) := by rw [← Int.natCast_add]; rfl
  have hRM : RingM ((w.setCell ⟨rb, 1, none⟩ (.int .i64 (((f : Int) + k) % N))).setCell ⟨rb, 2, none⟩ (.int .i64 (xs.length - k : Nat))).drew rb bb N ((f + k) % N) mem (xs.drop k) := by
    refine ⟨?_, ((hB2.far (p := ⟨rb, 1, none⟩) (Ne.symm hne) _).far (p := ⟨rb, 2, none⟩) (Ne.symm hne) _), hne, hml, hN0, hN1, Nat.mod_lt _ hN0, by simp; omega, fun j hj => ?_⟩
    · rw [hmd, List.length_drop]
      exact (hB1.set_ 1 _).set_ 2 _
    · simp at hj
      have := HH.out (k + j) (by omega)
      rw [Nat.mod_add_mod, Nat.add_assoc, this]
      simp [List.getD_eq_getElem?_getD]
  have hF : Fr [rb] w ((w.setCell ⟨rb, 1, none⟩ (.int .i64 (((f : Int) + k) % N))).setCell ⟨rb, 2, none⟩ (.int .i64 (xs.length - k : Nat))).drew :=
    ((((Fr.refl [rb] w).setCell (p := ⟨rb, 1, none⟩) (.inl (by simp)) _).setCell (p := ⟨rb, 2, none⟩) (.inl (by simp)) _)).drew
  have HRM := Lib.hid hRM
  have HF := Lib.hid hF
  clear hRM hF hm1 hm2 hw1 hw2 hmd
  go_wp2_with fail
  go_ret
  exact ⟨rfl, HRM.out, HF.out⟩

theorem skip_bad (rb bb N : Nat) (xs : List Int) (k : Int) (w : World) (hR : RingS w rb bb N xs) (hk : k < 0 ∨ (xs.length : Int) < k) :
    Calls Try.prog 16 #[.pointer (some ⟨rb, 0, none⟩), .int .i64 k] w fun e w' => e = .returned (.int .i64 2) ∧ w = w' := by
  have H := Lib.hid hR.rd
  obtain ⟨_, _, _, hN, hN1, hxl⟩ := hR.lt
  obtain ⟨_, f, mem, hB1, _⟩ := hR
  have hr2 : w.cell? ⟨rb, 2, none⟩ = some (.int .i64 xs.length) := hB1.cell 2
  have hN2 : ((N : Int) == 0) = false := by simp; omega
  rcases Int.lt_or_le k 0 with h | h
  · have hd : decide (k < 0) = true := by simp [h]
    go_enter Try.func16, Try.ntmps16
    go_wp2_with fail
    refine (size_calls (some ⟨rb, 0, none⟩) N xs.length w H.out).mono ?_
    rintro e w1 ⟨rfl, rfl⟩
    go_wp2_with fail
    go_ret
    exact ⟨rfl, rfl⟩
  · have hd : decide (k < 0) = false := by simp; omega
    have hd2 : (xs.length : Int) < k := by omega
    have hd3 : decide ((xs.length : Int) < k) = true := by simp [hd2]
    go_enter Try.func16, Try.ntmps16
    go_wp2_with fail
    refine (size_calls (some ⟨rb, 0, none⟩) N xs.length w H.out).mono ?_
    rintro e w1 ⟨rfl, rfl⟩
    go_wp2_with fail
    go_ret
    exact ⟨rfl, rfl⟩

/-- What Skip answers, and what is left. -/
def skipR (xs : List Int) (k : Int) : Int := if k < 0 ∨ (xs.length : Int) < k then 2 else 0
def skipL (xs : List Int) (k : Int) : List Int := if k < 0 ∨ (xs.length : Int) < k then xs else xs.drop k.toNat

theorem skip_calls (rb bb N : Nat) (xs : List Int) (k : Int) (w : World) (hR : RingS w rb bb N xs) :
    Calls Try.prog 16 #[.pointer (some ⟨rb, 0, none⟩), .int .i64 k] w fun e w' => e = .returned (.int .i64 (skipR xs k)) ∧ RingS w' rb bb N (skipL xs k) ∧ Fr [rb] w w' := by
  by_cases h : k < 0 ∨ (xs.length : Int) < k
  · refine (skip_bad rb bb N xs k w hR h).mono ?_
    rintro e w' ⟨rfl, rfl⟩
    simp only [skipR, skipL, if_pos h]
    exact ⟨trivial, hR, Fr.refl _ _⟩
  · obtain ⟨hb, f, mem, hM⟩ := hR
    have hk : ((k.toNat : Nat) : Int) = k := by omega
    have := skip_some rb bb N f mem xs k.toNat w hM (by omega)
    rw [hk] at this
    refine this.mono ?_
    rintro e w' ⟨rfl, hM', hf⟩
    simp only [skipR, skipL, if_neg h]
    exact ⟨trivial, ⟨hb.drop _, _, _, hM'⟩, hf⟩

theorem own_slice {w : World} {base : Nat} {e : TypeId} {n : Nat} {v : Value} {xs : List Value} (h : w.ownsRow base e 1 v n xs) : ∃ A c, v = .slice A n c := by
  rcases h.2 with ⟨rfl, rfl⟩ | ⟨g, cap, cur, rfl, _⟩
  · exact ⟨_, _, rfl⟩
  · exact ⟨_, _, rfl⟩

theorem Fr.ownB {L : List Nat} {w w' : World} {base : Nat} {e : TypeId} {n : Nat} {v : Value} {xs : List Value} (hf : Fr L w w') (h : w.ownsRow base e 1 v n xs) (hL : ∀ b ∈ L, b < base) : w'.ownsRow base e 1 v n xs := by
  obtain ⟨h1, h2⟩ := h
  rcases h2 with h | ⟨g, cap, cur, hv, hb, hh, hr⟩
  · exact ⟨h1, .inl h⟩
  · exact ⟨h1, .inr ⟨g, cap, cur, hv, hb, (hf.block g (Array.getElem?_eq_some_iff.1 hh).1 (fun hm => by have := hL g hm; omega)).trans hh, hr⟩⟩

theorem take_calls (rb bb N : Nat) (xs : List Int) (k : Int) (w : World) (hR : RingS w rb bb N xs) (hk : -9223372036854775808 ≤ k ∧ k ≤ 9223372036854775807) :
    Calls Try.prog 15 #[.pointer (some ⟨rb, 0, none⟩), .int .i64 k] w fun e w' => ∃ v, e = .returned v ∧ w'.ownsRow w.heap.size 5 1 v (min k.toNat xs.length) (bcells (xs.take (min k.toNat xs.length))) ∧ RingS w' rb bb N (xs.drop (min k.toNat xs.length)) ∧ Fr [rb] w w' := by
  have hlt := hR.lt
  have HR := Lib.hid hR
  clear hR
  obtain ⟨j, hj⟩ : ∃ j, min k.toNat xs.length = j := ⟨_, rfl⟩
  rw [hj]
  go_enter Try.func15, Try.ntmps15
  go_wp2_with fail
  refine (peek_calls rb bb N xs k w HR.out hk).mono ?_
  rintro e w1 ⟨v, rfl, hown, hf1⟩
  rw [hj] at hown
  obtain ⟨A, c, rfl⟩ := own_slice hown
  have HO := Lib.hid hown
  clear hown
  go_wp2_with fail
  have hsk := skip_calls rb bb N xs j w1 (HR.out.fr hf1 (by simp) (by simp))
  have hno : ¬ ((j : Int) < 0 ∨ (xs.length : Int) < j) := by omega
  rw [skipR, skipL, if_neg hno, if_neg hno, Int.toNat_natCast] at hsk
  refine hsk.mono ?_
  rintro e w2 ⟨rfl, hR2, hf2⟩
  have HR2 := Lib.hid hR2
  clear hR2 hsk
  go_wp2_with fail
  go_ret
  exact ⟨_, rfl, hf2.ownB HO.out (by simp; exact hlt.1), HR2.out, (hf1.mono (L := [rb]) (by simp)).trans hf2 (by simp)⟩

theorem byts_zeros (n : Nat) : Byts (List.replicate n 0) := fun i => by
  simp only [List.getD_eq_getElem?_getD, List.getElem?_replicate]
  split <;> simp

theorem new_bad (k : Int) (w : World) (h : k < 1 ∨ 4096 < k) : Calls Try.prog 20 #[.int .i64 k] w fun e w' => e = .returned (.tuple #[.pointer none, .int .i64 2]) ∧ w = w' := by
  rcases Int.lt_or_le k 1 with h1 | h1
  · go_enter Try.func20, Try.ntmps20
    have hd : decide (k < 1) = true := by simp [h1]
    go_wp2_with fail
    refine bodyPost_ret (v := .tuple #[.pointer none, .int .i64 2]) (by simp [results, Try.results20, go_sem]) rfl ?_
    exact ⟨rfl, rfl⟩
  · have h2 : 4096 < k := by omega
    have hd : decide (k < 1) = false := by simp; omega
    have hd2 : decide (4096 < k) = true := by simp [h2]
    go_enter Try.func20, Try.ntmps20
    go_wp2_with fail
    refine bodyPost_ret (v := .tuple #[.pointer none, .int .i64 2]) (by simp [results, Try.results20, go_sem]) rfl ?_
    exact ⟨rfl, rfl⟩

theorem made_zeros (n : Nat) : (madeCells (Value.cells (.int .u8 0)) n) = Array.replicate n (.int .u8 0) := by
  apply Array.ext
  · simp [madeCells, Value.cells]
  · intro i h1 h2
    simp [madeCells, Value.cells, Nat.mod_one]

theorem new_good (n : Nat) (w : World) (h1 : 0 < n) (h2 : n ≤ 4096) :
    Calls Try.prog 20 #[.int .i64 n] w fun e w' => e = .returned (.tuple #[.pointer (some ⟨w.heap.size + 1, 0, none⟩), .int .i64 0]) ∧ RingS w' (w.heap.size + 1) w.heap.size n [] ∧ Fr [] w w' ∧ w'.heap.size = w.heap.size + 2 := by
  obtain ⟨i0, hi, hz0, hz1, hz2⟩ := info_parts info5
  have hmk := run_make (P := Try.prog) w 22 5 i0 (.int .u8 0) Try.underlying22 hi hz0 .i64 .i64 n n (by omega) (by omega) (by rw [hz2]; omega) (by omega)
  simp only [Int.toNat_natCast, hz1, Nat.mul_one] at hmk
  rw [made_zeros] at hmk
  have hd : decide ((n : Int) < 1) = false := by simp; omega
  have hd2 : decide (4096 < (n : Int)) = false := by simp; omega
  have hd3 : ¬ (n : Int) < 1 := by omega
  have hd4 : ¬ 4096 < (n : Int) := by omega
  go_enter Try.func20, Try.ntmps20
  go_wp2_with fail
  refine bodyPost_ret (v := .tuple #[.pointer (some ⟨w.heap.size + 1, 0, none⟩), .int .i64 0]) (by simp [results, Try.results20, go_sem]) rfl ?_
  refine ⟨rfl, ⟨byts_nil, 0, List.replicate n 0, ?_, ?_, by omega, by simp, h1, h2, h1, by simp, fun k hk => by simp at hk⟩, ((Fr.refl [] w).alloc _).alloc _, by simp⟩
  · have := Blk.new (w.alloc (.cells (Array.replicate n (Value.int .u8 0)) 5)) 29 #[.slice (some ⟨w.heap.size, 0, none⟩) n n, .int .i64 0, .int .i64 0]
    rw [World.size_alloc] at this
    exact this
  · have hz : ((List.replicate n (0 : Int)).map (Value.int .u8)).toArray = Array.replicate n (.int .u8 0) := by simp
    rw [hz]
    exact (Blk.new w 5 _).alloc _

/-- Bytes are the same. -/
theorem same_calls (xs ys : List Int) (A B : Option Addr) (c d : Nat) (w : World) (hX : BytesAt w A xs (fun _ => True)) (hY : BytesAt w B ys (fun _ => True)) (hl : xs.length ≤ 9223372036854775807) (hl2 : ys.length ≤ 9223372036854775807) :
    Calls Try.prog 24 #[.slice A xs.length c, .slice B ys.length d] w fun e w' => e = .returned (.bool (decide (xs = ys))) ∧ Fr [] w w' := by
  by_cases hlen : xs.length = ys.length
  · have HX := Lib.hid hX
    have HY := Lib.hid hY
    clear hX hY
    rw [← hlen]
    go_enter Try.func24, Try.ntmps24
    go_wp2_with fail
    go_loopw [5] (fun i wr => ∃ k : Nat, k ≤ xs.length ∧ i = .int .i64 k ∧ xs.take k = ys.take k ∧ Fr [] w wr) (fun i _ => xs.length - (intOf i).toNat)
    case atStart => exact ⟨0, by omega, rfl, rfl, Fr.refl _ _⟩
    case round =>
      obtain ⟨k, hk, rfl, htk, hfr⟩ := hrel
      have HT := Lib.hid htk
      clear htk
      by_cases hlt : k < xs.length
      · obtain ⟨b1, o1, rfl, _, hb1, hc1⟩ := (HX.out.fr hfr (by simp)) (by omega)
        obtain ⟨b2, o2, rfl, _, hb2, hc2⟩ := (HY.out.fr hfr (by simp)) (by omega)
        have hx := hc1 k hlt
        have hy := hc2 k (by omega)
        clear hc1 hc2
        obtain ⟨x, hxe⟩ : ∃ x, xs.getD k 0 = x := ⟨_, rfl⟩
        obtain ⟨y, hye⟩ : ∃ y, ys.getD k 0 = y := ⟨_, rfl⟩
        rw [hxe] at hx
        rw [hye] at hy
        have hgx : xs[k]? = some x := by rw [← hxe, List.getD_eq_getElem?_getD, List.getElem?_eq_getElem hlt]; rfl
        have hgy : ys[k]? = some y := by rw [← hye, List.getD_eq_getElem?_getD, List.getElem?_eq_getElem (by omega)]; rfl
        have HG := Lib.hid (And.intro hgx hgy)
        clear hgx hgy hxe hye
        by_cases hxy : x = y
        · subst hxy
          go_wp2_with fail
          go_quiet (fail)
          go_wp2_with fail
          go_roundw
          case rel => exact ⟨k + 1, by omega, by go_num, by rw [List.take_add_one, List.take_add_one, HT.out, HG.out.1, HG.out.2], hfr.drewN _⟩
          case measure => simp [intOf]; omega
        · have hne : (x == y) = false := by simpa using hxy
          go_wp2_with fail
          go_quiet (fail)
          go_wp2_with fail
          go_ret
          have : decide (xs = ys) = false := by
            simp only [decide_eq_false_iff_not]
            rintro rfl
            exact hxy (by have := HG.out.1.symm.trans HG.out.2; simpa using this)
          exact ⟨by rw [this]; rfl, hfr.drewN _⟩
      · obtain rfl : k = xs.length := by omega
        go_wp2_with fail
        go_ret
        have := HT.out
        rw [List.take_length, hlen, List.take_length] at this
        exact ⟨by simp [this], hfr⟩
  · have hne : decide (xs = ys) = false := by simp; rintro rfl; exact hlen rfl
    have hne2 : ((xs.length : Int) == (ys.length : Int)) = false := by simp; omega
    rw [hne]
    clear hX hY
    go_enter Try.func24, Try.ntmps24
    go_wp2_with fail
    go_ret
    exact ⟨rfl, Fr.refl _ _⟩

end Go.Proofs.Ytokdcddmljfgnaa
