/-
  The ring's example: 'awake' answers true.
-/
import Derived.Test.YtokdcddmljfgnaaOps
namespace Go.Proofs.Ytokdcddmljfgnaa
open Go.RowKit Go.Shelf
set_option linter.unusedVariables false

/-- What a value that owns bytes says. -/
theorem own_form {w : World} {base : Nat} {e : TypeId} {n : Nat} {v : Value} {xs : List Int} (h : w.ownsRow base e 1 v n (bcells xs)) :
    ∃ A c, v = .slice A n c ∧ xs.length = n ∧ BytesAt w A xs (base ≤ ·) ∧ n ≤ c ∧ c ≤ maxLen := by
  have hl : xs.length = n := by have := h.1; simpa [bcells] using this
  rcases h.2 with ⟨rfl, rfl⟩ | ⟨g, cap, cur, rfl, hb, hh, hnc, hcm, _⟩
  · exact ⟨none, 0, rfl, hl, (fun h0 => absurd h0 (by omega)), Nat.le_refl _, by simp [maxLen]⟩
  · have hlt : g < w.heap.size := (Array.getElem?_eq_some_iff.1 hh).1
    refine ⟨some ⟨g, 0, none⟩, cap, rfl, hl, fun h0 => ⟨g, 0, rfl, hb, hlt, fun k hk => ?_⟩, hnc, hcm⟩
    rw [Nat.zero_add, h.cellAt k (by omega)]
    simp [bcells, List.getElem?_eq_getElem hk, List.getD_eq_getElem?_getD]

/-- A new row of bytes. -/
theorem bytes_new {w : World} {g : Nat} {xs : List Int} {ok : Nat → Prop} (h : Blk w g 5 (xs.map (Value.int .u8)).toArray) (ho : ok g) : BytesAt w (some ⟨g, 0, none⟩) xs ok := fun _ =>
  ⟨g, 0, rfl, ho, h.lt, fun k hk => by rw [h.cell]; simp [List.getElem?_eq_getElem hk, List.getD_eq_getElem?_getD]⟩

set_option maxRecDepth 100000 in
set_option maxHeartbeats 2000000 in
theorem awake01_calls (w : World) : Calls Try.prog 28 #[] w fun e w' => e = .returned (.bool true) ∧ Fr [] w w' := by
  obtain ⟨rb, hrb⟩ : ∃ rb, w.heap.size + 1 = rb := ⟨_, rfl⟩
  obtain ⟨bb, hbb⟩ : ∃ bb, w.heap.size = bb := ⟨_, rfl⟩
  have hn := new_good 4 w (by omega) (by omega)
  rw [hrb, hbb] at hn
  have HRB := Lib.hid hrb
  have HBB := Lib.hid hbb
  have hlr : w.heap.size ≤ rb ∧ w.heap.size ≤ bb := by omega
  have HLR := Lib.hid hlr
  clear hrb hbb hlr
  have by1 : Byts [1, 2, 3] := by intro i; match i with | 0 | 1 | 2 => simp | n + 3 => simp
  have by2 : Byts [4, 5, 6, 7] := by intro i; match i with | 0 | 1 | 2 | 3 => simp | n + 4 => simp
  have HY1 := Lib.hid by1
  have HY2 := Lib.hid by2
  clear by1 by2
  go_enter Try.func28, Try.ntmps28
  go_wp2_with fail
  refine hn.mono ?_
  rintro e w1 ⟨rfl, hR1, hf1, hz1⟩
  have HR1 := Lib.hid hR1
  have HF1 := Lib.hid hf1
  clear hR1 hn hz1 hf1
  go_wp2_with fail
  have hA : Fr [] w1 (w1.alloc (.cells #[.int .u8 1, .int .u8 2, .int .u8 3] 5)) := (Fr.refl [] w1).alloc _
  have hB : BytesAt (w1.alloc (.cells #[.int .u8 1, .int .u8 2, .int .u8 3] 5)) (some ⟨w1.heap.size, 0, none⟩) [1, 2, 3] (fun b => b ≠ rb ∧ b ≠ bb) := bytes_new (Blk.new w1 5 _) (by have := HR1.out.lt; omega)
  have hp : Calls Try.prog 13 #[.pointer (some ⟨rb, 0, none⟩), .slice (some ⟨w1.heap.size, 0, none⟩) 3 3] (w1.alloc (.cells #[.int .u8 1, .int .u8 2, .int .u8 3] 5)) fun e w' => e = .returned (.int .i64 3) ∧ RingS w' rb bb 4 [1, 2, 3] ∧ Fr [rb, bb] (w1.alloc (.cells #[.int .u8 1, .int .u8 2, .int .u8 3] 5)) w' :=
    put_calls rb bb 4 [] [1, 2, 3] _ 3 _ (HR1.out.fr hA (by simp) (by simp)) hB HY1.out (by simp) (by omega)
  refine hp.mono ?_
  rintro e w3 ⟨rfl, hR3, hf3⟩
  have HF3 := Lib.hid ((HF1.out.trans hA (by simp)).trans hf3 (by have := HLR.out; simp; omega))
  have HR3 := Lib.hid hR3
  clear hp hB hA hR3 hf3
  go_wp2_with fail
  have ht : Calls Try.prog 15 #[.pointer (some ⟨rb, 0, none⟩), .int .i64 2] w3 fun e w' => ∃ v, e = .returned v ∧ w'.ownsRow w3.heap.size 5 1 v 2 (bcells [1, 2]) ∧ RingS w' rb bb 4 [3] ∧ Fr [rb] w3 w' := take_calls rb bb 4 [1, 2, 3] 2 w3 HR3.out (by omega)
  refine ht.mono ?_
  rintro e w4 ⟨v, rfl, ho4, hR4, hf4⟩
  obtain ⟨A4, c4, rfl, _, hb4, hc4, hcm4⟩ := own_form ho4
  have HB4 := Lib.hid (hb4.imp (ok' := fun _ => True) (fun _ _ _ => trivial))
  have HR4 := Lib.hid hR4
  have HF4 := Lib.hid (HF3.out.trans hf4 (by have := HLR.out; simp; omega))
  clear ht ho4 hb4 hR4 hf4
  go_wp2_with fail
  have hA5 : Fr [] w4 (w4.alloc (.cells #[.int .u8 1, .int .u8 2] 5)) := (Fr.refl [] w4).alloc _
  have hs : Calls Try.prog 24 #[.slice A4 2 c4, .slice (some ⟨w4.heap.size, 0, none⟩) 2 2] (w4.alloc (.cells #[.int .u8 1, .int .u8 2] 5)) fun e w' => e = .returned (.bool true) ∧ Fr [] (w4.alloc (.cells #[.int .u8 1, .int .u8 2] 5)) w' :=
    same_calls [1, 2] [1, 2] _ _ c4 2 _ (HB4.out.fr hA5 (by simp)) (bytes_new (Blk.new w4 5 _) trivial) (by simp) (by simp)
  refine hs.mono ?_
  rintro e w6 ⟨rfl, hf6⟩
  have HR6 := Lib.hid ((HR4.out.fr hA5 (by simp) (by simp)).fr hf6 (by simp) (by simp))
  have HF6 := Lib.hid ((HF4.out.trans hA5 (by simp)).trans hf6 (by simp))
  clear hs hA5 hf6
  go_wp2_with fail
  have hA7 : Fr [] w6 (w6.alloc (.cells #[.int .u8 4, .int .u8 5, .int .u8 6, .int .u8 7] 5)) := (Fr.refl [] w6).alloc _
  have hB7 : BytesAt (w6.alloc (.cells #[.int .u8 4, .int .u8 5, .int .u8 6, .int .u8 7] 5)) (some ⟨w6.heap.size, 0, none⟩) [4, 5, 6, 7] (fun b => b ≠ rb ∧ b ≠ bb) := bytes_new (Blk.new w6 5 _) (by have := HR6.out.lt; omega)
  have hp7 : Calls Try.prog 13 #[.pointer (some ⟨rb, 0, none⟩), .slice (some ⟨w6.heap.size, 0, none⟩) 4 4] (w6.alloc (.cells #[.int .u8 4, .int .u8 5, .int .u8 6, .int .u8 7] 5)) fun e w' => e = .returned (.int .i64 3) ∧ RingS w' rb bb 4 [3, 4, 5, 6] ∧ Fr [rb, bb] (w6.alloc (.cells #[.int .u8 4, .int .u8 5, .int .u8 6, .int .u8 7] 5)) w' :=
    put_calls rb bb 4 [3] [4, 5, 6, 7] _ 4 _ (HR6.out.fr hA7 (by simp) (by simp)) hB7 HY2.out (by simp) (by omega)
  refine hp7.mono ?_
  rintro e w8 ⟨rfl, hR8, hf8⟩
  have HF8 := Lib.hid ((HF6.out.trans hA7 (by simp)).trans hf8 (by have := HLR.out; simp; omega))
  have HR8 := Lib.hid hR8
  clear hp7 hB7 hA7 hR8 hf8
  go_wp2_with fail
  refine (new_bad 0 w8 (by omega)).mono ?_
  rintro e w9 ⟨rfl, rfl⟩
  go_wp2_with fail
  have hk : Calls Try.prog 14 #[.pointer (some ⟨rb, 0, none⟩), .int .i64 9] w8 fun e w' => ∃ v, e = .returned v ∧ w'.ownsRow w8.heap.size 5 1 v 4 (bcells [3, 4, 5, 6]) ∧ Fr [] w8 w' := peek_calls rb bb 4 [3, 4, 5, 6] 9 w8 HR8.out (by omega)
  refine hk.mono ?_
  rintro e w9 ⟨v, rfl, ho9, hf9⟩
  obtain ⟨A9, c9, rfl, _, hb9, hc9, hcm9⟩ := own_form ho9
  have HB9 := Lib.hid (hb9.imp (ok' := fun _ => True) (fun _ _ _ => trivial))
  have HR9 := Lib.hid (HR8.out.fr hf9 (by simp) (by simp))
  have HF9 := Lib.hid (HF8.out.trans hf9 (by simp))
  clear hk ho9 hb9 hf9
  go_wp2_with fail
  have hA10 : Fr [] w9 (w9.alloc (.cells #[.int .u8 3, .int .u8 4, .int .u8 5, .int .u8 6] 5)) := (Fr.refl [] w9).alloc _
  have hs10 : Calls Try.prog 24 #[.slice A9 4 c9, .slice (some ⟨w9.heap.size, 0, none⟩) 4 4] (w9.alloc (.cells #[.int .u8 3, .int .u8 4, .int .u8 5, .int .u8 6] 5)) fun e w' => e = .returned (.bool true) ∧ Fr [] (w9.alloc (.cells #[.int .u8 3, .int .u8 4, .int .u8 5, .int .u8 6] 5)) w' :=
    same_calls [3, 4, 5, 6] [3, 4, 5, 6] _ _ c9 4 _ (HB9.out.fr hA10 (by simp)) (bytes_new (Blk.new w9 5 _) trivial) (by simp) (by simp)
  refine hs10.mono ?_
  rintro e w11 ⟨rfl, hf11⟩
  have HR11 := Lib.hid ((HR9.out.fr hA10 (by simp) (by simp)).fr hf11 (by simp) (by simp))
  have HF11 := Lib.hid ((HF9.out.trans hA10 (by simp)).trans hf11 (by simp))
  clear hs10 hA10 hf11
  go_wp2_with fail
  have hrm : Calls Try.prog 18 #[.pointer (some ⟨rb, 0, none⟩)] w11 fun e w' => e = .returned (.int .i64 0) ∧ w11 = w' := room_calls _ 4 4 w11 HR11.out.rd
  refine hrm.mono ?_
  rintro e w12 ⟨rfl, rfl⟩
  clear hrm
  go_wp2_with fail
  refine (skip_bad rb bb 4 [3, 4, 5, 6] 5 w11 HR11.out (.inr (by simp))).mono ?_
  rintro e w12 ⟨rfl, rfl⟩
  go_wp2_with fail
  have hlm : Calls Try.prog 17 #[.pointer (some ⟨rb, 0, none⟩)] w11 fun e w' => e = .returned (.int .i64 4) ∧ w11 = w' := len_calls _ 4 4 w11 HR11.out.rd
  refine hlm.mono ?_
  rintro e w12 ⟨rfl, rfl⟩
  clear hlm
  go_wp2_with fail
  go_ret
  exact ⟨rfl, HF11.out⟩

end Go.Proofs.Ytokdcddmljfgnaa
