/-
  SipPieces' walk.
-/
import Derived.Test.YtkioniffgmalgaaAwake06
import Derived.Test.YtkioniffgmalgaaAdds
import Derived.Deep.RegionLaw
import Derived.Deep.RegionHeld3
namespace Go.Proofs.Ytkioniffgmalgaa
open Go.RowKit Sp
set_option linter.unusedVariables false

/-- A slice of 16-bit numbers reads as cs. -/
def CutsAt (w : World) (A : Option Addr) (cs : List Int) : Prop :=
  0 < cs.length → ∃ b off, A = some ⟨b, off, none⟩ ∧ b < w.heap.size ∧ ∀ i, i < cs.length → w.cell? ⟨b, off + i, none⟩ = some (.int .u16 (cs.getD i 0))
def Cuts (cs : List Int) : Prop := ∀ i, 0 ≤ cs.getD i 0 ∧ cs.getD i 0 < 65536

theorem byts_one {x : Int} (h : 0 ≤ x ∧ x < 256) : Byts [x] := by
  intro i
  cases i with
  | zero => simpa using h
  | succ i => simp

/-- A cut of a slice of bytes. -/
def cutA (A : Option Addr) (m l : Nat) : Option Addr := if m = l then A else A.map (·.add (l * 1))
theorem elem31 (w : World) : (sizeOf (Try.prog.elem 31)).run Try.prog w = .ok 1 w := by kernel_rfl
theorem und31 : Try.prog.underlying 31 = some (.slice (Try.prog.elem 31)) := by kernel_rfl
theorem slice_lh (A : Option Addr) (len cap l h : Nat) (h1 : l ≤ h) (h2 : h ≤ cap) (e : Int) (he : e = h) (wx : World) :
    (Instr.sliceAt 31 (.slice A len cap) (some (.int .i64 l)) (some (.int .i64 e)) none).run Try.prog wx = .ok (.slice (cutA A cap l) (h - l) (cap - l)) wx := by
  subst he
  rw [run_sliceAt_slice wx 31 _ _ _ _ und31, run_slice_lh wx 31 A len cap und31 .i64 .i64 l h (by omega) (by omega) (by omega), elem31]
  simp only [Result.andThen, sliced, Int.toNat_natCast]
  rfl
theorem slice_h (A : Option Addr) (len cap h : Nat) (h2 : h ≤ cap) (e : Int) (he : e = h) (wx : World) :
    (Instr.sliceAt 31 (.slice A len cap) none (some (.int .i64 e)) none).run Try.prog wx = .ok (.slice (cutA A cap 0) h cap) wx := by
  subst he
  rw [run_sliceAt_slice wx 31 _ _ _ _ und31, run_slice_h wx 31 A len cap und31 .i64 h (by omega) (by omega), elem31]
  simp only [Result.andThen, sliced, Int.toNat_natCast]
  rfl
theorem slice_l (A : Option Addr) (len cap l : Nat) (h2 : l ≤ len) (wx : World) :
    (Instr.sliceAt 31 (.slice A len cap) (some (.int .i64 l)) none none).run Try.prog wx = .ok (.slice (cutA A cap l) (len - l) (cap - l)) wx := by
  rw [run_sliceAt_slice wx 31 _ _ _ _ und31, run_slice_l wx 31 A len cap und31 .i64 l (by omega) (by omega), elem31]
  simp only [Result.andThen, sliced, Int.toNat_natCast]
  rfl
theorem getD_take' (zs : List Int) (n i : Nat) : (zs.take n).getD i 0 = if i < n then zs.getD i 0 else 0 := by
  simp only [List.getD_eq_getElem?_getD, List.getElem?_take]
  split <;> rfl
theorem cut_at {w : World} {A : Option Addr} {xs : List Int} {ok : Nat → Prop} (h : BytesAt w A xs ok) {m l n : Nat} (hl : l + n ≤ xs.length) (hm : l + n ≤ m) : BytesAt w (cutA A m l) ((xs.drop l).take n) ok := by
  intro h0
  simp at h0
  obtain ⟨b, off, rfl, hk, hb, hc⟩ := h (by omega)
  refine ⟨b, off + l, ?_, hk, hb, fun k hk' => ?_⟩
  · unfold cutA
    rw [if_neg (by omega), Nat.mul_one]
    simp only [Option.map_some]
    congr 1
    unfold Addr.add; split <;> simp_all
  · simp at hk'
    rw [getD_take', if_pos (by omega), getD_drop, Nat.add_assoc]
    exact hc _ (by omega)

set_option maxRecDepth 100000 in
set_option maxHeartbeats 4000000 in
theorem pieces_calls (k0 k1 : Int) (bs cs : List Int) (A C : Option Addr) (ca cc : Nat) (w : World) (hX : BytesAt w A bs (fun _ => True)) (hb : Byts bs) (hC : CutsAt w C cs) (hcs : Cuts cs) (hk0 : W k0) (hk1 : W k1) (hl : bs.length ≤ ca) (hl2 : ca ≤ 9223372036854775807) (hl3 : cs.length ≤ 9223372036854775807) :
    Calls Try.prog 6 #[.int .u64 k0, .int .u64 k1, .slice A bs.length ca, .slice C cs.length cc] w fun e w' => e = .returned (.bool true) ∧ Fr [] w w' := by
  by_cases hbig : bs.length ≤ 2000 ∧ cs.length ≤ 100
  · obtain ⟨hb1, hb2⟩ := hbig
    have HX := Lib.hid (hX.imp (ok' := (· < w.heap.size)) (fun b hb _ => hb))
    have HB := Lib.hid hb
    have HC := Lib.hid hC
    have HCS := Lib.hid hcs
    clear hX hb hC hcs
    go_enter Try.func6, Try.ntmps6
    go_wp2_with fail
    refine (awake06_calls _).mono ?_
    rintro e w1 ⟨rfl, hf1⟩
    go_wp2_with fail
    refine (new_calls k0 k1 _).mono ?_
    rintro e w2 ⟨h, rfl, hB2, hf2, hh⟩
    go_wp2_with fail
    refine (new_calls k0 k1 _).mono ?_
    rintro e w3 ⟨o, rfl, hB3, hf3, ho⟩
    go_wp2_with fail
    have hH3 := (hash_new hB2).fr hf3 (by simp)
    have hO3 := hash_new hB3
    have hne : h ≠ o := by have := hB2.lt; omega
    have hfw := (hf1.trans hf2 (by simp)).trans hf3 (by simp)
    have hs1 := hf1.size
    have hs2 := hf2.size
    have HNE := Lib.hid hne
    clear hB2 hB3 hne
    go_loopw [11, 12] (fun t i wr => ∃ (k at_ : Nat) (ys : List Int), k ≤ cs.length ∧ i = .int .i64 k ∧ at_ ≤ bs.length ∧ t = .int .i64 at_ ∧ ys.length = k ∧ Byts ys ∧ HashIs wr h k0 k1 (bs.take at_) ∧ HashIs wr o k0 k1 ys ∧ w.heap.size ≤ h ∧ w.heap.size ≤ o ∧ Fr [] w wr) (fun _ i _ => cs.length - (intOf i).toNat)
    case atStart => exact ⟨0, 0, [], Nat.zero_le _, rfl, Nat.zero_le _, rfl, rfl, byts_nil, by simpa using hH3, hO3, by omega, by omega, hfw⟩
    case round =>
      obtain ⟨k, at_, ys, hk, rfl, hat, rfl, hys, hyb, hH, hO, hh, ho, hfr⟩ := hrel
      have HYS := Lib.hid hys
      clear hys
      by_cases hlt : k < cs.length
      · obtain ⟨b, off, rfl, hbc, hcc⟩ := HC.out (by omega)
        have cp := (hfr.cell (p := ⟨b, off + k, none⟩) hbc (by simp)).trans (hcc k hlt)
        have hcb := HCS.out k
        generalize cs.getD k 0 = cu at *
        obtain ⟨hc0, hc1⟩ := hcb
        clear hcc
        obtain ⟨n, hn⟩ : ∃ n : Nat, cu % ((bs.length : Int) - (at_ : Int) + 1) = n := ⟨(cu % ((bs.length : Int) - (at_ : Int) + 1)).toNat, by
          have := Int.emod_nonneg cu (show ((bs.length : Int) - (at_ : Int) + 1) ≠ 0 by omega); omega⟩
        have hnl : n ≤ bs.length - at_ := by
          have := Int.emod_lt_of_pos cu (show 0 < ((bs.length : Int) - (at_ : Int) + 1) by omega); omega
        have hsl := fun wx => slice_lh A bs.length ca at_ (at_ + n) (by omega) (by omega) ((at_ : Int) + n) (by omega) wx
        rw [show at_ + n - at_ = n from by omega] at hsl
        go_wp2_with fail
        have hXr := HX.out.fr hfr (by simp)
        have hlen1 : ((bs.drop at_).take n).length = n := by simp; omega
        have hX1 := (cut_at (m := ca) (l := at_) (n := n) hXr (by omega) (by omega)).imp (ok' := fun b => b ≠ h) (fun b _ hb => by omega)
        have hadd := add_calls h k0 k1 (bs.take at_) ((bs.drop at_).take n) (cutA A ca at_) (ca - at_) wr hH hX1 (by rw [← List.take_add]; exact HB.out.take _) hk0 hk1 (by simp; omega)
        rw [hlen1, ← List.take_add] at hadd
        have HADD := Lib.hid hadd
        have HXR := Lib.hid hXr
        clear hadd hXr hX1 hlen1
        refine HADD.out.mono ?_
        rintro e w4 ⟨rfl, hH4, hf4⟩
        go_wp2_with fail
        have hO4 : HashIs (w4.alloc (.cells #[.int .u8 k] 5)) o k0 k1 ys := (hO.fr hf4 (by simpa using HNE.out.symm)).fr ((Fr.refl [] w4).alloc _) (by simp)
        have hB1 : BytesAt (w4.alloc (.cells #[.int .u8 k] 5)) (some ⟨w4.heap.size, 0, none⟩) [(k : Int)] (· ≠ o) := fun _ => ⟨w4.heap.size, 0, rfl, by have := hO.lt; have := hf4.size; omega, by simp, fun t ht => by
          have : t = 0 := by simpa using ht
          subst this
          exact (Blk.new w4 5 #[.int .u8 k]).cell 0⟩
        have hyk : Byts (ys ++ [(k : Int)]) := byts_append hyb (byts_one ⟨by omega, by omega⟩)
        refine (add_calls o k0 k1 ys [(k : Int)] (some ⟨w4.heap.size, 0, none⟩) 1 _ hO4 hB1 hyk hk0 hk1 (by rw [HYS.out]; simp; omega)).mono ?_
        rintro e w5 ⟨rfl, hO5, hf5⟩
        have hH5 := (hH4.fr ((Fr.refl [] w4).alloc (.cells #[.int .u8 k] 5)) (by simp)).fr hf5 (by simpa using HNE.out)
        have hf45 : Fr [o] w4 w5 := (((Fr.refl [] w4).alloc (.cells #[.int .u8 k] 5)).mono (L := [o]) (by simp)).trans hf5 (by simp)
        have hfw5 : Fr [] w w5 := (hfr.trans hf4 (by simpa using hh)).trans hf45 (by simpa using ho)
        have hX5 := HX.out.fr hfw5 (by simp)
        clear hB1 hO4
        have hsl2 := fun wx => slice_h A bs.length ca (at_ + n) (by omega) ((at_ : Int) + n) (by omega) wx
        have hX6 : BytesAt w5 (cutA A ca 0) (bs.take (at_ + n)) (fun _ => True) := by
          have := cut_at (m := ca) (l := 0) (n := at_ + n) hX5 (by omega) (by omega)
          rw [List.drop_zero] at this
          exact this.imp fun _ _ _ => trivial
        have hby6 := HB.out.take (at_ + n)
        have hlen6 : (bs.take (at_ + n)).length = at_ + n := by simp; omega
        have htold := fun W (hW : HashIs W h k0 k1 (bs.take (at_ + n))) => told_calls h k0 k1 (bs.take (at_ + n)) W hW hby6 hk0 hk1 (by omega)
        have hsum := fun W (hW : BytesAt W (cutA A ca 0) (bs.take (at_ + n)) (fun _ => True)) => sum_calls k0 k1 (bs.take (at_ + n)) (cutA A ca 0) ca W hW hby6 hk0 hk1 (by omega)
        rw [hlen6] at hsum
        have HTOLD := Lib.hid htold
        have HSUM := Lib.hid hsum
        have HX6 := Lib.hid hX6
        clear htold hsum hX6 hlen6 hby6 hsl hX5
        have hH5d := hH5.fr ((Fr.refl [] w5).drew) (by simp)
        have hX5d := HX6.out.fr ((Fr.refl [] w5).drew) (by simp)
        have HX5D := Lib.hid hX5d
        clear hX5d
        go_wp2_with fail
        go_region_held3 (fun _ => True) (exact trivial) (first
          | (go_at_call 14; refine (HTOLD.out _ hH5d).mono ?_; rintro e w6 ⟨rfl, hf6⟩)
          | (go_at_call 16; refine (HSUM.out _ (HX5D.out.fr hf6 (by simp))).mono ?_; rintro e w7 ⟨rfl, hf7⟩))
        have hfw7 : Fr [] w w7 := ((hfw5.drew).trans hf6 (by simp)).trans hf7 (by simp)
        have hH7 := (hH5d.fr hf6 (by simp)).fr hf7 (by simp)
        have hO7 := ((hO5.fr ((Fr.refl [] w5).drew) (by simp)).fr hf6 (by simp)).fr hf7 (by simp)
        go_wp2_with fail
        go_roundw
        case rel => exact ⟨k + 1, at_ + n, ys ++ [(k : Int)], by omega, by go_num, by omega, by go_num, by simp [HYS.out], hyk, hH7, hO7, hh, ho, hfw7⟩
        case measure => simp [intOf]; omega
      · have hXr := HX.out.fr hfr (by simp)
        have hlen1 : (bs.drop at_).length = bs.length - at_ := by simp
        have hX1 := (cut_at (m := ca) (l := at_) (n := bs.length - at_) hXr (by omega) (by omega)).imp (ok' := fun b => b ≠ h) (fun b _ hb => by omega)
        rw [List.take_of_length_le (by simp)] at hX1
        have hadd := add_calls h k0 k1 (bs.take at_) (bs.drop at_) (cutA A ca at_) (ca - at_) wr hH hX1 (by rw [List.take_append_drop]; exact HB.out) hk0 hk1 (by simp; omega)
        rw [hlen1, List.take_append_drop] at hadd
        have HADD := Lib.hid hadd
        have HXR := Lib.hid hXr
        have hsl := fun wx => slice_l A bs.length ca at_ hat wx
        clear hadd hXr hX1 hlen1
        go_wp2_with fail
        refine HADD.out.mono ?_
        rintro e w4 ⟨rfl, hH4, hf4⟩
        have hfw4 := hfr.trans hf4 (by simpa using hh)
        have hX4 := (HX.out.fr hfw4 (by simp)).imp (ok' := fun _ => True) (fun _ _ _ => trivial)
        have HX4 := Lib.hid hX4
        clear hX4 hsl
        go_wp2_with fail
        refine (told_calls h k0 k1 bs w4 hH4 HB.out hk0 hk1 (by omega)).mono ?_
        rintro e w5 ⟨rfl, hf5⟩
        go_wp2_with fail
        refine (sum_calls k0 k1 bs A ca w5 (HX4.out.fr hf5 (by simp)) HB.out hk0 hk1 (by omega)).mono ?_
        rintro e w6 ⟨rfl, hf6⟩
        have hH6 := (hH4.fr hf5 (by simp)).fr hf6 (by simp)
        go_wp2_with fail
        refine (told_calls h k0 k1 bs w6 hH6 HB.out hk0 hk1 (by omega)).mono ?_
        rintro e w7 ⟨rfl, hf7⟩
        go_wp2_with fail
        refine (told_calls h k0 k1 bs w7 (hH6.fr hf7 (by simp)) HB.out hk0 hk1 (by omega)).mono ?_
        rintro e w8 ⟨rfl, hf8⟩
        go_wp2_with fail
        go_ret
        exact ⟨rfl, (((hfw4.trans hf5 (by simp)).trans hf6 (by simp)).trans hf7 (by simp)).trans hf8 (by simp)⟩
  · clear hX hb hC hcs
    by_cases h1 : 2000 < bs.length
    · clear hbig
      go_enter Try.func6, Try.ntmps6
      go_wp2_with fail
      refine (awake06_calls _).mono ?_
      rintro e w1 ⟨rfl, hf1⟩
      go_wp2_with fail
      go_ret
      exact ⟨rfl, hf1⟩
    · have h2 : 100 < cs.length := by omega
      clear hbig
      go_enter Try.func6, Try.ntmps6
      go_wp2_with fail
      refine (awake06_calls _).mono ?_
      rintro e w1 ⟨rfl, hf1⟩
      go_wp2_with fail
      go_ret
      exact ⟨rfl, hf1⟩
end Go.Proofs.Ytkioniffgmalgaa
