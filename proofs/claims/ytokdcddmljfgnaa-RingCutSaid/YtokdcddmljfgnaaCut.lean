/-
  RingCut's walk.
-/
import Derived.Test.YtokdcddmljfgnaaTwo
namespace Go.Proofs.Ytokdcddmljfgnaa
open Go.RowKit Go.Shelf
set_option linter.unusedVariables false

theorem wrap64_id {x : Int} (h1 : -9223372036854775808 ≤ x) (h2 : x ≤ 9223372036854775807) : wrap64 x = x := by unfold wrap64; omega

set_option maxRecDepth 100000 in
set_option maxHeartbeats 2000000 in
theorem cut_calls (size ahead cut : Int) (bs : List Int) (A : Option Addr) (cb : Nat) (w : World) (hX : BytesAt w A bs (· < w.heap.size)) (hb : Byts bs) (hl : bs.length ≤ cb) (hc : cb ≤ 9223372036854775807)
    (hah : 0 ≤ ahead ∧ ahead < 65536) (hsz : -9223372036854775808 ≤ size ∧ size ≤ 9223372036854775807) (hct : -9223372036854775808 ≤ cut ∧ cut ≤ 9223372036854775807) :
    Calls Try.prog 7 #[.int .i64 size, .int .u16 ahead, .slice A bs.length cb, .int .i64 cut] w fun e w' => e = .returned (.bool true) ∧ Fr [] w w' := by
  have HX := Lib.hid hX
  have HB := Lib.hid hb
  clear hX hb
  by_cases hg : 1 ≤ size ∧ size ≤ 300 ∧ (bs.length : Int) ≤ size
  · obtain ⟨N, rfl⟩ : ∃ N : Nat, size = N := ⟨size.toNat, by omega⟩
    have hN1 : 1 ≤ N ∧ N ≤ 300 ∧ bs.length ≤ N := by omega
    have hd1 : decide ((N : Int) < 1) = false := by simp; omega
    have hd2 : decide (300 < (N : Int)) = false := by simp; omega
    have hd3 : decide ((N : Int) < bs.length) = false := by simp; omega
    go_enter Try.func7, Try.ntmps7
    go_wp2_with fail
    refine (awake01_calls w).mono ?_
    rintro e wa ⟨rfl, hfa⟩
    go_upto_region 5 with fail
    go_cut [0, 1, 2, 3, 8] from 9 (fun s0 s1 s2 s3 s8 wc => s0 = .int .i64 N ∧ s1 = .int .u16 ahead ∧ s2 = .slice A bs.length cb ∧ (∃ c : Nat, c ≤ bs.length ∧ s3 = .int .i64 c) ∧ s8 = .bool false ∧ wa = wc)
    case first =>
      have hnz : ¬ bs.length + 1 = 0 := by omega
      go_wp2_with fail
      all_goals go_meet
      all_goals refine ⟨rfl, rfl, rfl, ?_, rfl, rfl⟩
      have h0 : 0 ≤ IntKind.u64.wrap cut := by rw [IntKind.wrap_u64]; omega
      obtain ⟨q, hq⟩ : ∃ q : Nat, IntKind.u64.wrap cut = q := ⟨(IntKind.u64.wrap cut).toNat, by omega⟩
      have h1 : (IntKind.u64.wrap cut).tmod ((bs.length : Int) + 1) = ((q % (bs.length + 1) : Nat) : Int) := by rw [hq]; rfl
      have h2 := Nat.mod_lt q (show 0 < bs.length + 1 by omega)
      refine ⟨q % (bs.length + 1), by omega, ?_⟩
      rw [h1, wrap64_id (by omega) (by omega)]
    case rest =>
      obtain ⟨rfl, rfl, rfl, ⟨k, hk, rfl⟩, rfl, rfl⟩ := hcut
      obtain ⟨n, hn⟩ : ∃ n : Nat, ahead.toNat % N = n := ⟨_, rfl⟩
      have hnN : n < N := by rw [← hn]; exact Nat.mod_lt _ (by omega)
      have htm : ahead.tmod N = n := by
        obtain ⟨q, rfl⟩ : ∃ q : Nat, ahead = q := ⟨ahead.toNat, by omega⟩
        rw [← hn]; rfl
      have hnz : ¬ N = 0 := by omega
      have hnz2 : ((N : Int) == 0) = false := by simp; omega
      have hmk : ∀ wx : World, (Instr.makeSlice 22 (.int .i64 n) (.int .i64 n)).run Try.prog wx = .ok (.slice (some ⟨wx.heap.size, 0, none⟩) n n) (wx.alloc (.cells (Array.replicate n (.int .u8 0)) 5)) := fun wx => by
        obtain ⟨i0, hi, hz0, hz1, hz2⟩ := info_parts info5
        have := run_make (P := Try.prog) wx 22 5 i0 (.int .u8 0) Try.underlying22 hi hz0 .i64 .i64 n n (by omega) (by omega) (by rw [hz2]; omega) (by omega)
        simp only [Int.toNat_natCast, hz1, Nat.mul_one] at this
        rw [made_zeros] at this
        exact this
      have hza : ∀ wx : World, BytesAt (wx.alloc (.cells (Array.replicate n (.int .u8 0)) 5)) (some ⟨wx.heap.size, 0, none⟩) (List.replicate n 0) (· = wx.heap.size) := fun wx => bytes_new (by
        have hz : ((List.replicate n (0 : Int)).map (Value.int .u8)).toArray = Array.replicate n (.int .u8 0) := by simp
        rw [hz]; exact Blk.new wx 5 _) rfl
      have HZA := Lib.hid hza
      clear hza hn
      obtain ⟨b1, hb1⟩ : ∃ b1, wa.heap.size = b1 := ⟨_, rfl⟩
      obtain ⟨r1, hr1⟩ : ∃ r1, wa.heap.size + 1 = r1 := ⟨_, rfl⟩
      have hn1 := new_good N wa (by omega) (by omega)
      rw [hr1, hb1] at hn1
      have hszf := hfa.size
      have HSZ := Lib.hid hszf
      have HN1 := Lib.hid hn1
      have HB1 := Lib.hid hb1
      have HR1 := Lib.hid hr1
      clear hn1 hb1 hr1 hszf
      go_wp2_with fail
      refine HN1.out.mono ?_
      rintro e w1 ⟨rfl, hR1, hf1, hz1⟩
      obtain ⟨b2, hb2⟩ : ∃ b2, w1.heap.size = b2 := ⟨_, rfl⟩
      obtain ⟨r2, hr2⟩ : ∃ r2, w1.heap.size + 1 = r2 := ⟨_, rfl⟩
      have hn2 := new_good N w1 (by omega) (by omega)
      rw [hr2, hb2] at hn2
      have HN2 := Lib.hid hn2
      have HB2 := Lib.hid hb2
      have HR2 := Lib.hid hr2
      have HZ1 := Lib.hid hz1
      have HRR1 := Lib.hid hR1
      clear hn2 hb2 hr2 hz1 hR1
      go_wp2_with fail
      refine HN2.out.mono ?_
      rintro e w2 ⟨rfl, hR2, hf2, hz2⟩
      have hT : Two w w2 r1 b1 r2 b2 N [] [] A bs := by
        have e1 := HB1.out; have e2 := HR1.out; have e3 := HB2.out; have e4 := HR2.out; have e5 := HZ1.out; have e6 := HSZ.out
        exact ⟨by omega, by omega, HRR1.out.fr hf2 (by simp) (by simp), hR2, ((HX.out.fr hfa (by simp)).fr hf1 (by simp)).fr hf2 (by simp), (hfa.trans hf1 (by simp)).trans hf2 (by simp)⟩
      have HT := Lib.hid hT
      clear hT hR2 hf1 hf2 hz2 HRR1 hfa
      go_wp2_with fail
      have hA2 : Fr [] w2 (w2.alloc (.cells (Array.replicate n (.int .u8 0)) 5)) := (Fr.refl [] w2).alloc _
      refine (put_fit r1 b1 N n [] (List.replicate n 0) _ n _ (HT.out.fr0 hA2).one ((HZA.out w2).imp (fun b _ hb => by have := HT.out.one.lt; omega)) (byts_zeros n) (by simp) (by omega) (by omega) (by simp; omega)).mono ?_
      rintro e w3 ⟨rfl, hR3, hf3⟩
      have HT3 := Lib.hid ((HT.out.fr0 hA2).fr1 (by simp) hf3 hR3)
      clear hA2 hR3 hf3
      go_wp2_with fail
      have hA3 : Fr [] w3 (w3.alloc (.cells (Array.replicate n (.int .u8 0)) 5)) := (Fr.refl [] w3).alloc _
      refine (put_fit r2 b2 N n [] (List.replicate n 0) _ n _ (HT3.out.fr0 hA3).two ((HZA.out w3).imp (fun b _ hb => by have := HT3.out.two.lt; omega)) (byts_zeros n) (by simp) (by omega) (by omega) (by simp; omega)).mono ?_
      rintro e w4 ⟨rfl, hR4, hf4⟩
      have HT4 := Lib.hid ((HT3.out.fr0 hA3).fr2 (by simp) hf4 hR4)
      clear hA3 hR4 hf4
      go_wp2_with fail
      have hdz : ([] ++ List.replicate n (0 : Int)).drop n = [] := by simp
      have HDZ := Lib.hid hdz
      clear hdz
      refine (skip_fit r1 b1 N n _ _ HT4.out.one (by simp)).mono ?_
      rintro e w5 ⟨rfl, hR5, hf5⟩
      rw [HDZ.out] at hR5
      have HT5 := Lib.hid (HT4.out.fr1 (by simp) hf5 hR5)
      clear hR5 hf5
      go_wp2_with fail
      refine (skip_fit r2 b2 N n _ _ HT5.out.two (by simp)).mono ?_
      rintro e w6 ⟨rfl, hR6, hf6⟩
      rw [HDZ.out] at hR6
      have HT6 := Lib.hid (HT5.out.fr2 (by simp) hf6 hR6)
      clear hR6 hf6
      go_wp2_with fail
      refine (put_fit r1 b1 N bs.length [] bs A cb _ HT6.out.one HT6.out.x1 HB.out rfl hl hc (by simp; omega)).mono ?_
      rintro e w7 ⟨rfl, hR7, hf7⟩
      have HT7 := Lib.hid (HT6.out.fr1 (by simp) hf7 hR7)
      clear hR7 hf7
      have hsl1 := fun wx => slice_h A bs.length cb k (by omega) wx
      have hsl2 := fun wx => slice_l A bs.length cb k (by omega) wx
      go_wp2_with fail
      have htk0 : ((bs.drop 0).take k).length = k := by simp; omega
      refine (put_fit r2 b2 N k [] ((bs.drop 0).take k) (cutA A cb 0) cb _ HT7.out.two (cut_at HT7.out.x2 (by omega) hl) ((HB.out.drop 0).take k) htk0 (by omega) hc (by simp; omega)).mono ?_
      rintro e w8 ⟨rfl, hR8, hf8⟩
      have HT8 := Lib.hid (HT7.out.fr2 (by simp) hf8 hR8)
      clear hR8 hf8
      go_wp2_with fail
      have htk1 : ((bs.drop k).take (bs.length - k)).length = bs.length - k := by simp
      have hsub : ((bs.length - k : Nat) : Int) = (bs.length : Int) - k := by omega
      have hp9 := put_fit r2 b2 N (bs.length - k) ([] ++ (bs.drop 0).take k) ((bs.drop k).take (bs.length - k)) (cutA A cb k) (cb - k) w8 HT8.out.two (cut_at HT8.out.x2 (by omega) hl) ((HB.out.drop k).take _) htk1 (by omega) (by omega) (by simp; omega)
      have hall : [] ++ (bs.drop 0).take k ++ (bs.drop k).take (bs.length - k) = bs := by
        rw [List.nil_append, List.drop_zero, List.take_of_length_le (l := bs.drop k) (by simp), List.take_append_drop]
      rw [hall, hsub] at hp9
      refine hp9.mono ?_
      rintro e w9 ⟨rfl, hR9, hf9⟩
      have HT9 := Lib.hid (HT8.out.fr2 (by simp) hf9 hR9)
      clear hR9 hf9 hp9 hall htk0 htk1 hsub hsl1 hsl2
      go_wp2_with fail
      have ht10 := take_fit r1 b1 N bs.length ([] ++ bs) w9 HT9.out.one (by omega)
      rw [List.nil_append, Nat.min_self, List.take_length, List.drop_length] at ht10
      refine ht10.mono ?_
      rintro e w10 ⟨v1, rfl, ho1, hR10, hf10⟩
      obtain ⟨A1, c1, rfl, _, hb1, hc1, hcm1⟩ := own_form ho1
      have HX1 := Lib.hid (hb1.imp (ok' := fun b => w9.heap.size ≤ b ∧ b < w10.heap.size) (fun b hb hl => ⟨hl, hb⟩))
      have hlt9 := HT9.out.two.lt
      have HT10 := Lib.hid (HT9.out.fr1 (by simp) hf10 hR10)
      clear ht10 ho1 hb1 hR10 hf10
      go_wp2_with fail
      have ht11 := take_fit r2 b2 N k bs w10 HT10.out.two (by omega)
      rw [Nat.min_eq_left hk] at ht11
      refine ht11.mono ?_
      rintro e w11 ⟨v2, rfl, ho2, hR11, hf11⟩
      have hz11 := hf11.size
      have hlo11 := HT10.out.two.lt
      have HO2 := Lib.hid ho2
      have HT11 := Lib.hid (HT10.out.fr2 (by simp) hf11 hR11)
      have HX2 := Lib.hid (HX1.out.fr hf11 (fun b hb _ hm => by simp at hm; omega))
      clear ht11 ho2 hR11 hf11
      go_wp2_with fail
      have ht12 := take_fit r2 b2 N bs.length (bs.drop k) w11 HT11.out.two (by omega)
      have hm12 : min bs.length (bs.drop k).length = bs.length - k := by simp
      have hm13 : (bs.drop k).take (bs.length - k) = bs.drop k := List.take_of_length_le (by simp)
      have hm14 : (bs.drop k).drop (bs.length - k) = [] := List.drop_of_length_le (by simp)
      rw [hm12, hm13, hm14] at ht12
      refine ht12.mono ?_
      rintro e w12 ⟨v3, rfl, ho3, hR12, hf12⟩
      obtain ⟨A3, c3, rfl, hl3, hb3, hc3, hcm3⟩ := own_form ho3
      have hlt12 : r2 < w10.heap.size ∧ w10.heap.size ≤ w12.heap.size := ⟨hlo11.1, by have := hf12.size; omega⟩
      have HO2' := Lib.hid (hf12.ownB HO2.out (by simp; omega))
      have HT12 := Lib.hid (HT11.out.fr2 (by simp) hf12 hR12)
      have HX3 := Lib.hid (HX2.out.fr hf12 (fun b hb _ hm => by simp at hm; omega))
      have hrd := hb3.reads
      rw [hl3] at hrd
      have HRD := Lib.hid hrd
      obtain ⟨i0, hi, hz0, hz1, hz2⟩ := info_parts info5
      clear ht12 ho3 hb3 hR12 hf12 hm12 hm13 hm14 hrd hl3
      go_wp2_with (first
        | (at_builtin; refine wpList_append_any _ rfl (.tmp 117) (.tmp 121) _ rfl w10.heap.size 5 i0 _ 1 1 Try.underlying22 hi hz0 hz1 hz2 rfl (by omega) v2 k (bcells (bs.take k)) rfl HO2'.out w12.heap.size A3 (bs.length - k) c3 (bcells (bs.drop k)) rfl HRD.out (bcells_one _) (by simp only [maxLen]; omega) (by omega) (by omega) ?_; intro v4 w13 hown4 hg4 hat4))
      rw [← bcells_append, List.take_append_drop, show k + (bs.length - k) = bs.length by omega] at hown4
      obtain ⟨A4, c4, rfl, _, hb4, hc4, hcm4⟩ := own_form hown4
      have HX4 := Lib.hid (hb4.imp (ok' := fun _ => True) (fun _ _ _ => trivial))
      have hge : ∀ x ∈ v2.ownBlock.toList, w10.heap.size ≤ x := fun x hx => own_ge HO2'.out (by simpa using hx)
      have hl1 := HT10.out.one.lt
      have hfw := HT10.out.fr.size
      have HT13 := Lib.hid (HT12.out.frL (L := v2.ownBlock.toList) (fun x hx => by have := hge x hx; omega) (Fr.of_grownO hg4))
      have HX5 := Lib.hid ((HX3.out.fr (Fr.of_grownO hg4) (fun b hb _ hm => by have := hge b hm; omega)).imp (ok' := fun _ => True) (fun _ _ _ => trivial))
      clear hown4 hb4 hg4 hat4 hge
      refine (same_self bs A1 A c1 cb w13 HX5.out (HT13.out.at_.imp (fun _ _ _ => trivial)) (by omega)).mono ?_
      rintro e w14 ⟨rfl, hf14⟩
      have HT14 := Lib.hid (HT13.out.fr0 hf14)
      have HX6 := Lib.hid (HX4.out.fr hf14 (by simp))
      clear hf14
      go_wp2_with fail
      refine (same_self bs A4 A c4 cb w14 HX6.out (HT14.out.at_.imp (fun _ _ _ => trivial)) (by omega)).mono ?_
      rintro e w15 ⟨rfl, hf15⟩
      have HT15 := Lib.hid (HT14.out.fr0 hf15)
      clear hf15
      go_wp2_with fail
      have hlm1 : Calls Try.prog 17 #[.pointer (some ⟨r1, 0, none⟩)] w15 fun e w' => e = .returned (.int .i64 0) ∧ w15 = w' := len_calls _ N 0 w15 HT15.out.one.rd
      refine hlm1.mono ?_
      rintro e w16 ⟨rfl, rfl⟩
      clear hlm1
      go_wp2_with fail
      have hlm2 : Calls Try.prog 17 #[.pointer (some ⟨r2, 0, none⟩)] w15 fun e w' => e = .returned (.int .i64 0) ∧ w15 = w' := len_calls _ N 0 w15 HT15.out.two.rd
      refine hlm2.mono ?_
      rintro e w16 ⟨rfl, rfl⟩
      clear hlm2
      go_wp2_with fail
      go_ret
      exact ⟨rfl, HT15.out.fr⟩
  · rcases Int.lt_or_le size 1 with h1 | h1
    · have hd1 : decide (size < 1) = true := by simp; omega
      go_enter Try.func7, Try.ntmps7
      go_wp2_with fail
      refine (awake01_calls w).mono ?_
      rintro e wa ⟨rfl, hfa⟩
      go_wp2_with fail
      go_ret
      exact ⟨rfl, hfa⟩
    · have hd1 : decide (size < 1) = false := by simp; omega
      rcases Int.lt_or_le 300 size with h2 | h2
      · have hd2 : decide (300 < size) = true := by simp; omega
        go_enter Try.func7, Try.ntmps7
        go_wp2_with fail
        refine (awake01_calls w).mono ?_
        rintro e wa ⟨rfl, hfa⟩
        go_wp2_with fail
        go_ret
        exact ⟨rfl, hfa⟩
      · have hd2 : decide (300 < size) = false := by simp; omega
        have hd3 : decide (size < bs.length) = true := by simp; omega
        go_enter Try.func7, Try.ntmps7
        go_wp2_with fail
        refine (awake01_calls w).mono ?_
        rintro e wa ⟨rfl, hfa⟩
        go_wp2_with fail
        go_ret
        exact ⟨rfl, hfa⟩

end Go.Proofs.Ytokdcddmljfgnaa
