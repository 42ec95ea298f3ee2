/-
  RingRoom's walk.
-/
import Derived.Test.YtokdcddmljfgnaaTwo
import Derived.Deep.RegionHeld3
namespace Go.Proofs.Ytokdcddmljfgnaa
open Go.RowKit Go.Shelf
set_option linter.unusedVariables false

theorem blk1 {w : World} {g : Nat} {t : TypeId} {x y z : Value} (h : Blk w g t #[x, y, z]) : w.cell? ⟨g, 1, none⟩ = some y := h.cell 1

theorem same_len (n : Nat) (xs : List Int) (A B : Option Addr) (c d : Nat) (w : World) (hn : xs.length = n) (hX : BytesAt w A xs (fun _ => True)) (hY : BytesAt w B xs (fun _ => True)) (hl : xs.length ≤ 9223372036854775807) :
    Calls Try.prog 24 #[.slice A n c, .slice B n d] w fun e w' => e = .returned (.bool true) ∧ Fr [] w w' := by
  subst hn
  exact same_self xs A B c d w hX hY hl

set_option maxRecDepth 100000 in
set_option maxHeartbeats 4000000 in
theorem room_law (size : Int) (l : List ActD) (bs : List Int) (A A2 : Option Addr) (cl cb : Nat) (w : World) (hX : Acts w w.heap.size A l) (hl : l.length ≤ 9223372036854775807) (hsz : -9223372036854775808 ≤ size ∧ size ≤ 9223372036854775807)
    (hX2 : BytesAt w A2 bs (· < w.heap.size)) (hb : Byts bs) (hlb : bs.length ≤ cb) (hcb : cb ≤ 9223372036854775807) :
    Calls Try.prog 6 #[.int .i64 size, .slice A l.length cl, .slice A2 bs.length cb] w fun e w' => e = .returned (.bool true) ∧ Fr [] w w' := by
  have HX := Lib.hid hX
  have HXS := Lib.hid hX2
  have HBS := Lib.hid hb
  clear hX hX2 hb
  by_cases hg : 1 ≤ size ∧ size ≤ 300
  · obtain ⟨N, rfl⟩ : ∃ N : Nat, size = N := ⟨size.toNat, by omega⟩
    have hN1 : 1 ≤ N ∧ N ≤ 300 := by omega
    have hd1 : decide ((N : Int) < 1) = false := by simp; omega
    have hd2 : decide (300 < (N : Int)) = false := by simp; omega
    go_enter Try.func6, Try.ntmps6
    go_wp2_with fail
    refine (awake01_calls w).mono ?_
    rintro e wa ⟨rfl, hfa⟩
    have hszf := hfa.size
    have HXA := Lib.hid (HX.out.fr hfa (Nat.le_refl _) (by simp))
    go_wp2_with fail
    refine (great_calls A cl l _ wa HXA.out hl).mono ?_
    rintro e wa' ⟨rfl, rfl⟩
    cases hgr : greatB l
    · by_cases hbb : 300 < bs.length
      · have hd3 : decide (300 < (bs.length : Int)) = true := by simp; omega
        go_wp2_with fail
        go_ret
        exact ⟨rfl, hfa⟩
      · have hd3 : decide (300 < (bs.length : Int)) = false := by simp; omega
        obtain ⟨b1, hb1⟩ : ∃ b1, wa.heap.size = b1 := ⟨_, rfl⟩
        obtain ⟨r1, hr1⟩ : ∃ r1, wa.heap.size + 1 = r1 := ⟨_, rfl⟩
        have hn1 := new_good N wa (by omega) (by omega)
        rw [hr1, hb1] at hn1
        have hlen : l.length ≤ 100 := by simp [greatB] at hgr; omega
        have hbl : ∀ a ∈ l, a.bs.length ≤ 300 := by
          intro a ha
          simp [greatB] at hgr
          exact hgr.2 a ha
        have HBL := Lib.hid hbl
        have HFA := Lib.hid hfa
        have HN1 := Lib.hid hn1
        have HBR := Lib.hid (And.intro hb1 (And.intro hr1 hszf))
        clear hbl hfa hn1 hb1 hr1 hgr hszf
        go_wp2_with fail
        refine HN1.out.mono ?_
        rintro e w1 ⟨rfl, hR1, hf1, hz1⟩
        obtain ⟨b2, hb2⟩ : ∃ b2, w1.heap.size = b2 := ⟨_, rfl⟩
        obtain ⟨r2, hr2⟩ : ∃ r2, w1.heap.size + 1 = r2 := ⟨_, rfl⟩
        have hn2 := new_good N w1 (by omega) (by omega)
        rw [hr2, hb2] at hn2
        have HN2 := Lib.hid hn2
        have HB2 := Lib.hid (And.intro hb2 (And.intro hr2 hz1))
        have HRR1 := Lib.hid hR1
        clear hn2 hb2 hr2 hz1 hR1
        go_wp2_with fail
        refine HN2.out.mono ?_
        rintro e w2 ⟨rfl, hR2, hf2, hz2⟩
        have hT : Two w w2 r1 b1 r2 b2 N [] [] A2 bs := by
          have e1 := HBR.out; have e2 := HB2.out
          exact ⟨by omega, by omega, HRR1.out.fr hf2 (by simp) (by simp), hR2, ((HXS.out.fr HFA.out (by simp)).fr hf1 (by simp)).fr hf2 (by simp), (HFA.out.trans hf1 (by simp)).trans hf2 (by simp)⟩
        have HT0 := Lib.hid hT
        clear hT hR2 hf1 hf2 hz2 HRR1
        go_wp2_with fail
        go_loopw [11] (fun i wr => ∃ (k : Nat) (xs : List Int), k ≤ l.length ∧ i = .int .i64 k ∧ Two w wr r1 b1 r2 b2 N xs xs A2 bs) (fun i _ => l.length - (intOf i).toNat)
        case atStart => exact ⟨0, [], by omega, rfl, HT0.out⟩
        case round =>
          obtain ⟨k, xs, hk, rfl, hTr⟩ := hrel
          have HTR := Lib.hid hTr
          have hxl := hTr.one.lt
          have hlo := hTr.lo
          clear hTr
          by_cases hlt : k < l.length
          · obtain ⟨a, ha⟩ : ∃ a, l[k]? = some a := ⟨_, List.getElem?_eq_getElem hlt⟩
            have hacts := HX.out.fr HTR.out.fr (Nat.le_refl _) (by simp)
            obtain ⟨ab, off, rfl, hab, hcell⟩ := hacts.1 (by omega)
            obtain ⟨c0, c1, c2⟩ := hcell k a ha
            have hok := hacts.2 a (List.mem_of_getElem? ha)
            have hbl := HBL.out a (List.mem_of_getElem? ha)
            have hkd := hok.2.2.1
            have hkd2 := hok.2.2.2.1
            have han := And.intro hok.2.2.2.2.1 hok.2.2.2.2.2.1
            have hac := And.intro hok.2.2.2.2.2.2.1 hok.2.2.2.2.2.2.2
            have HOK := Lib.hid hok
            clear hok hcell hacts ha
            obtain ⟨wb, hwb⟩ : ∃ wb, wr.alloc (.cells #[.int .u8 a.kind, .int .i64 a.n, .slice a.at_ a.bs.length a.cap] 24) = wb := ⟨_, rfl⟩
            have hfb : Fr [] wr wb := by rw [← hwb]; exact (Fr.refl [] wr).alloc _
            have hbk : Blk wb wr.heap.size 24 #[.int .u8 a.kind, .int .i64 a.n, .slice a.at_ a.bs.length a.cap] := by rw [← hwb]; exact Blk.new wr 24 _
            have hd0 : wb.cell? ⟨wr.heap.size, 0, none⟩ = some (.int .u8 a.kind) := hbk.cell 0
            have hd1' : wb.cell? ⟨wr.heap.size, 1, none⟩ = some (.int .i64 a.n) := hbk.cell 1
            have hd2' : wb.cell? ⟨wr.heap.size, 2, none⟩ = some (.slice a.at_ a.bs.length a.cap) := hbk.cell 2
            have HTB := Lib.hid (HTR.out.fr0 hfb)
            have HXB := Lib.hid (HOK.out.1.fr hfb (by simp))
            have hr2lt := HTR.out.two.lt
            have HBK := Lib.hid hbk
            have HWB := Lib.hid hwb
            have hbw := hfb.size
            clear hfb hbk hwb
            have hcase : a.kind % 4 = 0 ∨ a.kind % 4 = 1 ∨ a.kind % 4 = 2 ∨ a.kind % 4 = 3 := by omega
            rcases hcase with hk4 | hk4 | hk4 | hk4
            case inl =>
              go_wp2_with fail
              rw [HWB.out]
              refine (room_calls _ N xs.length wb HTB.out.two.rd).mono ?_
              rintro e wt ⟨rfl, rfl⟩
              rcases Nat.lt_or_ge a.bs.length (N - xs.length) with hc1 | hc1
              · have hc2 : (a.bs.length : Int) < (N : Int) - xs.length := by omega
                obtain ⟨n, hn⟩ : ∃ n, min a.bs.length (N - xs.length) = n := ⟨_, rfl⟩
                have hnl : n ≤ a.bs.length ∧ xs.length + n ≤ N := by omega
                have hBn : (a.bs.length : Int) = n := by omega
                go_wp2_with fail
                have hq1 : decide ((n : Int) < 0) = false := by simp
                have hpt := put_calls r1 b1 N xs a.bs a.at_ a.cap wb HTB.out.one (HXB.out.imp (fun b _ hb => by omega)) HOK.out.2.1 hac.1 hac.2
                rw [hn] at hpt
                have HPT := Lib.hid hpt
                have hsl := fun wx => slice_h a.at_ a.bs.length a.cap n (by omega) wx
                have hln : ((a.bs.drop 0).take n).length = n := by simp; omega
                have HLN := Lib.hid hln
                clear hpt hn hln
                go_wp2_with fail
                refine HPT.out.mono ?_
                rintro e w2 ⟨rfl, hR2, hf2⟩
                have HT2 := Lib.hid (HTB.out.fr1 (by simp) hf2 hR2)
                have hbk2 := hf2.blk HBK.out (by simp; omega)
                have he2 : w2.cell? ⟨wr.heap.size, 2, none⟩ = some (.slice a.at_ a.bs.length a.cap) := hbk2.cell 2
                have HX2 := Lib.hid (HXB.out.fr hf2 (fun b hb _ hm => by simp at hm; omega))
                clear hbk2 hf2 hR2
                go_wp2_with fail
                refine (put_fit r2 b2 N n xs ((a.bs.drop 0).take n) (cutA a.at_ a.cap 0) a.cap w2 HT2.out.two ((cut_at HX2.out (by omega) hac.1).imp (fun b _ hb => by omega)) ((HOK.out.2.1.drop 0).take n) HLN.out (by omega) hac.2 (by omega)).mono ?_
                rintro e w3 ⟨rfl, hR3, hf3⟩
                obtain ⟨ys, hys⟩ : ∃ ys, xs ++ a.bs.take n = ys := ⟨_, rfl⟩
                have HT3 := HT2.out.fr2 (by simp) hf3 hR3
                rw [List.drop_zero, hys] at HT3
                have HT := Lib.hid HT3
                clear hys HT3 hR3 hf3 hsl
                have hyl := HT.out.one.lt
                have hsum : IntKind.i64.wrap ((ys.length : Int) + ((N : Int) - ys.length)) = N := by rw [IntWalk.i64_in _ (by omega)]; omega
                go_wp2_with fail
                refine (len_calls _ N ys.length w3 HT.out.one.rd).mono ?_
                rintro e wt ⟨rfl, rfl⟩
                go_wp2_with fail
                refine (room_calls _ N ys.length w3 HT.out.one.rd).mono ?_
                rintro e wt ⟨rfl, rfl⟩
                go_wp2_with fail
                refine (len_calls _ N ys.length w3 HT.out.one.rd).mono ?_
                rintro e wt ⟨rfl, rfl⟩
                go_wp2_with fail
                refine (len_calls _ N ys.length w3 HT.out.two.rd).mono ?_
                rintro e wt ⟨rfl, rfl⟩
                clear hsum
                go_wp2_with fail
                have hpk := peek_calls r1 b1 N ys N w3 HT.out.one (by omega)
                rw [Int.toNat_natCast, Nat.min_eq_right hyl.2.2.2.2.2, List.take_length] at hpk
                refine hpk.mono ?_
                rintro e wp ⟨v, rfl, hop, hfp⟩
                obtain ⟨P1, d1, rfl, _, hbp, hd1p, hdm1⟩ := own_form hop
                have HP1 := Lib.hid (hbp.imp (ok' := fun _ => True) (fun _ _ _ => trivial))
                have HTP := Lib.hid (HT.out.fr0 hfp)
                have hzp := hfp.size
                clear hpk hop hbp hfp
                go_wp2_with fail
                have hpk := peek_calls r2 b2 N ys N wp HTP.out.two (by omega)
                rw [Int.toNat_natCast, Nat.min_eq_right hyl.2.2.2.2.2, List.take_length] at hpk
                refine hpk.mono ?_
                rintro e wq ⟨v, rfl, hoq, hfq⟩
                obtain ⟨P2, d2, rfl, _, hbq, hd2q, hdm2⟩ := own_form hoq
                have HP2 := Lib.hid (hbq.imp (ok' := fun _ => True) (fun _ _ _ => trivial))
                have HP1' := Lib.hid (HP1.out.fr hfq (by simp))
                have HTQ := Lib.hid (HTP.out.fr0 hfq)
                clear hpk hoq hbq hfq
                go_wp2_with fail
                refine (same_self ys P1 P2 d1 d2 wq HP1'.out HP2.out (by omega)).mono ?_
                rintro e wz ⟨rfl, hfz⟩
                have HTZ := Lib.hid (HTQ.out.fr0 hfz)
                clear hfz
                go_wp2_with fail
                go_roundw
                case rel => exact ⟨k + 1, ys, by omega, by go_num, HTZ.out⟩
                case measure => simp [intOf]; omega
              · have hc2 : ¬ (a.bs.length : Int) < (N : Int) - xs.length := by omega
                obtain ⟨n, hn⟩ : ∃ n, min a.bs.length (N - xs.length) = n := ⟨_, rfl⟩
                have hnl : n ≤ a.bs.length ∧ xs.length + n ≤ N := by omega
                have hBn : (N : Int) - xs.length = n := by omega
                go_wp2_with fail
                have hq1 : decide ((n : Int) < 0) = false := by simp
                have hpt := put_calls r1 b1 N xs a.bs a.at_ a.cap wb HTB.out.one (HXB.out.imp (fun b _ hb => by omega)) HOK.out.2.1 hac.1 hac.2
                rw [hn] at hpt
                have HPT := Lib.hid hpt
                have hsl := fun wx => slice_h a.at_ a.bs.length a.cap n (by omega) wx
                have hln : ((a.bs.drop 0).take n).length = n := by simp; omega
                have HLN := Lib.hid hln
                clear hpt hn hln
                go_wp2_with fail
                refine HPT.out.mono ?_
                rintro e w2 ⟨rfl, hR2, hf2⟩
                have HT2 := Lib.hid (HTB.out.fr1 (by simp) hf2 hR2)
                have hbk2 := hf2.blk HBK.out (by simp; omega)
                have he2 : w2.cell? ⟨wr.heap.size, 2, none⟩ = some (.slice a.at_ a.bs.length a.cap) := hbk2.cell 2
                have HX2 := Lib.hid (HXB.out.fr hf2 (fun b hb _ hm => by simp at hm; omega))
                clear hbk2 hf2 hR2
                go_wp2_with fail
                refine (put_fit r2 b2 N n xs ((a.bs.drop 0).take n) (cutA a.at_ a.cap 0) a.cap w2 HT2.out.two ((cut_at HX2.out (by omega) hac.1).imp (fun b _ hb => by omega)) ((HOK.out.2.1.drop 0).take n) HLN.out (by omega) hac.2 (by omega)).mono ?_
                rintro e w3 ⟨rfl, hR3, hf3⟩
                obtain ⟨ys, hys⟩ : ∃ ys, xs ++ a.bs.take n = ys := ⟨_, rfl⟩
                have HT3 := HT2.out.fr2 (by simp) hf3 hR3
                rw [List.drop_zero, hys] at HT3
                have HT := Lib.hid HT3
                clear hys HT3 hR3 hf3 hsl
                have hyl := HT.out.one.lt
                have hsum : IntKind.i64.wrap ((ys.length : Int) + ((N : Int) - ys.length)) = N := by rw [IntWalk.i64_in _ (by omega)]; omega
                go_wp2_with fail
                refine (len_calls _ N ys.length w3 HT.out.one.rd).mono ?_
                rintro e wt ⟨rfl, rfl⟩
                go_wp2_with fail
                refine (room_calls _ N ys.length w3 HT.out.one.rd).mono ?_
                rintro e wt ⟨rfl, rfl⟩
                go_wp2_with fail
                refine (len_calls _ N ys.length w3 HT.out.one.rd).mono ?_
                rintro e wt ⟨rfl, rfl⟩
                go_wp2_with fail
                refine (len_calls _ N ys.length w3 HT.out.two.rd).mono ?_
                rintro e wt ⟨rfl, rfl⟩
                clear hsum
                go_wp2_with fail
                have hpk := peek_calls r1 b1 N ys N w3 HT.out.one (by omega)
                rw [Int.toNat_natCast, Nat.min_eq_right hyl.2.2.2.2.2, List.take_length] at hpk
                refine hpk.mono ?_
                rintro e wp ⟨v, rfl, hop, hfp⟩
                obtain ⟨P1, d1, rfl, _, hbp, hd1p, hdm1⟩ := own_form hop
                have HP1 := Lib.hid (hbp.imp (ok' := fun _ => True) (fun _ _ _ => trivial))
                have HTP := Lib.hid (HT.out.fr0 hfp)
                have hzp := hfp.size
                clear hpk hop hbp hfp
                go_wp2_with fail
                have hpk := peek_calls r2 b2 N ys N wp HTP.out.two (by omega)
                rw [Int.toNat_natCast, Nat.min_eq_right hyl.2.2.2.2.2, List.take_length] at hpk
                refine hpk.mono ?_
                rintro e wq ⟨v, rfl, hoq, hfq⟩
                obtain ⟨P2, d2, rfl, _, hbq, hd2q, hdm2⟩ := own_form hoq
                have HP2 := Lib.hid (hbq.imp (ok' := fun _ => True) (fun _ _ _ => trivial))
                have HP1' := Lib.hid (HP1.out.fr hfq (by simp))
                have HTQ := Lib.hid (HTP.out.fr0 hfq)
                clear hpk hoq hbq hfq
                go_wp2_with fail
                refine (same_self ys P1 P2 d1 d2 wq HP1'.out HP2.out (by omega)).mono ?_
                rintro e wz ⟨rfl, hfz⟩
                have HTZ := Lib.hid (HTQ.out.fr0 hfz)
                clear hfz
                go_wp2_with fail
                go_roundw
                case rel => exact ⟨k + 1, ys, by omega, by go_num, HTZ.out⟩
                case measure => simp [intOf]; omega
            case inr.inl =>
              go_wp2_with fail
              rw [HWB.out]
              refine (room_calls _ N xs.length wb HTB.out.two.rd).mono ?_
              rintro e wt ⟨rfl, rfl⟩
              rcases Nat.lt_or_ge a.bs.length (N - xs.length) with hc1 | hc1
              · have hc2 : (a.bs.length : Int) < (N : Int) - xs.length := by omega
                obtain ⟨n, hn⟩ : ∃ n, min a.bs.length (N - xs.length) = n := ⟨_, rfl⟩
                have hnl : n ≤ a.bs.length ∧ xs.length + n ≤ N := by omega
                have hBn : (a.bs.length : Int) = n := by omega
                go_wp2_with fail
                have hq1 : decide ((n : Int) < 0) = false := by simp
                have hpt := put_calls r1 b1 N xs a.bs a.at_ a.cap wb HTB.out.one (HXB.out.imp (fun b _ hb => by omega)) HOK.out.2.1 hac.1 hac.2
                rw [hn] at hpt
                have HPT := Lib.hid hpt
                have hsl := fun wx => slice_h a.at_ a.bs.length a.cap n (by omega) wx
                have hln : ((a.bs.drop 0).take n).length = n := by simp; omega
                have HLN := Lib.hid hln
                clear hpt hn hln
                go_wp2_with fail
                refine HPT.out.mono ?_
                rintro e w2 ⟨rfl, hR2, hf2⟩
                have HT2 := Lib.hid (HTB.out.fr1 (by simp) hf2 hR2)
                have hbk2 := hf2.blk HBK.out (by simp; omega)
                have he2 : w2.cell? ⟨wr.heap.size, 2, none⟩ = some (.slice a.at_ a.bs.length a.cap) := hbk2.cell 2
                have HX2 := Lib.hid (HXB.out.fr hf2 (fun b hb _ hm => by simp at hm; omega))
                clear hbk2 hf2 hR2
                go_wp2_with fail
                refine (put_fit r2 b2 N n xs ((a.bs.drop 0).take n) (cutA a.at_ a.cap 0) a.cap w2 HT2.out.two ((cut_at HX2.out (by omega) hac.1).imp (fun b _ hb => by omega)) ((HOK.out.2.1.drop 0).take n) HLN.out (by omega) hac.2 (by omega)).mono ?_
                rintro e w3 ⟨rfl, hR3, hf3⟩
                obtain ⟨ys, hys⟩ : ∃ ys, xs ++ a.bs.take n = ys := ⟨_, rfl⟩
                have HT3 := HT2.out.fr2 (by simp) hf3 hR3
                rw [List.drop_zero, hys] at HT3
                have HT := Lib.hid HT3
                clear hys HT3 hR3 hf3 hsl
                have hyl := HT.out.one.lt
                have hsum : IntKind.i64.wrap ((ys.length : Int) + ((N : Int) - ys.length)) = N := by rw [IntWalk.i64_in _ (by omega)]; omega
                go_wp2_with fail
                refine (len_calls _ N ys.length w3 HT.out.one.rd).mono ?_
                rintro e wt ⟨rfl, rfl⟩
                go_wp2_with fail
                refine (room_calls _ N ys.length w3 HT.out.one.rd).mono ?_
                rintro e wt ⟨rfl, rfl⟩
                go_wp2_with fail
                refine (len_calls _ N ys.length w3 HT.out.one.rd).mono ?_
                rintro e wt ⟨rfl, rfl⟩
                go_wp2_with fail
                refine (len_calls _ N ys.length w3 HT.out.two.rd).mono ?_
                rintro e wt ⟨rfl, rfl⟩
                clear hsum
                go_wp2_with fail
                have hpk := peek_calls r1 b1 N ys N w3 HT.out.one (by omega)
                rw [Int.toNat_natCast, Nat.min_eq_right hyl.2.2.2.2.2, List.take_length] at hpk
                refine hpk.mono ?_
                rintro e wp ⟨v, rfl, hop, hfp⟩
                obtain ⟨P1, d1, rfl, _, hbp, hd1p, hdm1⟩ := own_form hop
                have HP1 := Lib.hid (hbp.imp (ok' := fun _ => True) (fun _ _ _ => trivial))
                have HTP := Lib.hid (HT.out.fr0 hfp)
                have hzp := hfp.size
                clear hpk hop hbp hfp
                go_wp2_with fail
                have hpk := peek_calls r2 b2 N ys N wp HTP.out.two (by omega)
                rw [Int.toNat_natCast, Nat.min_eq_right hyl.2.2.2.2.2, List.take_length] at hpk
                refine hpk.mono ?_
                rintro e wq ⟨v, rfl, hoq, hfq⟩
                obtain ⟨P2, d2, rfl, _, hbq, hd2q, hdm2⟩ := own_form hoq
                have HP2 := Lib.hid (hbq.imp (ok' := fun _ => True) (fun _ _ _ => trivial))
                have HP1' := Lib.hid (HP1.out.fr hfq (by simp))
                have HTQ := Lib.hid (HTP.out.fr0 hfq)
                clear hpk hoq hbq hfq
                go_wp2_with fail
                refine (same_self ys P1 P2 d1 d2 wq HP1'.out HP2.out (by omega)).mono ?_
                rintro e wz ⟨rfl, hfz⟩
                have HTZ := Lib.hid (HTQ.out.fr0 hfz)
                clear hfz
                go_wp2_with fail
                go_roundw
                case rel => exact ⟨k + 1, ys, by omega, by go_num, HTZ.out⟩
                case measure => simp [intOf]; omega
              · have hc2 : ¬ (a.bs.length : Int) < (N : Int) - xs.length := by omega
                obtain ⟨n, hn⟩ : ∃ n, min a.bs.length (N - xs.length) = n := ⟨_, rfl⟩
                have hnl : n ≤ a.bs.length ∧ xs.length + n ≤ N := by omega
                have hBn : (N : Int) - xs.length = n := by omega
                go_wp2_with fail
                have hq1 : decide ((n : Int) < 0) = false := by simp
                have hpt := put_calls r1 b1 N xs a.bs a.at_ a.cap wb HTB.out.one (HXB.out.imp (fun b _ hb => by omega)) HOK.out.2.1 hac.1 hac.2
                rw [hn] at hpt
                have HPT := Lib.hid hpt
                have hsl := fun wx => slice_h a.at_ a.bs.length a.cap n (by omega) wx
                have hln : ((a.bs.drop 0).take n).length = n := by simp; omega
                have HLN := Lib.hid hln
                clear hpt hn hln
                go_wp2_with fail
                refine HPT.out.mono ?_
                rintro e w2 ⟨rfl, hR2, hf2⟩
                have HT2 := Lib.hid (HTB.out.fr1 (by simp) hf2 hR2)
                have hbk2 := hf2.blk HBK.out (by simp; omega)
                have he2 : w2.cell? ⟨wr.heap.size, 2, none⟩ = some (.slice a.at_ a.bs.length a.cap) := hbk2.cell 2
                have HX2 := Lib.hid (HXB.out.fr hf2 (fun b hb _ hm => by simp at hm; omega))
                clear hbk2 hf2 hR2
                go_wp2_with fail
                refine (put_fit r2 b2 N n xs ((a.bs.drop 0).take n) (cutA a.at_ a.cap 0) a.cap w2 HT2.out.two ((cut_at HX2.out (by omega) hac.1).imp (fun b _ hb => by omega)) ((HOK.out.2.1.drop 0).take n) HLN.out (by omega) hac.2 (by omega)).mono ?_
                rintro e w3 ⟨rfl, hR3, hf3⟩
                obtain ⟨ys, hys⟩ : ∃ ys, xs ++ a.bs.take n = ys := ⟨_, rfl⟩
                have HT3 := HT2.out.fr2 (by simp) hf3 hR3
                rw [List.drop_zero, hys] at HT3
                have HT := Lib.hid HT3
                clear hys HT3 hR3 hf3 hsl
                have hyl := HT.out.one.lt
                have hsum : IntKind.i64.wrap ((ys.length : Int) + ((N : Int) - ys.length)) = N := by rw [IntWalk.i64_in _ (by omega)]; omega
                go_wp2_with fail
                refine (len_calls _ N ys.length w3 HT.out.one.rd).mono ?_
                rintro e wt ⟨rfl, rfl⟩
                go_wp2_with fail
                refine (room_calls _ N ys.length w3 HT.out.one.rd).mono ?_
                rintro e wt ⟨rfl, rfl⟩
                go_wp2_with fail
                refine (len_calls _ N ys.length w3 HT.out.one.rd).mono ?_
                rintro e wt ⟨rfl, rfl⟩
                go_wp2_with fail
                refine (len_calls _ N ys.length w3 HT.out.two.rd).mono ?_
                rintro e wt ⟨rfl, rfl⟩
                clear hsum
                go_wp2_with fail
                have hpk := peek_calls r1 b1 N ys N w3 HT.out.one (by omega)
                rw [Int.toNat_natCast, Nat.min_eq_right hyl.2.2.2.2.2, List.take_length] at hpk
                refine hpk.mono ?_
                rintro e wp ⟨v, rfl, hop, hfp⟩
                obtain ⟨P1, d1, rfl, _, hbp, hd1p, hdm1⟩ := own_form hop
                have HP1 := Lib.hid (hbp.imp (ok' := fun _ => True) (fun _ _ _ => trivial))
                have HTP := Lib.hid (HT.out.fr0 hfp)
                have hzp := hfp.size
                clear hpk hop hbp hfp
                go_wp2_with fail
                have hpk := peek_calls r2 b2 N ys N wp HTP.out.two (by omega)
                rw [Int.toNat_natCast, Nat.min_eq_right hyl.2.2.2.2.2, List.take_length] at hpk
                refine hpk.mono ?_
                rintro e wq ⟨v, rfl, hoq, hfq⟩
                obtain ⟨P2, d2, rfl, _, hbq, hd2q, hdm2⟩ := own_form hoq
                have HP2 := Lib.hid (hbq.imp (ok' := fun _ => True) (fun _ _ _ => trivial))
                have HP1' := Lib.hid (HP1.out.fr hfq (by simp))
                have HTQ := Lib.hid (HTP.out.fr0 hfq)
                clear hpk hoq hbq hfq
                go_wp2_with fail
                refine (same_self ys P1 P2 d1 d2 wq HP1'.out HP2.out (by omega)).mono ?_
                rintro e wz ⟨rfl, hfz⟩
                have HTZ := Lib.hid (HTQ.out.fr0 hfz)
                clear hfz
                go_wp2_with fail
                go_roundw
                case rel => exact ⟨k + 1, ys, by omega, by go_num, HTZ.out⟩
                case measure => simp [intOf]; omega
            case inr.inr.inl =>
              have hC1 : wb.drew.cell? ⟨wr.heap.size, 1, none⟩ = some (.int .i64 a.n) := hd1'
              have HTD := Lib.hid (HTB.out.fr0 ((Fr.refl [] wb).drew))
              have HBKD := Lib.hid (((Fr.refl [] wb).drew).blk HBK.out (by simp))
              obtain ⟨j, hj⟩ : ∃ j, min a.n.toNat xs.length = j := ⟨_, rfl⟩
              have htk1 := take_calls r1 b1 N xs a.n wb.drew HTD.out.one han
              have htk2 := fun W hW => take_calls r2 b2 N xs a.n W hW han
              rw [hj] at htk1
              rw [hj] at htk2
              have hjx : j ≤ xs.length ∧ xs.length ≤ 4096 := by omega
              have hljx : (xs.take j).length = j := by simp; omega
              have HLJ := Lib.hid hljx
              have ht1 : Calls Try.prog 15 #[.pointer (some ⟨r1, 0, none⟩), .int .i64 a.n] wb.drew fun e w' => ∃ A1 d1, e = .returned (.slice A1 j d1) ∧ BytesAt w' A1 (xs.take j) (fun b => b ≠ r2) ∧ Two w w' r1 b1 r2 b2 N (xs.drop j) xs A2 bs ∧ Blk w' wr.heap.size 24 #[.int .u8 a.kind, .int .i64 a.n, .slice a.at_ a.bs.length a.cap] := htk1.mono (by
                rintro e w' ⟨v, rfl, ho, hR, hf⟩
                obtain ⟨A1, d1, rfl, _, hb, _, _⟩ := own_form ho
                exact ⟨A1, d1, rfl, hb.imp (fun b _ hb => by have hb' : wb.heap.size ≤ b := hb; omega), HTD.out.fr1 (by simp) hf hR, hf.blk HBKD.out (by simp; omega)⟩)
              have ht2 : ∀ W zs A1, BytesAt W A1 (xs.take j) (fun b => b ≠ r2) → Two w W r1 b1 r2 b2 N zs xs A2 bs → Blk W wr.heap.size 24 #[.int .u8 a.kind, .int .i64 a.n, .slice a.at_ a.bs.length a.cap] → Calls Try.prog 15 #[.pointer (some ⟨r2, 0, none⟩), .int .i64 a.n] W fun e w' => ∃ A2' d2, e = .returned (.slice A2' j d2) ∧ BytesAt w' A1 (xs.take j) (fun _ => True) ∧ BytesAt w' A2' (xs.take j) (fun _ => True) ∧ Two w w' r1 b1 r2 b2 N zs (xs.drop j) A2 bs ∧ Blk w' wr.heap.size 24 #[.int .u8 a.kind, .int .i64 a.n, .slice a.at_ a.bs.length a.cap] := fun W zs A1 hA hT hK => (htk2 W hT.two).mono (by
                rintro e w' ⟨v, rfl, ho, hR, hf⟩
                obtain ⟨A2', d2, rfl, _, hb, _, _⟩ := own_form ho
                exact ⟨A2', d2, rfl, (hA.fr hf (fun b hb _ hm => by simp at hm; exact hb hm)).imp (fun _ _ _ => trivial), hb.imp (fun _ _ _ => trivial), hT.fr2 (by simp) hf hR, hf.blk hK (by simp; omega)⟩)
              have HTK1 := Lib.hid ht1
              have HTK2 := Lib.hid ht2
              clear htk1 htk2 hljx hj ht1 ht2
              go_wp2_with fail
              rw [HWB.out]
              go_region_held3 (fun w' => w'.cell? ⟨wr.heap.size, 1, none⟩ = some (.int .i64 a.n)) (first | exact hC1 | exact hC2 | exact hC3 | exact hC4) (first
                | (go_at_call 15; (with_reducible refine HTK1.out.mono ?_); rintro e w2 ⟨A1, g1, rfl, hV1, hT2, hK2⟩; have HV1 := Lib.hid hV1; have HT2 := Lib.hid hT2; have HK2 := Lib.hid hK2; have hC2 : w2.cell? ⟨wr.heap.size, 1, none⟩ = some (.int .i64 a.n) := blk1 hK2; clear hV1 hT2 hK2)
                | (go_at_call 15; (with_reducible refine (HTK2.out _ _ _ HV1.out HT2.out HK2.out).mono ?_); rintro e w3 ⟨A2', g2, rfl, hV3, hV2, hT3, hK3⟩; have HV3 := Lib.hid hV3; have HV2 := Lib.hid hV2; have HT3 := Lib.hid hT3; have HK3 := Lib.hid hK3; have hC3 : w3.cell? ⟨wr.heap.size, 1, none⟩ = some (.int .i64 a.n) := blk1 hK3; clear hV3 hV2 hT3 hK3)
                | (go_at_call 24; (with_reducible refine (same_len j (xs.take j) A1 A2' g1 g2 w3 HLJ.out HV3.out HV2.out (by rw [HLJ.out]; omega)).mono ?_); rintro e w4 ⟨rfl, hf4⟩; have HT4 := Lib.hid (HT3.out.fr0 hf4); have hK4 := hf4.blk HK3.out (by simp); have hC4 : w4.cell? ⟨wr.heap.size, 1, none⟩ = some (.int .i64 a.n) := blk1 hK4; clear hf4 hK4))
              obtain ⟨ys, hys⟩ : ∃ ys, xs.drop j = ys := ⟨_, rfl⟩
              have hT4 := HT4.out
              rw [hys] at hT4
              have HT := Lib.hid hT4
              clear hT4 hys
              have hyl := HT.out.one.lt
              have hsum : IntKind.i64.wrap ((ys.length : Int) + ((N : Int) - ys.length)) = N := by rw [IntWalk.i64_in _ (by omega)]; omega
              go_wp2_with fail
              refine (len_calls _ N ys.length w4 HT.out.one.rd).mono ?_
              rintro e wt ⟨rfl, rfl⟩
              go_wp2_with fail
              refine (room_calls _ N ys.length w4 HT.out.one.rd).mono ?_
              rintro e wt ⟨rfl, rfl⟩
              go_wp2_with fail
              refine (len_calls _ N ys.length w4 HT.out.one.rd).mono ?_
              rintro e wt ⟨rfl, rfl⟩
              go_wp2_with fail
              refine (len_calls _ N ys.length w4 HT.out.two.rd).mono ?_
              rintro e wt ⟨rfl, rfl⟩
              clear hsum
              go_wp2_with fail
              have hpk := peek_calls r1 b1 N ys N w4 HT.out.one (by omega)
              rw [Int.toNat_natCast, Nat.min_eq_right hyl.2.2.2.2.2, List.take_length] at hpk
              refine hpk.mono ?_
              rintro e wp ⟨v, rfl, hop, hfp⟩
              obtain ⟨P1, d1, rfl, _, hbp, hd1p, hdm1⟩ := own_form hop
              have HP1 := Lib.hid (hbp.imp (ok' := fun _ => True) (fun _ _ _ => trivial))
              have HTP := Lib.hid (HT.out.fr0 hfp)
              have hzp := hfp.size
              clear hpk hop hbp hfp
              go_wp2_with fail
              have hpk := peek_calls r2 b2 N ys N wp HTP.out.two (by omega)
              rw [Int.toNat_natCast, Nat.min_eq_right hyl.2.2.2.2.2, List.take_length] at hpk
              refine hpk.mono ?_
              rintro e wq ⟨v, rfl, hoq, hfq⟩
              obtain ⟨P2, d2, rfl, _, hbq, hd2q, hdm2⟩ := own_form hoq
              have HP2 := Lib.hid (hbq.imp (ok' := fun _ => True) (fun _ _ _ => trivial))
              have HP1' := Lib.hid (HP1.out.fr hfq (by simp))
              have HTQ := Lib.hid (HTP.out.fr0 hfq)
              clear hpk hoq hbq hfq
              go_wp2_with fail
              refine (same_self ys P1 P2 d1 d2 wq HP1'.out HP2.out (by omega)).mono ?_
              rintro e wz ⟨rfl, hfz⟩
              have HTZ := Lib.hid (HTQ.out.fr0 hfz)
              clear hfz
              go_wp2_with fail
              go_roundw
              case rel => exact ⟨k + 1, ys, by omega, by go_num, HTZ.out⟩
              case measure => simp [intOf]; omega
            case inr.inr.inr =>
              have hC1 : wb.drew.cell? ⟨wr.heap.size, 1, none⟩ = some (.int .i64 a.n) := hd1'
              have HTD := Lib.hid (HTB.out.fr0 ((Fr.refl [] wb).drew))
              have HBKD := Lib.hid (((Fr.refl [] wb).drew).blk HBK.out (by simp))
              have hsk1 := skip_calls r1 b1 N xs a.n wb.drew HTD.out.one
              have hsk2 := fun W hW => skip_calls r2 b2 N xs a.n W hW
              have hzd : wb.drew.heap.size = wb.heap.size := rfl
              obtain ⟨sr, hsr⟩ : ∃ sr, skipR xs a.n = sr := ⟨_, rfl⟩
              obtain ⟨ys, hys⟩ : ∃ ys, skipL xs a.n = ys := ⟨_, rfl⟩
              rw [hsr, hys] at hsk1
              rw [hsr, hys] at hsk2
              have HTK1 := Lib.hid hsk1
              have HTK2 := Lib.hid hsk2
              clear hsk1 hsk2 hsr hys
              go_wp2_with fail
              rw [HWB.out]
              go_region_held3 (fun w' => w'.cell? ⟨wr.heap.size, 1, none⟩ = some (.int .i64 a.n)) (first | exact hC1 | exact hC2 | exact hC3) (first
                | (go_at_call 16; (with_reducible refine HTK1.out.mono ?_); rintro e w2 ⟨rfl, hR2, hf2⟩; have HT2 := Lib.hid (HTD.out.fr1 (by simp) hf2 hR2); have HK2 := Lib.hid (hf2.blk HBKD.out (by simp; omega)); have hC2 : w2.cell? ⟨wr.heap.size, 1, none⟩ = some (.int .i64 a.n) := blk1 HK2.out; clear hR2 hf2)
                | (go_at_call 16; (with_reducible refine (HTK2.out _ HT2.out.two).mono ?_); rintro e w3 ⟨rfl, hR3, hf3⟩; have HT3 := Lib.hid (HT2.out.fr2 (by simp) hf3 hR3); have HK3 := Lib.hid (hf3.blk HK2.out (by simp; omega)); have hC3 : w3.cell? ⟨wr.heap.size, 1, none⟩ = some (.int .i64 a.n) := blk1 HK3.out; clear hR3 hf3))
              have HT := HT3
              have hyl := HT.out.one.lt
              have hsum : IntKind.i64.wrap ((ys.length : Int) + ((N : Int) - ys.length)) = N := by rw [IntWalk.i64_in _ (by omega)]; omega
              go_wp2_with fail
              refine (len_calls _ N ys.length w3 HT.out.one.rd).mono ?_
              rintro e wt ⟨rfl, rfl⟩
              go_wp2_with fail
              refine (room_calls _ N ys.length w3 HT.out.one.rd).mono ?_
              rintro e wt ⟨rfl, rfl⟩
              go_wp2_with fail
              refine (len_calls _ N ys.length w3 HT.out.one.rd).mono ?_
              rintro e wt ⟨rfl, rfl⟩
              go_wp2_with fail
              refine (len_calls _ N ys.length w3 HT.out.two.rd).mono ?_
              rintro e wt ⟨rfl, rfl⟩
              clear hsum
              go_wp2_with fail
              have hpk := peek_calls r1 b1 N ys N w3 HT.out.one (by omega)
              rw [Int.toNat_natCast, Nat.min_eq_right hyl.2.2.2.2.2, List.take_length] at hpk
              refine hpk.mono ?_
              rintro e wp ⟨v, rfl, hop, hfp⟩
              obtain ⟨P1, d1, rfl, _, hbp, hd1p, hdm1⟩ := own_form hop
              have HP1 := Lib.hid (hbp.imp (ok' := fun _ => True) (fun _ _ _ => trivial))
              have HTP := Lib.hid (HT.out.fr0 hfp)
              have hzp := hfp.size
              clear hpk hop hbp hfp
              go_wp2_with fail
              have hpk := peek_calls r2 b2 N ys N wp HTP.out.two (by omega)
              rw [Int.toNat_natCast, Nat.min_eq_right hyl.2.2.2.2.2, List.take_length] at hpk
              refine hpk.mono ?_
              rintro e wq ⟨v, rfl, hoq, hfq⟩
              obtain ⟨P2, d2, rfl, _, hbq, hd2q, hdm2⟩ := own_form hoq
              have HP2 := Lib.hid (hbq.imp (ok' := fun _ => True) (fun _ _ _ => trivial))
              have HP1' := Lib.hid (HP1.out.fr hfq (by simp))
              have HTQ := Lib.hid (HTP.out.fr0 hfq)
              clear hpk hoq hbq hfq
              go_wp2_with fail
              refine (same_self ys P1 P2 d1 d2 wq HP1'.out HP2.out (by omega)).mono ?_
              rintro e wz ⟨rfl, hfz⟩
              have HTZ := Lib.hid (HTQ.out.fr0 hfz)
              clear hfz
              go_wp2_with fail
              go_roundw
              case rel => exact ⟨k + 1, ys, by omega, by go_num, HTZ.out⟩
              case measure => simp [intOf]; omega
          · obtain rfl : k = l.length := by omega
            go_wp2_with fail
            refine (room_calls _ N xs.length wr HTR.out.one.rd).mono ?_
            rintro e wt ⟨rfl, rfl⟩
            rcases Nat.lt_or_ge bs.length (N - xs.length) with hc1 | hc1
            · have hc2 : (bs.length : Int) < (N : Int) - xs.length := by omega
              obtain ⟨n, hn⟩ : ∃ n, min bs.length (N - xs.length) = n := ⟨_, rfl⟩
              have hpt := put_calls r1 b1 N xs bs A2 cb wr HTR.out.one HTR.out.x1 HBS.out hlb hcb
              rw [hn] at hpt
              have HPT := Lib.hid hpt
              obtain ⟨ys, hys⟩ : ∃ ys, xs ++ bs.take n = ys := ⟨_, rfl⟩
              have hyl : ys.length = xs.length + n := by rw [← hys]; simp; omega
              have hq0 : ((N : Int) - ys.length == 0) = false := by simp; omega
              have hBn : (n : Int) = bs.length := by omega
              have HYS := Lib.hid hys
              clear hpt hn hys
              go_wp2_with fail
              refine HPT.out.mono ?_
              rintro e w2 ⟨rfl, hR2, hf2⟩
              rw [HYS.out] at hR2
              have HR2 := Lib.hid hR2
              have HF2 := Lib.hid (HTR.out.fr.trans hf2 (by simp; omega))
              clear hR2 hf2
              go_wp2_with fail
              refine (room_calls _ N ys.length w2 HR2.out.rd).mono ?_
              rintro e wt ⟨rfl, rfl⟩
              go_wp2_with fail
              all_goals (go_ret; exact ⟨rfl, HF2.out⟩)
            · have hc2 : ¬ (bs.length : Int) < (N : Int) - xs.length := by omega
              rcases Nat.lt_or_ge (N - xs.length) bs.length with hc3 | hc3
              · obtain ⟨n, hn⟩ : ∃ n, min bs.length (N - xs.length) = n := ⟨_, rfl⟩
                have hpt := put_calls r1 b1 N xs bs A2 cb wr HTR.out.one HTR.out.x1 HBS.out hlb hcb
                rw [hn] at hpt
                have HPT := Lib.hid hpt
                obtain ⟨ys, hys⟩ : ∃ ys, xs ++ bs.take n = ys := ⟨_, rfl⟩
                have hyl : ys.length = xs.length + n := by rw [← hys]; simp; omega
                have hq0 : ((N : Int) - ys.length == 0) = true := by simp; omega
                have hBn : (N : Int) - xs.length = n := by omega
                have hq2 : decide ((n : Int) < bs.length) = true := by simp; omega
                have hq3 : (n : Int) < bs.length := by omega
                have HYS := Lib.hid hys
                clear hpt hn hys
                go_wp2_with fail
                refine HPT.out.mono ?_
                rintro e w2 ⟨rfl, hR2, hf2⟩
                rw [HYS.out] at hR2
                have HR2 := Lib.hid hR2
                have HF2 := Lib.hid (HTR.out.fr.trans hf2 (by simp; omega))
                clear hR2 hf2
                go_wp2_with fail
                refine (room_calls _ N ys.length w2 HR2.out.rd).mono ?_
                rintro e wt ⟨rfl, rfl⟩
                go_wp2_with fail
                all_goals (go_ret; exact ⟨rfl, HF2.out⟩)
              · obtain ⟨n, hn⟩ : ∃ n, min bs.length (N - xs.length) = n := ⟨_, rfl⟩
                have hpt := put_calls r1 b1 N xs bs A2 cb wr HTR.out.one HTR.out.x1 HBS.out hlb hcb
                rw [hn] at hpt
                have HPT := Lib.hid hpt
                obtain ⟨ys, hys⟩ : ∃ ys, xs ++ bs.take n = ys := ⟨_, rfl⟩
                have hyl : ys.length = xs.length + n := by rw [← hys]; simp; omega
                have hq0 : ((N : Int) - ys.length == 0) = true := by simp; omega
                have hBn : (N : Int) - xs.length = n := by omega
                have hq2 : decide ((n : Int) < bs.length) = false := by simp; omega
                have hq3 : ¬ (n : Int) < bs.length := by omega
                have HYS := Lib.hid hys
                clear hpt hn hys
                go_wp2_with fail
                refine HPT.out.mono ?_
                rintro e w2 ⟨rfl, hR2, hf2⟩
                rw [HYS.out] at hR2
                have HR2 := Lib.hid hR2
                have HF2 := Lib.hid (HTR.out.fr.trans hf2 (by simp; omega))
                clear hR2 hf2
                go_wp2_with fail
                refine (room_calls _ N ys.length w2 HR2.out.rd).mono ?_
                rintro e wt ⟨rfl, rfl⟩
                go_wp2_with fail
                all_goals (go_ret; exact ⟨rfl, HF2.out⟩)
    · go_wp2_with fail
      go_ret
      exact ⟨rfl, hfa⟩
  · rcases Int.lt_or_le size 1 with h1 | h1
    · have hd1 : decide (size < 1) = true := by simp; omega
      go_enter Try.func6, Try.ntmps6
      go_wp2_with fail
      refine (awake01_calls w).mono ?_
      rintro e wa ⟨rfl, hfa⟩
      go_wp2_with fail
      go_ret
      exact ⟨rfl, hfa⟩
    · have hd1 : decide (size < 1) = false := by simp; omega
      have hd2 : decide (300 < size) = true := by simp; omega
      go_enter Try.func6, Try.ntmps6
      go_wp2_with fail
      refine (awake01_calls w).mono ?_
      rintro e wa ⟨rfl, hfa⟩
      go_wp2_with fail
      go_ret
      exact ⟨rfl, hfa⟩

end Go.Proofs.Ytokdcddmljfgnaa
