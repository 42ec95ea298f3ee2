/-
  RelayCame's walk.
-/
import Derived.Test.YtokdcddmljfgnaaSides
import Derived.Test.YtokdcddmljfgnaaRPlays
import Derived.Test.YtokdcddmljfgnaaTwoRows
import Derived.Test.YtokdcddmljfgnaaRegs
namespace Go.Proofs.Ytokdcddmljfgnaa
open Go.RowKit Go.Shelf
set_option linter.unusedVariables false

set_option maxRecDepth 1000000 in
set_option maxHeartbeats 40000000 in
theorem came_good (N : Nat) (l : List ActR) (A : Option Addr) (cl : Nat) (w : World) (hX : ActsR w w.heap.size A l) (hl : l.length ≤ 9223372036854775807) (hN1 : 1 ≤ N ∧ N ≤ 256) (hgr : greatRB l = false) :
    Calls Try.prog 10 #[.int .i64 N, .slice A l.length cl] w fun e w' => e = .returned (.bool true) ∧ Fr [] w w' := by
  have HX := Lib.hid hX
  have hlen : l.length ≤ 120 := by simp [greatRB] at hgr; omega
  have hbl : ∀ a ∈ l, a.bs.length ≤ 400 := by
    intro a ha
    simp [greatRB] at hgr
    exact hgr.2 a ha
  have HBL := Lib.hid hbl
  have HGR := Lib.hid hgr
  have hd1 : decide ((N : Int) < 1) = false := by simp; omega
  have hd2 : decide (256 < (N : Int)) = false := by simp; omega
  clear hX hbl hgr
  go_enter Try.func10, Try.ntmps10
  go_wp2_with fail
  refine (awake26_calls w).mono ?_
  rintro e wa ⟨rfl, hfa⟩
  have hgc := greatR_calls A cl l _ wa (HX.out.fr hfa (Nat.le_refl _) (by simp)) hl
  rw [HGR.out] at hgc
  have HGC := Lib.hid hgc
  have HFA := Lib.hid hfa
  have hwa := hfa.size
  clear hgc hfa
  go_wp2_with fail
  refine HGC.out.mono ?_
  rintro e wx ⟨rfl, rfl⟩
  have hn1 := rlnew_good N wa (by omega) (by omega)
  obtain ⟨r, hr⟩ : ∃ r, rF wa.heap.size = r := ⟨_, rfl⟩
  obtain ⟨b, hb⟩ : ∃ b, bF wa.heap.size = b := ⟨_, rfl⟩
  obtain ⟨p, hp⟩ : ∃ p, wa.heap.size = p := ⟨_, rfl⟩
  have hrl : ∀ x ∈ RL p r b, wa.heap.size ≤ x ∧ x < wa.heap.size + 5 := by
    rw [← hr, ← hb, ← hp]
    intro x hx
    simp [RL, rF, bF] at hx
    omega
  rw [hr, hb, hp] at hn1
  have HN1 := Lib.hid hn1
  have HRL0 := Lib.hid hrl
  have HP := Lib.hid hp
  clear hn1 hr hb hp hrl
  go_wp2_with fail
  refine HN1.out.mono ?_
  rintro e w1 ⟨rfl, hR1, hf1, hz1⟩
  obtain ⟨eb, heb⟩ : ∃ eb, w1.heap.size = eb := ⟨_, rfl⟩
  have hrl : ∀ x ∈ RL p r b, w.heap.size ≤ x ∧ x < eb := fun x hx => by have := HRL0.out x hx; have := HP.out; omega
  have hlo2 : w.heap.size ≤ eb := by have := HP.out; omega
  have HRL := Lib.hid hrl
  have HEB := Lib.hid heb
  have HR1 := Lib.hid hR1
  have HF1 := Lib.hid (HFA.out.trans hf1 (by simp))
  clear hR1 hf1 hz1 hrl HRL0 HP heb HN1
  go_wp2_with fail
  rw [HEB.out]
  have hW : ∃ W, (((w1.alloc (.cells #[.slice none 0 0, .slice none 0 0] 74)).alloc (.cells #[.slice none 0 0, .slice none 0 0] 74)).alloc (.cells #[.bool false, .bool false] 75)) = W := ⟨_, rfl⟩
  obtain ⟨W, hW⟩ := hW
  rw [hW]
  have hfA : Fr [] w1 W := by rw [← hW]; exact (((Fr.refl [] w1).alloc _).alloc _).alloc _
  have hz3 : W.heap.size = eb + 3 := by rw [← hW, ← HEB.out]; simp
  have hI0 : Blk W eb 74 #[.slice none 0 0, .slice none 0 0] := by rw [← hW, ← HEB.out]; exact ((Blk.new w1 74 _).alloc _).alloc _
  have hO0 : Blk W (eb + 1) 74 #[.slice none 0 0, .slice none 0 0] := by
    rw [← hW, ← HEB.out]
    have := (Blk.new (w1.alloc (.cells #[.slice none 0 0, .slice none 0 0] 74)) 74 #[.slice none 0 0, .slice none 0 0]).alloc (.cells #[.bool false, .bool false] 75)
    rw [World.size_alloc] at this
    exact this
  have hE0 : B2 W (eb + 2) 75 sta0.e := by
    rw [← hW, ← HEB.out]
    have := Blk.new ((w1.alloc (.cells #[.slice none 0 0, .slice none 0 0] 74)).alloc (.cells #[.slice none 0 0, .slice none 0 0] 74)) 75 #[.bool false, .bool false]
    rw [World.size_alloc, World.size_alloc] at this
    exact this
  obtain ⟨B, hB⟩ : ∃ B, eb + 3 = B := ⟨_, rfl⟩
  have hTI : TRows W eb B (fun _ => .slice none 0 0) (fun _ => []) := ⟨hI0, fun i _ => World.ownsRow_nil _ _ _ _, fun g hg => by simp [Value.ownBlock] at hg, by omega⟩
  have hTO : TRows W (eb + 1) B (fun _ => .slice none 0 0) (fun _ => []) := ⟨hO0, fun i _ => World.ownsRow_nil _ _ _ _, fun g hg => by simp [Value.ownBlock] at hg, by omega⟩
  have HINI := Lib.hid (And.intro (HR1.out.fr0 hfA) (And.intro hTI (And.intro hTO (And.intro hE0 (HF1.out.trans hfA (by simp))))))
  clear hW hfA hE0 hTI hTO hI0 hO0 hz3 HR1 HF1 HEB
  go_loopg [10] l.length (fun g s10 wr => ∃ (k : Nat) (S : Sta) (vi vo : Nat → Value) (I O : Nat → List Int), k ≤ l.length ∧ g = l.length - k ∧ s10 = .int .i64 k ∧ RelS wr p r b N S ∧ TRows wr eb B vi I ∧ TRows wr (eb + 1) B vo O ∧ Cross vi vo ∧ B2 wr (eb + 2) 75 S.e ∧
    (∀ i, i = 0 ∨ i = 1 → I i = O i ++ S.x i ∧ (I i).length ≤ 400 * k) ∧ Fr [] w wr)
  case atStart => exact ⟨0, sta0, _, _, _, _, by omega, rfl, rfl, HINI.out.1, HINI.out.2.1, HINI.out.2.2.1, fun _ _ _ _ g hg => by simp [Value.ownBlock] at hg, HINI.out.2.2.2.1, fun i _ => ⟨by simp [sta0], by simp⟩, HINI.out.2.2.2.2⟩
  case round =>
    obtain ⟨wo, rfl⟩ : ∃ wo : World, wo = wr := ⟨_, rfl⟩
    obtain ⟨k, S, vi, vo, I, O, hk, rfl, rfl, hR, hi, ho, hx, he, hio, hfr⟩ := hrel
    clear HINI
    by_cases hlt : k < l.length
    · obtain ⟨a, ha⟩ : ∃ a, l[k]? = some a := ⟨_, List.getElem?_eq_getElem hlt⟩
      have hacts := HX.out.fr hfr (Nat.le_refl _) (by simp)
      obtain ⟨ab, off, rfl, hab, hcell⟩ := hacts.1 (by omega)
      obtain ⟨c0, c1, c2, c3⟩ := hcell k a ha
      have hok := hacts.2 a (List.mem_of_getElem? ha)
      have hbl := HBL.out a (List.mem_of_getElem? ha)
      have hkd := hok.2.2.1
      have hkd2 := hok.2.2.2.1
      have has := hok.2.2.2.2.1
      have han := And.intro hok.2.2.2.2.2.1 hok.2.2.2.2.2.2.1
      have hac := And.intro hok.2.2.2.2.2.2.2.1 hok.2.2.2.2.2.2.2.2
      have hBw := hi.lo.2
      have HR := Lib.hid hR
      have HFR := Lib.hid hfr
      have HOK := Lib.hid hok
      have HIO := Lib.hid hio
      have HII := Lib.hid hi
      have HOO := Lib.hid ho
      have HEE := Lib.hid he
      have HCX := Lib.hid hx
      clear hok hcell hacts ha hR hfr hi ho hx he hio
      obtain ⟨H, hH⟩ : ∃ H, wo.heap.size = H := ⟨_, rfl⟩
      obtain ⟨wb, hwb⟩ : ∃ wb, wo.alloc (.cells #[.int .u8 a.kind, .int .i64 a.side, .int .i64 a.n, .slice a.at_ a.bs.length a.cap] 54) = wb := ⟨_, rfl⟩
      have hfb : Fr [] wo wb := by rw [← hwb]; exact (Fr.refl [] wo).alloc _
      have hbk : Blk wb H 54 #[.int .u8 a.kind, .int .i64 a.side, .int .i64 a.n, .slice a.at_ a.bs.length a.cap] := by rw [← hwb, ← hH]; exact Blk.new wo 54 _
      have hd0 : wb.cell? ⟨H, 0, none⟩ = some (.int .u8 a.kind) := hbk.cell 0
      have hd1' : wb.cell? ⟨H, 1, none⟩ = some (.int .i64 a.side) := hbk.cell 1
      have hd2' : wb.cell? ⟨H, 2, none⟩ = some (.int .i64 a.n) := hbk.cell 2
      have hd3' : wb.cell? ⟨H, 3, none⟩ = some (.slice a.at_ a.bs.length a.cap) := hbk.cell 3
      have HRB := Lib.hid (HR.out.fr0 hfb)
      have HFB := Lib.hid (HFR.out.trans hfb (by simp))
      have HXB := Lib.hid (HOK.out.1.fr hfb (by simp))
      have HEB := Lib.hid (HEE.out.fr hfb (by simp))
      have HIB := Lib.hid (HII.out.fr0 hfb)
      have HOB := Lib.hid (HOO.out.fr0 hfb)
      have HBK := Lib.hid hbk
      have HWB := Lib.hid (And.intro hH hwb)
      have hbw : H < wb.heap.size := hbk.lt
      clear hfb hbk hH hwb
      have hHlo : B ≤ H ∧ w.heap.size ≤ H ∧ eb + 2 < B := by have := HWB.out.1; omega
      have HVB : Hid (∀ j g, j = 0 ∨ j = 1 → ((vi j).ownBlock = some g → B ≤ g ∧ g < H) ∧ ((vo j).ownBlock = some g → B ≤ g ∧ g < H)) := Lib.hid (fun j g hj => ⟨fun h => by have := HII.out.blocks hj h; have := HWB.out.1; omega, fun h => by have := HOO.out.blocks hj h; have := HWB.out.1; omega⟩)
      go_upto_region 14 with fail
      rw [HWB.out.2, HWB.out.1]
      go_cut [12] from 35 to 182 (fun s12 wc => (∃ (s : Int) (i : Nat), s12 = .int .i64 s ∧ Sd s i) ∧ wb = wc)
      case first =>
        go_wp2_with fail
        go_meet
        exact ⟨side_mod _, rfl⟩
      case rest =>
        obtain ⟨⟨s, i, rfl, hsd⟩, rfl⟩ := hcut
        obtain rfl : s = (i : Int) := by rcases hsd with ⟨rfl, rfl⟩ | ⟨rfl, rfl⟩ <;> rfl
        have hi2 : i < 2 := by have := hsd.side; omega
        have hi3 : (i : Int) < 2 := by omega
        have hi4 : (0 : Int) ≤ (i : Int) := by omega
        have HSD := Lib.hid hsd
        clear hsd
        go_upto_block 2 with fail
        go_cut [11] from 35 to 182 (fun s11 wc => s11 = .pointer (some ⟨H, 0, none⟩) ∧ ∃ (T : Sta) (vi' vo' : Nat → Value) (I' O' : Nat → List Int), RelS wc p r b N T ∧ TRows wc eb B vi' I' ∧ TRows wc (eb + 1) B vo' O' ∧ Cross vi' vo' ∧ B2 wc (eb + 2) 75 T.e ∧
          (∀ i, i = 0 ∨ i = 1 → I' i = O' i ++ T.x i ∧ (I' i).length ≤ 400 * (k + 1)) ∧ Fr [] w wc)
        case first =>
          rcases (by omega : (a.kind % 6 = 0 ∨ a.kind % 6 = 1) ∨ (a.kind % 6 = 2 ∨ a.kind % 6 = 3) ∨ a.kind % 6 = 4 ∨ a.kind % 6 = 5) with h01 | h23 | hk6 | hk6
          case inl => as_aux_lemma =>
            obtain ⟨n, hn⟩ : ∃ n, min a.bs.length (wn N S i) = n := ⟨_, rfl⟩
            have hnl : n ≤ a.bs.length := by omega
            have hpt := rlput_calls p N r b S wb i i a.bs a.at_ a.cap HRB.out HSD.out (HXB.out.imp (fun g _ hg => ⟨fun e => by have := HRL.out (r i) (by rcases HSD.out.side with e | e <;> rw [e] <;> simp [RL]); omega, fun e => by have := HRL.out (b i) (by rcases HSD.out.side with e | e <;> rw [e] <;> simp [RL]); omega⟩)) HOK.out.2.1 hac.1 hac.2
            have hTx : (putS N S i a.bs).x = upd S.x i (S.x i ++ a.bs.take n) := by rw [← hn]; rfl
            have hTe : (putS N S i a.bs).e = S.e := rfl
            obtain ⟨T, hT⟩ : ∃ T, putS N S i a.bs = T := ⟨_, rfl⟩
            rw [hn, hT] at hpt
            rw [hT] at hTx hTe
            have hlt2 := (HRB.out.lt HSD.out.side).2.2.2.2.2
            have hfull : S.e i = false → n < a.bs.length → (T.x i).length = N := fun h1 h2 => by
              rw [hTx, upd_same, List.length_append, List.length_take]
              have : wn N S i = N - (S.x i).length := wn_open h1
              omega
            have hzero : S.e i = true → n = 0 := fun h1 => by have : wn N S i = 0 := wn_ended h1; omega
            obtain ⟨ei, hei⟩ : ∃ ei, S.e i = ei := ⟨_, rfl⟩
            rw [hei] at hfull hzero
            have HEI := Lib.hid hei
            have HPT := Lib.hid hpt
            have HTX := Lib.hid hTx
            have HTE := Lib.hid hTe
            have HFULL := Lib.hid hfull
            obtain ⟨U, cu, hU⟩ := HIB.out.form HSD.out.side
            have HUU := Lib.hid hU
            have hil := (HIO.out i HSD.out.side).2
            have hk100 : k ≤ 120 := by omega
            have HWT := Lib.hid (fun (w2 : World) (h : RelS w2 p r b N T) => rwaits_calls p N r b T w2 (1 - (i : Int)) (1 - i) h (by rcases HSD.out.side with rfl | rfl <;> simp [Sd]))
            have h1i : 1 - (1 - i) = i := by omega
            rw [h1i] at HWT
            clear hpt hn hT hTx hTe hfull hei hU h1i hlt2
            go_step
            go_step
            go_cut [56] from 35 to 182 (fun s56 wc => s56 = .bool true ∧ wb = wc)
            case first =>
              rcases h01 with hk6 | hk6
              all_goals
                go_wp2_with fail
                go_meet
                exact ⟨rfl, rfl⟩
            case rest =>
              obtain ⟨rfl, rfl⟩ := hcut
              go_wp2_with fail
              refine HPT.out.mono ?_
              rintro e w2 ⟨rfl, hR2, hf2⟩
              have hsub := hf2.sub (L := RL p r b) (rl_sub HSD.out.side).1
              have hsB : ∀ x ∈ RL p r b, x < B ∧ x ≠ eb ∧ x ≠ eb + 1 ∧ x ≠ eb + 2 ∧ x ≠ H := fun x hx => by have := HRL.out x hx; omega
              have hx2 := HXB.out.fr hsub (fun g hg _ hm => by have := HRL.out g hm; omega)
              have HXW := Lib.hid (hx2.imp (ok' := fun _ => True) (fun _ _ _ => trivial))
              have HIW := Lib.hid (HIB.out.frB hsub (fun x hx => ⟨(hsB x hx).1, (hsB x hx).2.1⟩))
              have HR2 := Lib.hid (hR2.fr0 ((Fr.refl [] w2).drew))
              have HWT2 := Lib.hid (HWT.out w2 hR2)
              have HI2 := Lib.hid ((HIB.out.frB hsub (fun x hx => ⟨(hsB x hx).1, (hsB x hx).2.1⟩)).fr0 ((Fr.refl [] w2).drew))
              have HO2 := Lib.hid ((HOB.out.frB hsub (fun x hx => ⟨(hsB x hx).1, (hsB x hx).2.2.1⟩)).fr0 ((Fr.refl [] w2).drew))
              have he2 := HEB.out.fr hsub (fun hm => (hsB _ hm).2.2.2.1 rfl)
              have HE2 := Lib.hid (he2.fr ((Fr.refl [] w2).drew) (by simp))
              have hC3 : w2.cell? ⟨H, 3, none⟩ = some (.slice a.at_ a.bs.length a.cap) := blk4_3 (hsub.blk HBK.out (fun hm => (hsB _ hm).2.2.2.2 rfl))
              have HF2 := Lib.hid ((HFB.out.trans hsub (fun x hx => .inr (HRL.out x hx).1)).drew)
              have hce := he2.cell HSD.out.side
              rw [HEI.out] at hce
              have hzw := hsub.size
              clear hf2 hsub hsB hx2 hR2 he2
              go_upto_region 20 with fail
              go_cut [102] from 35 to 182 (fun s102 wc => s102 = .bool false ∧ w2 = wc)
              case first =>
                have hnn : decide ((n : Int) < 0) = false := by simp
                have hnm : decide ((a.bs.length : Int) < n) = false := by simp; omega
                rcases ei with _ | _
                · rcases Nat.lt_or_ge n a.bs.length with hnl2 | hnl2
                  · have hd : decide ((n : Int) < a.bs.length) = true := by simp; omega
                    have hwt := HWT2.out
                    rw [HFULL.out rfl hnl2] at hwt
                    have HWT3 := Lib.hid hwt
                    clear hwt hzero
                    go_wp2_with fail
                    refine HWT3.out.mono ?_
                    rintro e wx ⟨rfl, rfl⟩
                    go_wp2_with fail
                    go_meet
                    exact ⟨by simp; omega, rfl⟩
                  · have hd : decide ((n : Int) < a.bs.length) = false := by simp; omega
                    clear hzero
                    go_wp2_with fail
                    go_meet
                    exact ⟨by simp; omega, rfl⟩
                · have hn0 : ((n : Int) == 0) = true := by have := hzero rfl; simp; omega
                  have hn1 : ((n : Int) != 0) = false := by have := hzero rfl; simp; omega
                  clear hzero
                  go_wp2_with fail
                  go_meet
                  exact ⟨by simp; omega, rfl⟩
              case rest =>
                obtain ⟨rfl, rfl⟩ := hcut
                clear hzero hce
                go_wp2_with fail
                refine wp_only (r22_wp eb H B i n cu U a.at_ a.bs.length a.cap (I i).length vi I a.bs w2 HSD.out.side HIW.out HUU.out rfl hC3 (by omega) HXW.out rfl (by omega) hac.1 hac.2 hnl (by omega) ?_)
                intro V4 c4 w3 d0 d1 d2 d3 d4 d5 d6 d7 d8 d9 hg4' hown4 hat4'
                have hlx : (I i ++ a.bs.take n).length = (I i).length + n := by simp; omega
                have hu4 : w3.ownsRow B 5 1 (.slice V4 ((I i).length + n) c4) (I i ++ a.bs.take n).length (bcells (I i ++ a.bs.take n)) := by rw [hlx]; exact hown4
                have hvb : ∀ x ∈ (vi i).ownBlock.toList, B ≤ x := fun x hx => ((HVB.out i x HSD.out.side).1 (by simpa using hx)).1
                have hS : Fr [eb] w3 (w3.setCell ⟨eb, i, none⟩ (.slice V4 ((I i).length + n) c4)) := (Fr.refl [eb] w3).setCell (.inl (by simp)) _
                have hG := Fr.of_grownO hg4'
                have HALL := Lib.hid (And.intro ((HR2.out.frR hG (fun x hx hm => by have := hvb x hx; have := HRL.out x hm; omega)).frR hS (fun x hx hm => by simp at hx; have := HRL.out x hm; omega))
                  (And.intro (HI2.out.app HSD.out.side hg4' hu4 hat4') (And.intro (HO2.out.other (g := eb) (x := .slice V4 ((I i).length + n) c4) HCX.out HSD.out.side hg4' (fun x hx => hvb x (by simpa using hx)) (by omega) (by omega)) (And.intro (HCX.out.app HO2.out HSD.out.side hat4')
                  (And.intro ((HE2.out.fr hG (fun hm => by have := hvb _ hm; omega)).fr hS (by simp)) ((HF2.out.trans hG (fun x hx => .inr (by have := hvb x hx; omega))).trans hS (by simp; omega)))))))
                clear hg4' hat4' hlx hu4 hvb hS hG hown4
                go_wp2_with fail
                go_meet
                refine ⟨rfl, T, _, vo, _, O, HALL.out.1, HALL.out.2.1, HALL.out.2.2.1, HALL.out.2.2.2.1, by rw [HTE.out]; exact HALL.out.2.2.2.2.1, fun j hj => ?_, HALL.out.2.2.2.2.2⟩
                have hj2 := HIO.out j hj
                rw [HTX.out]
                by_cases e : j = i
                · subst e
                  rw [upd_same, upd_same, ← List.append_assoc, ← hj2.1]
                  exact ⟨rfl, by simp; omega⟩
                · rw [upd_other _ _ e, upd_other _ _ e]
                  exact ⟨hj2.1, by omega⟩
          case inr.inl => as_aux_lemma =>
            have hj01 : 1 - i = 0 ∨ 1 - i = 1 := by omega
            have HJ := Lib.hid hj01
            have hD : Fr [] wb wb.drew := (Fr.refl [] wb).drew
            obtain ⟨j, hj⟩ : ∃ j, takeN S i a.n = j := ⟨_, rfl⟩
            obtain ⟨xs, hxs⟩ : ∃ xs, (S.x (1 - i)).take j = xs := ⟨_, rfl⟩
            obtain ⟨T, hT⟩ : ∃ T, takeS S i a.n = T := ⟨_, rfl⟩
            obtain ⟨U, cu, hU⟩ := HOB.out.form HJ.out
            obtain ⟨no, hno⟩ : ∃ no, (O (1 - i)).length = no := ⟨_, rfl⟩
            rw [hno] at hU
            have hTx : T.x = upd S.x (1 - i) ((S.x (1 - i)).drop j) := by rw [← hT, ← hj]; rfl
            have hTe : T.e = S.e := by rw [← hT]; rfl
            have hxl : xs.length = j := by
              have : j ≤ (S.x (1 - i)).length := by rw [← hj]; simp [takeN]; omega
              rw [← hxs]; simp; omega
            have htk := rltake_calls p N r b S wb.drew i a.n i (HRB.out.fr0 hD) HSD.out han
            rw [hj, hxs, hT] at htk
            have htk2 : Calls Try.prog 34 #[.pointer (some ⟨p, 0, none⟩), .int .i64 i, .int .i64 a.n] wb.drew fun e w' => ∃ A1 c1, e = .returned (.slice A1 j c1) ∧ Reads w' w'.heap.size 1 A1 j (bcells xs) ∧ TRows w' (eb + 1) B vo O ∧ w'.cell? ⟨H, 2, none⟩ = some (.int .i64 a.n) ∧ RelS w' p r b N T ∧ Fr (RL p r b) wb w' := by
              refine htk.mono ?_
              rintro e w' ⟨u, rfl, ho, hR, hf⟩
              obtain ⟨A1, c1, rfl, hl1, hb1, _, _⟩ := own_form ho
              have hsub : Fr (RL p r b) wb w' := (hD.mono (L := RL p r b) (by simp)).trans (hf.sub (L := RL p r b) (rl_sub HJ.out).2) (fun x hx => .inl hx)
              have hO2 := HOB.out.frB hsub (fun x hx => by have := HRL.out x hx; omega)
              have hrd := hb1.reads
              rw [hl1] at hrd
              exact ⟨A1, c1, rfl, hrd, hO2, blk4_2 (hsub.blk HBK.out (fun hm => by have := HRL.out _ hm; omega)), hR, hsub⟩
            have HTK := Lib.hid htk2
            have hil := (HIO.out (1 - i) HJ.out)
            have hnl : no ≤ 400 * k := by have h1 := congrArg List.length hil.1; simp at h1; omega
            have hjl : j ≤ 4096 := by have := (HRB.out.lt HJ.out).2.2.2.2; rw [← hxl, ← hxs]; simp; omega
            have HUU := Lib.hid hU
            have HTX := Lib.hid hTx
            have HTE := Lib.hid hTe
            have HXS := Lib.hid (And.intro hxs (And.intro hno hxl))
            have hk120 : k ≤ 120 := by omega
            clear hj01 hD hj hxs hT hU hno hTx hTe hxl htk htk2 hil
            go_step
            go_step
            go_cut [52, 56] from 35 to 182 (fun s52 s56 wc => s52 = .int .u8 (a.kind % 6) ∧ s56 = .bool false ∧ wb = wc)
            case first =>
              rcases h23 with hk6 | hk6
              all_goals
                go_wp2_with fail
                go_meet
                exact ⟨by rw [hk6], rfl, rfl⟩
            case rest =>
              obtain ⟨rfl, rfl, rfl⟩ := hcut
              go_step
              go_step
              go_step
              go_cut [113] from 35 to 182 (fun s113 wc => s113 = .bool true ∧ wb = wc)
              case first =>
                rcases h23 with hk6 | hk6
                all_goals
                  go_wp2_with fail
                  go_meet
                  exact ⟨rfl, rfl⟩
              case rest =>
                obtain ⟨rfl, rfl⟩ := hcut
                clear h23
                go_wp2_with fail
                refine wp_only (r25_wp p eb H B i j cu no a.n U vo O xs (fun w' => RelS w' p r b N T ∧ Fr (RL p r b) wb w') wb HSD.out.side HOB.out HUU.out HXS.out.2.1 hd2' (by omega) (by omega) HTK.out ?_)
                intro V4 c4 w2 w3 d0 d1 d2 d3 d4 d5 d6 d7 d8 d9 d10 d11 d12 hRR hO2 hg4' hown4 hat4'
                have hu4 : w3.ownsRow B 5 1 (.slice V4 (no + j) c4) (O (1 - i) ++ xs).length (bcells (O (1 - i) ++ xs)) := by
                  rw [List.length_append, HXS.out.2.1, HXS.out.2.2]; exact hown4
                have hvb : ∀ x ∈ (vo (1 - i)).ownBlock.toList, B ≤ x := fun x hx => ((HVB.out (1 - i) x HJ.out).2 (by simpa using hx)).1
                have hS : Fr [eb + 1] w3 (w3.setCell ⟨eb + 1, 1 - i, none⟩ (.slice V4 (no + j) c4)) := (Fr.refl [eb + 1] w3).setCell (.inl (by simp)) _
                have hG := Fr.of_grownO hg4'
                have hI2 := HIB.out.frB hRR.2 (fun x hx => by have := HRL.out x hx; omega)
                have HALL := Lib.hid (And.intro ((hRR.1.frR hG (fun x hx hm => by have := hvb x hx; have := HRL.out x hm; omega)).frR hS (fun x hx hm => by simp at hx; have := HRL.out x hm; omega))
                  (And.intro (hI2.other (g := eb + 1) (x := .slice V4 (no + j) c4) HCX.out.symm HJ.out hg4' (fun x hx => hvb x (by simpa using hx)) (by omega) (by omega)) (And.intro (hO2.app HJ.out hg4' hu4 hat4') (And.intro (HCX.out.symm.app hI2 HJ.out hat4').symm
                  (And.intro (((HEB.out.fr hRR.2 (fun hm => by have := HRL.out _ hm; omega)).fr hG (fun hm => by have := hvb _ hm; omega)).fr hS (by simp)) (((HFB.out.trans hRR.2 (fun x hx => .inr (HRL.out x hx).1)).trans hG (fun x hx => .inr (by have := hvb x hx; omega))).trans hS (by simp; omega)))))))
                clear hg4' hat4' hu4 hvb hS hG hI2 hown4 hRR hO2
                go_wp2_with fail
                go_meet
                refine ⟨rfl, T, vi, _, I, _, HALL.out.1, HALL.out.2.1, HALL.out.2.2.1, HALL.out.2.2.2.1, by rw [HTE.out]; exact HALL.out.2.2.2.2.1, fun m hm => ?_, HALL.out.2.2.2.2.2⟩
                have hm2 := HIO.out m hm
                rw [HTX.out]
                by_cases e : m = 1 - i
                · subst e
                  rw [upd_same, upd_same, List.append_assoc, ← HXS.out.1, List.take_append_drop]
                  exact ⟨hm2.1, by omega⟩
                · rw [upd_other _ _ e, upd_other _ _ e]
                  exact ⟨hm2.1, by omega⟩
          case inr.inr.inl => as_aux_lemma =>
            have HEN := Lib.hid (rend_calls p N r b S wb i i HRB.out HSD.out)
            go_wp2_with fail
            refine HEN.out.mono ?_
            rintro e w2 ⟨rfl, hR2, hf2⟩
            have hp := HRL.out p (by simp [RL])
            have hE2 := HEB.out.fr hf2 (by simp; omega)
            have hc2 := hE2.cell HSD.out.side
            have hz2 : w2.frozen? ⟨eb + 2, i, none⟩ = false := hE2.frozen
            have hS : Fr [eb + 2] w2 (w2.setCell ⟨eb + 2, i, none⟩ (.bool true)) := (Fr.refl [eb + 2] w2).setCell (.inl (by simp)) _
            have HALL := Lib.hid (And.intro (hR2.frR hS (fun y hy hm => by simp at hy; subst hy; have := HRL.out _ hm; omega)) (And.intro ((HIB.out.frB hf2 (by simp; omega)).frB hS (by simp; omega)) (And.intro ((HOB.out.frB hf2 (by simp; omega)).frB hS (by simp; omega)) (And.intro (hE2.set_ HSD.out.side true) ((HFB.out.trans hf2 (by simp; omega)).trans hS (by simp; omega))))))
            clear hR2 hf2 hE2 hS hp
            go_wp2_with fail
            go_meet
            exact ⟨rfl, endS S i, vi, vo, I, O, HALL.out.1, HALL.out.2.1, HALL.out.2.2.1, HCX.out, HALL.out.2.2.2.1, fun j hj => ⟨(HIO.out j hj).1, by have := (HIO.out j hj).2; omega⟩, HALL.out.2.2.2.2⟩
          case inr.inr.inr => as_aux_lemma =>
            have HEN := Lib.hid (rshut_calls p N r b S wb i i HRB.out HSD.out)
            go_wp2_with fail
            refine HEN.out.mono ?_
            rintro e w2 ⟨rfl, hR2, hf2⟩
            have hp := HRL.out p (by simp [RL])
            have HALL := Lib.hid (And.intro hR2 (And.intro (HIB.out.frB hf2 (by simp; omega)) (And.intro (HOB.out.frB hf2 (by simp; omega)) (And.intro (HEB.out.fr hf2 (by simp; omega)) (HFB.out.trans hf2 (by simp; omega))))))
            clear hR2 hf2 hp
            go_wp2_with fail
            go_meet
            exact ⟨rfl, shutS S i, vi, vo, I, O, HALL.out.1, HALL.out.2.1, HALL.out.2.2.1, HCX.out, HALL.out.2.2.2.1, fun j hj => ⟨(HIO.out j hj).1, by have := (HIO.out j hj).2; omega⟩, HALL.out.2.2.2.2⟩
        case rest => as_aux_lemma =>
          obtain ⟨rfl, T, vi', vo', I', O', hRc, hic, hoc, hcx, hec, hioc, hfc⟩ := hcut
          have HRC := Lib.hid hRc
          have HIC := Lib.hid hic
          have HOC := Lib.hid hoc
          have HXC := Lib.hid hcx
          have HEC := Lib.hid hec
          have HIOC := Lib.hid hioc
          have HFC := Lib.hid hfc
          clear hRc hic hoc hcx hec hioc hfc HR HFR HRB HEB HIB HOB HII HOO HIO HCX HVB HEE HFB HBK HWB HOK HXB HSD hd0 hd1' hd2' hd3' hbw c0 c1 c2 c3
          go_wp2_with fail
          go_loopw [14] (fun s14 wr => ∃ m : Nat, m ≤ 2 ∧ s14 = .int .i64 m ∧ Fr [] wc wr) (fun s14 _ => 2 - (intOf s14).toNat)
          case atStart => exact ⟨0, by omega, rfl, Fr.refl _ _⟩
          case round =>
            obtain ⟨m, hm, rfl, hfm⟩ := hrel
            have HFM := Lib.hid hfm
            clear hfm
            by_cases hm2 : m < 2
            · have hmi : m = 0 ∨ m = 1 := by omega
              have HMI := Lib.hid hmi
              have hio := HIOC.out m hmi
              have hR := HRC.out.fr0 HFM.out
              have hI := HIC.out.fr0 HFM.out
              have hO := HOC.out.fr0 HFM.out
              have hxl := (hR.lt hmi).2.2.2.2.2
              obtain ⟨Ui, ci, hUi, hli, hbi, hci, hcmi⟩ := own_form (hI.own m hmi)
              obtain ⟨Uo, co, hUo, hlo', hbo, hco, hcmo⟩ := own_form (hO.own m hmi)
              have hci1 := hI.cell hmi
              have hco1 := hO.cell hmi
              rw [hUi] at hci1
              rw [hUo] at hco1
              obtain ⟨ni, hni⟩ : ∃ ni, (I' m).length = ni := ⟨_, rfl⟩
              obtain ⟨no, hno⟩ : ∃ no, (O' m).length = no := ⟨_, rfl⟩
              obtain ⟨nx, hnx⟩ : ∃ nx, (T.x m).length = nx := ⟨_, rfl⟩
              have hsum : ni = no + nx := by rw [← hni, ← hno, ← hnx, hio.1]; simp
              rw [hnx] at hxl
              have hnl : ni ≤ 400 * (k + 1) := by rw [← hni]; exact hio.2
              rw [hni] at hci1 hci
              rw [hno] at hco1
              have hwt := fun W hW => rwaits_calls p N r b T W (1 - (m : Int)) (1 - m) hW (by rcases HMI.out with rfl | rfl <;> simp [Sd])
              rw [show 1 - (1 - m) = m by omega, hnx] at hwt
              have hct := cut_at (m := ci) (l := 0) (n := no) hbi (by rw [hni]; omega) (by rw [hni]; exact hci)
              rw [cutA_zero, List.drop_zero, show (I' m).take no = O' m by rw [hio.1, ← hno, List.take_left']; rfl] at hct
              have hD : Fr [] wr wr.drew := (Fr.refl [] wr).drew
              have hsm : Calls Try.prog 24 #[.slice Uo no co, .slice Ui no ci] wr.drew fun e w' => e = .returned (.bool true) ∧ Fr [] wr w' ∧ w'.cell? ⟨eb, m, none⟩ = some (.slice Ui ni ci) ∧ w'.cell? ⟨eb + 1, m, none⟩ = some (.slice Uo no co) ∧ RelS w' p r b N T := by
                refine (same_len no (O' m) Uo Ui co ci wr.drew hno ((hbo.imp (fun _ _ _ => trivial)).fr hD (by simp)) ((hct.imp (fun _ _ _ => trivial)).fr hD (by simp)) (by rw [hno]; omega)).mono ?_
                rintro e w' ⟨rfl, hf⟩
                have hf' := hD.trans hf (by simp)
                have h1 := (hI.fr0 hf').cell hmi
                have h2 := (hO.fr0 hf').cell hmi
                rw [hUi, hni] at h1
                rw [hUo, hno] at h2
                exact ⟨rfl, hf', h1, h2, hR.fr0 hf'⟩
              have HSM := Lib.hid hsm
              have HWT := Lib.hid hwt
              have hC1 : wr.drew.cell? ⟨eb, m, none⟩ = some (.slice Ui ni ci) := hci1
              have hD1 : wr.drew.cell? ⟨eb + 1, m, none⟩ = some (.slice Uo no co) := hco1
              have hq1 : decide ((ni : Int) < no) = false := by simp; omega
              have hq2 : decide (N < nx) = false := by simp; omega
              have hqn : decide (ni < no) = false := by simp; omega
              have hw1 : IntKind.i64.wrap (1 - (m : Int)) = 1 - (m : Int) := IntWalk.i64_in _ (by omega)
              have hw2 : IntKind.i64.wrap ((ni : Int) - no) = (nx : Int) := by rw [IntWalk.i64_in _ (by omega)]; omega
              have hm3 : (m : Int) < 2 := by omega
              have hm4 : (0 : Int) ≤ (m : Int) := by omega
              have hm5 : (m : Int) ≤ 1 := by omega
              have hn3 : (0 : Int) ≤ (no : Int) := by omega
              have hn4 : (no : Int) ≤ (ci : Int) := by omega
              have hq3 : ¬ (ni : Int) < no := by omega
              have hq4 : ¬ (N : Int) < (nx : Int) := by omega
              clear hmi hio hR hI hO hUi hli hbi hUo hlo' hbo hci1 hni hno hnx hsum hwt hct hD hsm hcmi hcmo
              go_wp2_with fail
              go_region_held3 (fun w' => w'.cell? ⟨eb, m, none⟩ = some (.slice Ui ni ci) ∧ w'.cell? ⟨eb + 1, m, none⟩ = some (.slice Uo no co)) (first | exact ⟨hC1, hD1⟩ | exact ⟨hC2, hD2⟩) (first
                | (go_at_call 24; (with_reducible refine HSM.out.mono ?_); rintro e w5 ⟨rfl, hf5, hC2, hD2, hR5⟩; have HF5 := Lib.hid hf5; have HR5 := Lib.hid hR5; clear hf5 hR5)
                | (go_at_call 33; (with_reducible refine (HWT.out _ HR5.out).mono ?_); rintro e wt ⟨rfl, rfl⟩))
              have HF6 := Lib.hid (HFM.out.trans HF5.out (by simp))
              clear hq1 hqn hq2 hq3 hq4 hw1 hw2 hC1 hD1 hC2 hD2
              go_wp2_with fail
              go_roundw
              case rel => exact ⟨m + 1, by omega, by go_num, HF6.out⟩
              case measure => simp [intOf]; omega
            · obtain rfl : m = 2 := by omega
              go_wp2_with fail
              go_roundg (l.length - (k + 1))
              case measure => omega
              case rel => exact ⟨k + 1, T, vi', vo', I', O', by omega, rfl, by go_num, HRC.out.fr0 HFM.out, HIC.out.fr0 HFM.out, HOC.out.fr0 HFM.out, HXC.out, HEC.out.fr HFM.out (by simp), HIOC.out, HFC.out.trans HFM.out (by simp)⟩
    · obtain rfl : k = l.length := by omega
      have HF := Lib.hid hfr
      clear hfr
      go_wp2_with fail
      go_ret
      exact ⟨rfl, HF.out⟩

end Go.Proofs.Ytokdcddmljfgnaa
