/-
  RelayPlays' walk.
-/
import Derived.Test.YtokdcddmljfgnaaRelayZ
import Derived.Test.YtokdcddmljfgnaaPlays
import Derived.Test.YtokdcddmljfgnaaGreat26
import Derived.Deep.RegionHeld3
import Derived.Deep.LoopGhost
import Derived.Deep.CutRange
import Derived.Deep.CutBlock
namespace Go.Proofs.Ytokdcddmljfgnaa
open Go.RowKit Go.Shelf
set_option linter.unusedVariables false

theorem RfS.frV {w w' : World} {q B N : Nat} {v : Nat → Value} {S : Sta} {L : List Nat} (h : RfS w q B N v S) (hf : Fr L w w') (hL : ∀ x ∈ L, x ∉ VL q v) : RfS w' q B N v S :=
  h.fr hf (fun x hx => by
    have := hL x hx
    rw [mem_VL] at this
    exact ⟨fun e => this (.inl e), fun e => this (.inr (.inl e)), fun e => this (.inr (.inr e))⟩)
theorem RelS.frR {w w' : World} {p N : Nat} {r b : Nat → Nat} {S : Sta} {L : List Nat} (h : RelS w p r b N S) (hf : Fr L w w') (hL : ∀ x ∈ L, x ∉ RL p r b) : RelS w' p r b N S :=
  h.fr hf (fun x hx => by have := hL x hx; simp [RL] at this; exact this)
theorem RfS.vl {w : World} {q B N : Nat} {v : Nat → Value} {S : Sta} (h : RfS w q B N v S) : ∀ x ∈ VL q v, q ≤ x ∧ x < w.heap.size := fun x hx => by
  have hlo := h.lo
  rw [mem_VL] at hx
  rcases hx with rfl | hx | hx
  · exact ⟨Nat.le_refl _, h.blk.lt⟩
  · have := h.blocks (i := 0) (.inl rfl) hx; omega
  · have := h.blocks (i := 1) (.inr rfl) hx; omega

theorem blk4_1 {w : World} {g : Nat} {t : TypeId} {x y z u : Value} (h : Blk w g t #[x, y, z, u]) : w.cell? ⟨g, 1, none⟩ = some y := h.cell 1
theorem blk4_2 {w : World} {g : Nat} {t : TypeId} {x y z u : Value} (h : Blk w g t #[x, y, z, u]) : w.cell? ⟨g, 2, none⟩ = some z := h.cell 2
theorem blk4_3 {w : World} {g : Nat} {t : TypeId} {x y z u : Value} (h : Blk w g t #[x, y, z, u]) : w.cell? ⟨g, 3, none⟩ = some u := h.cell 3

set_option maxRecDepth 100000 in
set_option maxHeartbeats 4000000 in
theorem rplays_good (N : Nat) (l : List ActR) (A : Option Addr) (cl : Nat) (w : World) (hX : ActsR w w.heap.size A l) (hl : l.length ≤ 9223372036854775807) (hN1 : 1 ≤ N ∧ N ≤ 256) (hgr : greatRB l = false) :
    Calls Try.prog 9 #[.int .i64 N, .slice A l.length cl] w fun e w' => e = .returned (.bool true) ∧ Fr [] w w' := by
  have HX := Lib.hid hX
  have hlen : l.length ≤ 120 := by simp [greatRB] at hgr; omega
  have hbl : ∀ a ∈ l, a.bs.length ≤ 400 := by
    intro a ha
    simp [greatRB] at hgr
    exact hgr.2 a ha
  have HBL := Lib.hid hbl
  have hgc := greatR_calls A cl l _ w hX hl
  rw [hgr] at hgc
  have HGC := Lib.hid hgc
  clear hX hbl hgr hgc
  go_enter Try.func9, Try.ntmps9
  go_wp2_with fail
  refine HGC.out.mono ?_
  rintro e wa ⟨rfl, rfl⟩
  have hn1 := rlnew_good N w (by omega) (by omega)
  obtain ⟨r, hr⟩ : ∃ r, rF w.heap.size = r := ⟨_, rfl⟩
  obtain ⟨b, hb⟩ : ∃ b, bF w.heap.size = b := ⟨_, rfl⟩
  obtain ⟨p, hp⟩ : ∃ p, w.heap.size = p := ⟨_, rfl⟩
  have hrl : ∀ x ∈ RL p r b, w.heap.size ≤ x ∧ x < w.heap.size + 5 := by
    rw [← hr, ← hb, ← hp]
    intro x hx
    simp [RL, rF, bF] at hx
    omega
  rw [hr, hb, hp] at hn1
  have HN1 := Lib.hid hn1
  have hpw : w.heap.size ≤ p := by omega
  have HRL0 := Lib.hid hrl
  have HP := Lib.hid hp
  clear hn1 hr hb hp hrl
  go_wp2_with fail
  refine HN1.out.mono ?_
  rintro e w1 ⟨rfl, hR1, hf1, hz1⟩
  have hn2 := rfnew_good N w1 (by omega) (by omega)
  obtain ⟨q, hq⟩ : ∃ q, w1.heap.size = q := ⟨_, rfl⟩
  rw [hq] at hn2
  have hrl : ∀ x ∈ RL p r b, w.heap.size ≤ x ∧ x < q := fun x hx => by have := HRL0.out x hx; have := HP.out; omega
  have hlo2 : w.heap.size ≤ q := by have := HP.out; omega
  have HRL := Lib.hid hrl
  have HN2 := Lib.hid hn2
  have HR1 := Lib.hid hR1
  have HF1 := Lib.hid hf1
  clear hn2 hq hR1 hf1 hz1 hrl HRL0 HP
  go_wp2_with fail
  refine HN2.out.mono ?_
  rintro e w2 ⟨rfl, hR2, hf2, hz2⟩
  obtain ⟨B, hB⟩ : ∃ B, q + 1 = B := ⟨_, rfl⟩
  rw [hB] at hR2
  have hqB : q < B := by omega
  have HINI := Lib.hid (And.intro (HR1.out.fr0 hf2) (And.intro hR2 (HF1.out.trans hf2 (by simp))))
  clear hR2 hf2 HR1 HF1 HN2 HN1 hz2 hB
  go_wp2_with fail
  go_loopg [9] l.length (fun g s9 wr => ∃ (k : Nat) (S : Sta) (v : Nat → Value), k ≤ l.length ∧ g = l.length - k ∧ s9 = .int .i64 k ∧ RelS wr p r b N S ∧ RfS wr q B N v S ∧ Fr [] w wr)
  case atStart => exact ⟨0, _, _, by omega, rfl, rfl, HINI.out.1, HINI.out.2.1, HINI.out.2.2⟩
  case round =>
    obtain ⟨wo, rfl⟩ : ∃ wo : World, wo = wr := ⟨_, rfl⟩
    obtain ⟨k, S, v, hk, rfl, rfl, hR, hRef, hfr⟩ := hrel
    clear HINI
    by_cases hlt : k < l.length
    · obtain ⟨a, ha⟩ : ∃ a, l[k]? = some a := ⟨_, List.getElem?_eq_getElem hlt⟩
      have hacts := HX.out.fr hfr (Nat.le_refl _) (by simp)
      obtain ⟨ab, off, rfl, hab, hcell⟩ := hacts.1 (by omega)
      obtain ⟨c0, c1, c2, c3⟩ := hcell k a ha
      have hok := hacts.2 a (List.mem_of_getElem? ha)
      have hbl := HBL.out a (List.mem_of_getElem? ha)
      have hkd := hok.2.2.1
      have hkd2 := hok.2.2.2.1
      have has := hok.2.2.2.2.1
      have han := And.intro hok.2.2.2.2.2.1 hok.2.2.2.2.2.2.1
      have hac := And.intro hok.2.2.2.2.2.2.2.1 hok.2.2.2.2.2.2.2.2
      have hvl := hRef.vl
      have hqw := hRef.lo.2
      have HR := Lib.hid hR
      have HREF := Lib.hid hRef
      have HFR := Lib.hid hfr
      have HOK := Lib.hid hok
      clear hok hcell hacts ha hR hRef hfr
      obtain ⟨H, hH⟩ : ∃ H, wo.heap.size = H := ⟨_, rfl⟩
      rw [hH] at hvl
      have HVL := Lib.hid hvl
      obtain ⟨wb, hwb⟩ : ∃ wb, wo.alloc (.cells #[.int .u8 a.kind, .int .i64 a.side, .int .i64 a.n, .slice a.at_ a.bs.length a.cap] 54) = wb := ⟨_, rfl⟩
      have hfb : Fr [] wo wb := by rw [← hwb]; exact (Fr.refl [] wo).alloc _
      have hbk : Blk wb H 54 #[.int .u8 a.kind, .int .i64 a.side, .int .i64 a.n, .slice a.at_ a.bs.length a.cap] := by rw [← hwb, ← hH]; exact Blk.new wo 54 _
      have hd0 : wb.cell? ⟨H, 0, none⟩ = some (.int .u8 a.kind) := hbk.cell 0
      have hd1' : wb.cell? ⟨H, 1, none⟩ = some (.int .i64 a.side) := hbk.cell 1
      have hd2' : wb.cell? ⟨H, 2, none⟩ = some (.int .i64 a.n) := hbk.cell 2
      have hd3' : wb.cell? ⟨H, 3, none⟩ = some (.slice a.at_ a.bs.length a.cap) := hbk.cell 3
      have HRB := Lib.hid (HR.out.fr0 hfb)
      have HREFB := Lib.hid (HREF.out.fr0 hfb)
      have HFB := Lib.hid (HFR.out.trans hfb (by simp))
      have HXB := Lib.hid (HOK.out.1.fr hfb (by simp))
      have HBK := Lib.hid hbk
      have HWB := Lib.hid (And.intro hH hwb)
      have hbw : H < wb.heap.size := hbk.lt
      clear hfb hbk hH hwb hvl
      have hHlo : B ≤ H ∧ w.heap.size ≤ H := by have := HWB.out.1; omega
      have HRH : Hid (∀ x ∈ RL p r b, x ∉ VL q v ∧ x ≠ H ∧ x < H) := Lib.hid (fun x hx => by
        have h1 := HRL.out x hx
        exact ⟨fun hm => by have := HVL.out x hm; omega, by omega, by omega⟩)
      have HVH : Hid (∀ x ∈ VL q v, x ∉ RL p r b ∧ x ≠ H ∧ w.heap.size ≤ x) := Lib.hid (fun x hx => by
        have h1 := HVL.out x hx
        exact ⟨fun hm => by have := HRL.out x hm; omega, by omega, by omega⟩)
      go_upto_region 11 with fail
      rw [HWB.out.2, HWB.out.1]
      go_upto_block 2 with fail
      go_cut [10] from 50 to 174 (fun s10 wc => s10 = .pointer (some ⟨H, 0, none⟩) ∧ ∃ (T : Sta) (v' : Nat → Value), RelS wc p r b N T ∧ RfS wc q B N v' T ∧ Fr [] w wc)
      case first =>
        rcases (by omega : (a.kind % 6 = 0 ∨ a.kind % 6 = 1) ∨ (a.kind % 6 = 2 ∨ a.kind % 6 = 3) ∨ a.kind % 6 = 4 ∨ a.kind % 6 = 5) with h01 | h23 | hk6 | hk6
        case inl =>
          obtain ⟨n, hn⟩ : ∃ n, min a.bs.length (wantsZ N S a.side) = n := ⟨_, rfl⟩
          obtain ⟨T, hT⟩ : ∃ T, putSZ N S a.side a.bs = T := ⟨_, rfl⟩
          have hcp := copy_calls a.bs.length a.bs a.at_ a.cap wb rfl (HXB.out.imp (fun _ _ _ => trivial)) (by omega)
          have HCP := Lib.hid hcp
          have HN := Lib.hid hn
          have HTT := Lib.hid hT
          clear hcp hn hT
          rcases h01 with hk6 | hk6
          all_goals
            go_wp2_with fail
            refine HCP.out.mono ?_
            rintro e w2 ⟨u, rfl, ho, hf2⟩
            obtain ⟨A1, c1', rfl, hl1, hb1, hc1, hcm1⟩ := own_form ho
            have HL := Lib.hid (own_loose ho)
            have hgl : ∀ x ∈ (Value.slice A1 a.bs.length c1').ownBlock.toList, wb.heap.size ≤ x ∧ x < w2.heap.size := fun x hx => ⟨own_ge ho (by simpa using hx), own_lt ho (by simpa using hx)⟩
            have HGL := Lib.hid hgl
            have hz2 := hf2.size
            have hfd : Fr [] wb w2.drew := hf2.drew
            have hcm1' : c1' ≤ 9223372036854775807 := by simp only [maxLen] at hcm1; omega
            have HKD := Lib.hid (hfd.blk HBK.out (by simp))
            have hC0 : w2.cell? ⟨H, 1, none⟩ = some (.int .i64 a.side) := blk4_1 (hf2.blk HBK.out (by simp))
            have hC0' : w2.cell? ⟨H, 3, none⟩ = some (.slice a.at_ a.bs.length a.cap) := blk4_3 (hf2.blk HBK.out (by simp))
            have hC1 : w2.drew.cell? ⟨H, 1, none⟩ = some (.int .i64 a.side) := hC0
            have hC1' : w2.drew.cell? ⟨H, 3, none⟩ = some (.slice a.at_ a.bs.length a.cap) := hC0'
            have hb1d : BytesAt w2.drew A1 a.bs (wb.heap.size ≤ ·) := hb1.fr ((Fr.refl [] w2).drew) (by simp)
            have hpt := iz_put p N r b S w2.drew a.side a.bs A1 c1' (HRB.out.fr0 hfd) (hb1d.imp (fun g _ hg hm => by have := (HRH.out g hm).2.2; omega)) HOK.out.2.1 hc1 hcm1'
            have hpt2 := fun W h1 h2 => fz_put q B N v S W a.side a.bs a.at_ a.cap h1 (by omega) h2 (by omega)
            rw [HN.out, HTT.out] at hpt
            rw [HN.out, HTT.out] at hpt2
            have HPT := Lib.hid hpt
            have HPT2 := Lib.hid hpt2
            have HB1 := Lib.hid hb1d
            have HFD := Lib.hid hfd
            clear ho hl1 hb1 hb1d hf2 hfd hpt hpt2 hgl hcm1
            go_wp2_with fail
            go_region_held3 (fun w' => w'.cell? ⟨H, 1, none⟩ = some (.int .i64 a.side) ∧ w'.cell? ⟨H, 3, none⟩ = some (.slice a.at_ a.bs.length a.cap)) (first | exact ⟨hC1, hC1'⟩ | exact ⟨hC2, hC2'⟩ | exact ⟨hC3, hC3'⟩ | exact ⟨hC4, hC4'⟩) (first
              | (go_at_call 31; (with_reducible refine HPT.out.mono ?_); rintro e w3 ⟨rfl, hR3, hf3⟩; have HR3 := Lib.hid hR3; have HG3 := Lib.hid hf3; have HF3 := Lib.hid ((HFD.out.mono (L := RL p r b) (by simp)).trans hf3 (fun x hx => .inl hx)); have HK3 := Lib.hid (HF3.out.blk HBK.out (fun hm => (HRH.out H hm).2.1 rfl)); have hC2 : w3.cell? ⟨H, 1, none⟩ = some (.int .i64 a.side) := blk4_1 HK3.out; have hC2' : w3.cell? ⟨H, 3, none⟩ = some (.slice a.at_ a.bs.length a.cap) := blk4_3 HK3.out; clear hR3 hf3)
              | (go_at_call 39; (with_reducible refine (HPT2.out _ (HREFB.out.frV HF3.out (fun x hx => (HRH.out x hx).1)) ((HXB.out.fr HF3.out (fun g hg _ hm => by have := HRL.out g hm; omega)).imp (fun g _ hg hm => by have := (HVH.out g hm).2.2; omega))).mono ?_); rintro e w4 ⟨rfl, v4, hR4, hN4, hf4⟩; have HR4 := Lib.hid hR4; have HNV := Lib.hid hN4; have HF4 := Lib.hid hf4; have HK4 := Lib.hid (hf4.blk HK3.out (fun hm => (HVH.out H hm).2.1 rfl)); have hC3 : w4.cell? ⟨H, 1, none⟩ = some (.int .i64 a.side) := blk4_1 HK4.out; have hC3' : w4.cell? ⟨H, 3, none⟩ = some (.slice a.at_ a.bs.length a.cap) := blk4_3 HK4.out; have HX4 := Lib.hid (((HXB.out.fr HF3.out (fun g hg _ hm => by have := HRL.out g hm; omega)).fr hf4 (fun g hg _ hm => by have := (HVH.out g hm).2.2; omega)).imp (ok' := fun _ => True) (fun _ _ _ => trivial)); have HY4 := Lib.hid (((HB1.out.fr HG3.out (fun g hg _ hm => by have := (HRH.out g hm).2.2; omega)).fr hf4 (fun g hg _ hm => by have := HVL.out g hm; omega)).imp (ok' := fun _ => True) (fun _ _ _ => trivial)); clear hR4 hN4 hf4)
              | (go_at_call 24; (with_reducible refine (same_self a.bs A1 a.at_ c1' a.cap w4 HY4.out HX4.out (by omega)).mono ?_); rintro e w5 ⟨rfl, hf5⟩; have HF5 := Lib.hid hf5; have hC4 : w5.cell? ⟨H, 1, none⟩ = some (.int .i64 a.side) := blk4_1 (hf5.blk HK4.out (by simp)); have hC4' : w5.cell? ⟨H, 3, none⟩ = some (.slice a.at_ a.bs.length a.cap) := blk4_3 (hf5.blk HK4.out (by simp)); clear hf5))
            have hz3 := HG3.out.size
            have hz2d : w2.drew.heap.size = w2.heap.size := rfl
            have hgv : ∀ x ∈ (Value.slice A1 a.bs.length c1').ownBlock.toList, x ∉ VL q v ∧ x ∉ VL q v4 := fun x hx => by
              have h1 := HGL.out x hx
              refine ⟨fun hm => by have := HVL.out x hm; omega, fun hm => ?_⟩
              rw [mem_VL] at hm
              rcases hm with hm | hm | hm
              · omega
              · rcases HNV.out 0 x (.inl rfl) hm with h | h
                · have := HVL.out x (mem_VL.2 (.inr (.inl h))); omega
                · omega
              · rcases HNV.out 1 x (.inr rfl) hm with h | h
                · have := HVL.out x (mem_VL.2 (.inr (.inr h))); omega
                · omega
            have HGV := Lib.hid hgv
            have HL5 := Lib.hid ((((HL.out.fr ((Fr.refl [] w2).drew) (by simp)).fr HG3.out (fun x hx hm => by have := HGL.out x hx; have := (HRH.out x hm).2.2; omega)).fr HF4.out (fun x hx => (hgv x hx).1)).fr HF5.out (by simp))
            have HR5 := Lib.hid ((HR3.out.frR HF4.out (fun x hx => (HVH.out x hx).1)).fr0 HF5.out)
            have HREF5 := Lib.hid (HR4.out.fr0 HF5.out)
            have HFW := Lib.hid (((HFB.out.trans HF3.out (fun x hx => .inr (HRL.out x hx).1)).trans HF4.out (fun x hx => .inr (HVH.out x hx).2.2)).trans HF5.out (by simp))
            clear HK4 HF4 HF5 HX4 HY4 HR3 HR4 HG3 HF3 HK3 HPT HPT2 HB1 HFD HKD hgv hC0 hC0' hC1 hC1' hC2 hC2' hC3 hC3' hC4 hC4' HL HNV
            go_wp2_with fail
            go_loopw [12] (fun i wr => ∃ m : Nat, m ≤ a.bs.length ∧ i = .int .i64 m ∧ Loose wr A1 a.bs.length (Value.slice A1 a.bs.length c1').ownBlock.toList ∧ Fr (Value.slice A1 a.bs.length c1').ownBlock.toList w5 wr) (fun i _ => a.bs.length - (intOf i).toNat)
            case atStart => exact ⟨0, by omega, rfl, HL5.out, Fr.refl _ _⟩
            case round =>
              obtain ⟨m, hm, rfl, hls, hlf⟩ := hrel
              by_cases hmj : m < a.bs.length
              · obtain ⟨g, hgA, hgm, hgc⟩ := hls (by omega)
                obtain ⟨⟨x, hx⟩, hfz⟩ := hgc m hmj
                have HLS := Lib.hid hls
                have HLF := Lib.hid hlf
                have HGM := Lib.hid (And.intro hgA hgm)
                clear hls hlf hgc hgm
                subst hgA
                go_wp2_with fail
                go_roundw
                case rel => exact ⟨m + 1, by omega, by go_num, HLS.out.setCell, HLF.out.setCell (.inl HGM.out.2) _⟩
                case measure => simp [intOf]; omega
              · obtain hme : m = a.bs.length := by omega
                subst hme
                have HLF := Lib.hid hlf
                clear hls hlf
                go_wp2_with fail
                go_meet
                exact ⟨rfl, T, v4, HR5.out.frR HLF.out (fun x hx hm => by have := HGL.out x hx; have := HRL.out x hm; omega), HREF5.out.frV HLF.out (fun x hx => (HGV.out x hx).2), HFW.out.trans HLF.out (fun x hx => .inr (by have := HGL.out x hx; omega))⟩
        case inr.inl =>
          obtain ⟨j, hj⟩ : ∃ j, takeNZ S a.side a.n = j := ⟨_, rfl⟩
          obtain ⟨xs, hxs⟩ : ∃ xs, takeXZ S a.side a.n = xs := ⟨_, rfl⟩
          obtain ⟨T, hT⟩ : ∃ T, takeSZ S a.side a.n = T := ⟨_, rfl⟩
          have hln := takeXZ_len S a.side a.n
          have htk := iz_take p N r b S wb a.side a.n HRB.out has han
          have htk2 := fun W hW => fz_take q B N v S W a.side a.n hW (by omega) han
          rw [hj, hxs, hT] at htk
          rw [hj, hxs, hT] at htk2
          rw [hj, hxs] at hln
          have HTK := Lib.hid htk
          have HTK2 := Lib.hid htk2
          have HLN := Lib.hid hln
          clear htk htk2 hj hxs hT hln
          rcases h23 with hk6 | hk6
          all_goals
            go_wp2_with fail
            refine HTK.out.mono ?_
            rintro e w2 ⟨u, rfl, ho, hR2, hf2⟩
            obtain ⟨A1, c1', rfl, _, hb1, hc1, hcm1⟩ := own_form ho
            have HL := Lib.hid (own_loose ho)
            have hgl : ∀ x ∈ (Value.slice A1 j c1').ownBlock.toList, wb.heap.size ≤ x ∧ x < w2.heap.size := fun x hx => ⟨own_ge ho (by simpa using hx), own_lt ho (by simpa using hx)⟩
            have HGL := Lib.hid hgl
            have HB1 := Lib.hid hb1
            have hbk2 := hf2.blk HBK.out (fun hm => (HRH.out H hm).2.1 rfl)
            have hC1 : w2.cell? ⟨H, 1, none⟩ = some (.int .i64 a.side) := blk4_1 hbk2
            have hC2 : w2.cell? ⟨H, 2, none⟩ = some (.int .i64 a.n) := blk4_2 hbk2
            have HR2 := Lib.hid hR2
            have HREF2 := Lib.hid (HREFB.out.frV hf2 (fun x hx => (HRH.out x hx).1))
            have HF2 := Lib.hid (HFB.out.trans hf2 (fun x hx => .inr (HRL.out x hx).1))
            have hz2 := hf2.size
            have hjm : j ≤ 9223372036854775807 := by simp only [maxLen] at hcm1; omega
            clear ho hb1 hR2 hf2 hgl hc1 hcm1 hbk2
            go_wp2_with fail
            refine (HTK2.out _ HREF2.out).mono ?_
            rintro e w3 ⟨u, rfl, ho, v3, hR3, hN3, hf3⟩
            obtain ⟨A2, c2', rfl, _, hb2, hc2', hcm2⟩ := own_form ho
            have HB2 := Lib.hid (hb2.imp (ok' := fun _ => True) (fun _ _ _ => trivial))
            have hgv : ∀ x ∈ (Value.slice A1 j c1').ownBlock.toList, x ∉ VL q v ∧ x ∉ VL q v3 := fun x hx => by
              have h1 := HGL.out x hx
              refine ⟨fun hm => by have := HVL.out x hm; omega, fun hm => ?_⟩
              rw [mem_VL] at hm
              rcases hm with hm | hm | hm
              · omega
              · rcases hN3 0 x (.inl rfl) hm with h | h
                · have := HVL.out x (mem_VL.2 (.inr (.inl h))); omega
                · omega
              · rcases hN3 1 x (.inr rfl) hm with h | h
                · have := HVL.out x (mem_VL.2 (.inr (.inr h))); omega
                · omega
            have HGV := Lib.hid hgv
            have HB1' := Lib.hid ((HB1.out.fr hf3 (fun b hb _ hm => by have := HVL.out b hm; omega)).imp (ok' := fun _ => True) (fun _ _ _ => trivial))
            have HL3 := Lib.hid (HL.out.fr hf3 (fun x hx => (hgv x hx).1))
            have HR3 := Lib.hid (HR2.out.frR hf3 (fun x hx => (HVH.out x hx).1))
            have HREF3 := Lib.hid hR3
            have HF3 := Lib.hid (HF2.out.trans hf3 (fun x hx => .inr (HVH.out x hx).2.2))
            have hz3 := hf3.size
            clear ho hb2 hR3 hN3 hf3 hgv hc2' hcm2 hC1 hC2
            go_wp2_with fail
            refine (same_len j xs A1 A2 c1' c2' w3 HLN.out HB1'.out HB2.out (by rw [HLN.out]; exact hjm)).mono ?_
            rintro e w4 ⟨rfl, hf4⟩
            have HL4 := Lib.hid (HL3.out.fr hf4 (by simp))
            have HR4 := Lib.hid (HR3.out.fr0 hf4)
            have HREF4 := Lib.hid (HREF3.out.fr0 hf4)
            have HF4 := Lib.hid (HF3.out.trans hf4 (by simp))
            clear hf4 HL3 HR3 HREF3 HF3 HB1' HB2 HB1 HTK HTK2
            go_wp2_with fail
            go_loopw [14] (fun i wr => ∃ m : Nat, m ≤ j ∧ i = .int .i64 m ∧ Loose wr A1 j (Value.slice A1 j c1').ownBlock.toList ∧ Fr (Value.slice A1 j c1').ownBlock.toList w4 wr) (fun i _ => j - (intOf i).toNat)
            case atStart => exact ⟨0, by omega, rfl, HL4.out, Fr.refl _ _⟩
            case round =>
              obtain ⟨m, hm, rfl, hls, hlf⟩ := hrel
              by_cases hmj : m < j
              · obtain ⟨g, hgA, hgm, hgc⟩ := hls (by omega)
                obtain ⟨⟨x, hx⟩, hfz⟩ := hgc m hmj
                have HLS := Lib.hid hls
                have HLF := Lib.hid hlf
                have HGM := Lib.hid (And.intro hgA hgm)
                clear hls hlf hgc hgm
                subst hgA
                go_wp2_with fail
                go_roundw
                case rel => exact ⟨m + 1, by omega, by go_num, HLS.out.setCell, HLF.out.setCell (.inl HGM.out.2) _⟩
                case measure => simp [intOf]; omega
              · obtain rfl : m = j := by omega
                have HLF := Lib.hid hlf
                clear hls hlf
                go_wp2_with fail
                go_meet
                exact ⟨rfl, T, v3, HR4.out.frR HLF.out (fun x hx hm => by have := HGL.out x hx; have := HRL.out x hm; omega), HREF4.out.frV HLF.out (fun x hx => (HGV.out x hx).2), HF4.out.trans HLF.out (fun x hx => .inr (by have := HGL.out x hx; omega))⟩
        case inr.inr.inl =>
          have hC1 : wb.drew.cell? ⟨H, 1, none⟩ = some (.int .i64 a.side) := hd1'
          have hD : Fr [] wb wb.drew := (Fr.refl [] wb).drew
          have hsk1 := iz_end p N r b S wb.drew a.side (HRB.out.fr0 hD)
          have hsk2 := fun W hW => fz_end q B N v S W a.side hW
          obtain ⟨sr, hsr⟩ : ∃ sr, endZ S a.side = sr := ⟨_, rfl⟩
          obtain ⟨T, hT⟩ : ∃ T, endSZ S a.side = T := ⟨_, rfl⟩
          rw [hsr, hT] at hsk1
          rw [hsr, hT] at hsk2
          have HTK1 := Lib.hid hsk1
          have HTK2 := Lib.hid hsk2
          have HD := Lib.hid hD
          clear hsk1 hsk2 hsr hT hD
          go_wp2_with fail
          go_region_held3 (fun w' => w'.cell? ⟨H, 1, none⟩ = some (.int .i64 a.side)) (first | exact hC1 | exact hC2 | exact hC3) (first
            | (go_at_call 32; (with_reducible refine HTK1.out.mono ?_); rintro e w2 ⟨rfl, hR2, hf2⟩; have HR2 := Lib.hid hR2; have HF2 := Lib.hid ((HD.out.mono (L := RL p r b) (by simp)).trans hf2 (fun x hx => .inl hx)); have HK2 := Lib.hid (HF2.out.blk HBK.out (fun hm => (HRH.out H hm).2.1 rfl)); have hC2 : w2.cell? ⟨H, 1, none⟩ = some (.int .i64 a.side) := blk4_1 HK2.out; clear hR2 hf2)
            | (go_at_call 41; (with_reducible refine (HTK2.out _ (HREFB.out.frV HF2.out (fun x hx => (HRH.out x hx).1))).mono ?_); rintro e w3 ⟨rfl, v3, hR3, hN3, hf3⟩; have HR3 := Lib.hid hR3; have HF3 := Lib.hid hf3; have hC3 : w3.cell? ⟨H, 1, none⟩ = some (.int .i64 a.side) := blk4_1 (hf3.blk HK2.out (fun hm => (HVH.out H hm).2.1 rfl)); clear hR3 hf3 hN3))
          go_wp2_with fail
          go_meet
          exact ⟨rfl, T, v3, HR2.out.frR HF3.out (fun x hx => (HVH.out x hx).1), HR3.out, (HFB.out.trans HF2.out (fun x hx => .inr (HRL.out x hx).1)).trans HF3.out (fun x hx => .inr (HVH.out x hx).2.2)⟩
        case inr.inr.inr =>
          have hC1 : wb.drew.cell? ⟨H, 1, none⟩ = some (.int .i64 a.side) := hd1'
          have hD : Fr [] wb wb.drew := (Fr.refl [] wb).drew
          have hsk1 := iz_shut p N r b S wb.drew a.side (HRB.out.fr0 hD) has
          have hsk2 := fun W hW => fz_shut q B N v S W a.side hW (by omega)
          obtain ⟨sr, hsr⟩ : ∃ sr, shutZ S a.side = sr := ⟨_, rfl⟩
          obtain ⟨T, hT⟩ : ∃ T, shutSZ S a.side = T := ⟨_, rfl⟩
          rw [hsr, hT] at hsk1
          rw [hsr, hT] at hsk2
          have HTK1 := Lib.hid hsk1
          have HTK2 := Lib.hid hsk2
          have HD := Lib.hid hD
          clear hsk1 hsk2 hsr hT hD
          go_wp2_with fail
          go_region_held3 (fun w' => w'.cell? ⟨H, 1, none⟩ = some (.int .i64 a.side)) (first | exact hC1 | exact hC2 | exact hC3) (first
            | (go_at_call 35; (with_reducible refine HTK1.out.mono ?_); rintro e w2 ⟨rfl, hR2, hf2⟩; have HR2 := Lib.hid hR2; have HF2 := Lib.hid ((HD.out.mono (L := RL p r b) (by simp)).trans hf2 (fun x hx => .inl hx)); have HK2 := Lib.hid (HF2.out.blk HBK.out (fun hm => (HRH.out H hm).2.1 rfl)); have hC2 : w2.cell? ⟨H, 1, none⟩ = some (.int .i64 a.side) := blk4_1 HK2.out; clear hR2 hf2)
            | (go_at_call 42; (with_reducible refine (HTK2.out _ (HREFB.out.frV HF2.out (fun x hx => (HRH.out x hx).1))).mono ?_); rintro e w3 ⟨rfl, v3, hR3, hN3, hf3⟩; have HR3 := Lib.hid hR3; have HF3 := Lib.hid hf3; have hC3 : w3.cell? ⟨H, 1, none⟩ = some (.int .i64 a.side) := blk4_1 (hf3.blk HK2.out (fun hm => (HVH.out H hm).2.1 rfl)); clear hR3 hf3 hN3))
          go_wp2_with fail
          go_meet
          exact ⟨rfl, T, v3, HR2.out.frR HF3.out (fun x hx => (HVH.out x hx).1), HR3.out, (HFB.out.trans HF2.out (fun x hx => .inr (HRL.out x hx).1)).trans HF3.out (fun x hx => .inr (HVH.out x hx).2.2)⟩
      case rest =>
        obtain ⟨rfl, T, v', hRc, hRefc, hfc⟩ := hcut
        have HRC := Lib.hid hRc
        have HREFC := Lib.hid hRefc
        have HFC := Lib.hid hfc
        clear hRc hRefc hfc HR HREF HFR HRB HREFB HFB HBK HWB HOK HXB HRH HVH HVL hd0 hd1' hd2' hd3' hbw c0 c1 c2 c3
        go_wp2_with fail
        go_loopw [15] (fun s15 wr => ∃ z : Int, -1 ≤ z ∧ z ≤ 3 ∧ s15 = .int .i64 z ∧ Fr [] wc wr) (fun s15 _ => (3 - intOf s15).toNat)
        case atStart => exact ⟨-1, by omega, by omega, rfl, Fr.refl _ _⟩
        case round =>
          obtain ⟨z, hz1, hz2, rfl, hfz⟩ := hrel
          have HFZ := Lib.hid hfz
          clear hfz
          by_cases hz : z ≤ 2
          · have hd : decide (z ≤ 2) = true := by simp [hz]
            have hi1 := iz_wants p N r b T wr z (HRC.out.fr0 HFZ.out)
            have hi2 := fz_wants q B N v' T wr z (HREFC.out.fr0 HFZ.out) (by omega)
            obtain ⟨m1, hm1⟩ : ∃ m1, wantsZ N T z = m1 := ⟨_, rfl⟩
            obtain ⟨m2, hm2⟩ : ∃ m2, waitsZ T z = m2 := ⟨_, rfl⟩
            rw [hm1] at hi1
            rw [hm1] at hi2
            have HI1 := Lib.hid hi1
            have HI2 := Lib.hid hi2
            have HI3 := Lib.hid (fun W hW => hm2 ▸ iz_waits p N r b T W z hW (by omega))
            have HI4 := Lib.hid (fun W hW => hm2 ▸ fz_waits q B N v' T W z hW (by omega))
            clear hi1 hi2 hm1 hm2
            go_wp2_with fail
            refine HI1.out.mono ?_
            rintro e w3 ⟨rfl, rfl⟩
            go_wp2_with fail
            refine HI2.out.mono ?_
            rintro e w3 ⟨rfl, hf3⟩
            have HF3 := Lib.hid (HFZ.out.trans hf3 (by simp))
            clear hf3
            go_wp2_with fail
            refine (HI3.out _ (HRC.out.fr0 HF3.out)).mono ?_
            rintro e w4 ⟨rfl, rfl⟩
            go_wp2_with fail
            refine (HI4.out _ (HREFC.out.fr0 HF3.out)).mono ?_
            rintro e w4 ⟨rfl, rfl⟩
            go_wp2_with fail
            go_roundw
            case rel => exact ⟨z + 1, by omega, by omega, by go_num, HF3.out⟩
            case measure => simp [intOf]; omega
          · have hd : decide (z ≤ 2) = false := by simp; omega
            obtain ⟨o, ho⟩ : ∃ o, overB T = o := ⟨_, rfl⟩
            have hi1 := rover_calls p N r b T wr (HRC.out.fr0 HFZ.out)
            have hi2 := rfover_calls q B N v' T wr (HREFC.out.fr0 HFZ.out)
            rw [ho] at hi1
            rw [ho] at hi2
            have HI1 := Lib.hid hi1
            have HI2 := Lib.hid hi2
            clear hi1 hi2 ho
            go_wp2_with fail
            refine HI1.out.mono ?_
            rintro e w3 ⟨rfl, rfl⟩
            go_wp2_with fail
            refine HI2.out.mono ?_
            rintro e w3 ⟨rfl, rfl⟩
            go_wp2_with fail
            go_roundg (l.length - (k + 1))
            case measure => omega
            case rel => exact ⟨k + 1, T, v', by omega, rfl, by go_num, HRC.out.fr0 HFZ.out, HREFC.out.fr0 HFZ.out, HFC.out.trans HFZ.out (by simp)⟩
    · obtain rfl : k = l.length := by omega
      have HF := Lib.hid hfr
      clear hfr
      go_wp2_with fail
      go_ret
      exact ⟨rfl, HF.out⟩

end Go.Proofs.Ytokdcddmljfgnaa
