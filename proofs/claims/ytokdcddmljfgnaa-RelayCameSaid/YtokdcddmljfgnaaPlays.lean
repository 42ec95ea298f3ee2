/-
  RingPlays' walk.
-/
import Derived.Test.YtokdcddmljfgnaaRefPut
import Derived.Deep.RegionHeld3
import Derived.Deep.LoopGhost
import Derived.Deep.CutRange
import Derived.Deep.CutBlock
namespace Go.Proofs.Ytokdcddmljfgnaa
open Go.RowKit Go.Shelf
set_option linter.unusedVariables false

/-- n byte cells at A, in a block of L, that may be written. -/
def Loose (w : World) (A : Option Addr) (n : Nat) (L : List Nat) : Prop :=
  0 < n → ∃ g, A = some ⟨g, 0, none⟩ ∧ g ∈ L ∧ ∀ k, k < n → (∃ x, w.cell? ⟨g, k, none⟩ = some (.int .u8 x)) ∧ w.frozen? ⟨g, k, none⟩ = false

theorem Loose.setCell {w : World} {g n k : Nat} {L : List Nat} {y : Int} (h : Loose w (some ⟨g, 0, none⟩) n L) : Loose (w.setCell ⟨g, k, none⟩ (.int .u8 y)) (some ⟨g, 0, none⟩) n L := fun hn => by
  obtain ⟨g', e, hm, hc⟩ := h hn
  cases e
  refine ⟨g, rfl, hm, fun j hj => ?_⟩
  obtain ⟨⟨x, hx⟩, hf⟩ := hc j hj
  refine ⟨?_, (World.frozen?_setCell _ _ _ _).trans hf⟩
  by_cases e : j = k
  · subst e; exact ⟨y, World.cell?_setCell_same _ _ _ hx⟩
  · exact ⟨x, (World.cell?_setCell_other _ _ _ _ (by intro h; simp at h <;> omega)).trans hx⟩

theorem own_loose {w : World} {base n c : Nat} {A : Option Addr} {xs : List Int} (h : w.ownsRow base 5 1 (.slice A n c) n (bcells xs)) : Loose w A n (Value.slice A n c).ownBlock.toList := fun hn => by
  have hl : xs.length = n := by have := h.1; simpa [bcells] using this
  rcases h.2 with ⟨h0, _⟩ | ⟨g, cap, cur, hv, hb, hg, hnc, hcm, hsz, htk⟩
  · cases h0; exact absurd hn (by omega)
  · cases hv
    refine ⟨g, rfl, by simp [Value.ownBlock], fun k hk => ⟨⟨xs.getD k 0, ?_⟩, by simp [World.frozen?, hg]⟩⟩
    rw [h.cellAt k (by omega)]
    simp [bcells, List.getElem?_eq_getElem (show k < xs.length by omega), List.getD_eq_getElem?_getD]

theorem Loose.fr {w w' : World} {A : Option Addr} {n : Nat} {L M : List Nat} (h : Loose w A n L) (hf : Fr M w w') (hd : ∀ x ∈ L, x ∉ M) : Loose w' A n L := fun hn => by
  obtain ⟨g, e, hm, hc⟩ := h hn
  refine ⟨g, e, hm, fun j hj => ?_⟩
  obtain ⟨⟨x, hx⟩, hz⟩ := hc j hj
  have hlt : g < w.heap.size := World.block_lt_of_cell? w _ hx
  exact ⟨⟨x, (hf.cell (p := ⟨g, j, none⟩) hlt (hd g hm)).trans hx⟩, (World.frozen?_of_block (a := ⟨g, j, none⟩) (hf.block g hlt (hd g hm))).trans hz⟩

theorem same_len (n : Nat) (xs : List Int) (A B : Option Addr) (c d : Nat) (w : World) (hn : xs.length = n) (hX : BytesAt w A xs (fun _ => True)) (hY : BytesAt w B xs (fun _ => True)) (hl : xs.length ≤ 9223372036854775807) :
    Calls Try.prog 24 #[.slice A n c, .slice B n d] w fun e w' => e = .returned (.bool true) ∧ Fr [] w w' := by
  subst hn
  exact same_self xs A B c d w hX hY hl

theorem blk3_1 {w : World} {g : Nat} {t : TypeId} {x y z : Value} (h : Blk w g t #[x, y, z]) : w.cell? ⟨g, 1, none⟩ = some y := h.cell 1
theorem blk3_2 {w : World} {g : Nat} {t : TypeId} {x y z : Value} (h : Blk w g t #[x, y, z]) : w.cell? ⟨g, 2, none⟩ = some z := h.cell 2
theorem blk2_1 {w : World} {g : Nat} {t : TypeId} {x y : Value} (h : Blk w g t #[x, y]) : w.cell? ⟨g, 1, none⟩ = some y := h.cell 1

set_option maxRecDepth 100000 in
set_option maxHeartbeats 4000000 in
theorem plays_good (N : Nat) (l : List ActD) (A : Option Addr) (cl : Nat) (w : World) (hX : Acts w w.heap.size A l) (hl : l.length ≤ 9223372036854775807) (hN1 : 1 ≤ N ∧ N ≤ 4096) (hgr : greatB l = false) :
    Calls Try.prog 4 #[.int .i64 N, .slice A l.length cl] w fun e w' => e = .returned (.bool true) ∧ Fr [] w w' := by
  have HX := Lib.hid hX
  have hlen : l.length ≤ 100 := by simp [greatB] at hgr; omega
  have hbl : ∀ a ∈ l, a.bs.length ≤ 300 := by
    intro a ha
    simp [greatB] at hgr
    exact hgr.2 a ha
  have HBL := Lib.hid hbl
  have hgc := great_calls A cl l _ w hX hl
  rw [hgr] at hgc
  have HGC := Lib.hid hgc
  clear hX hbl hgr hgc
  go_enter Try.func4, Try.ntmps4
  go_wp2_with fail
  refine HGC.out.mono ?_
  rintro e wa ⟨rfl, rfl⟩
  obtain ⟨bb, hb1⟩ : ∃ b1, w.heap.size = b1 := ⟨_, rfl⟩
  obtain ⟨rb, hr1⟩ : ∃ r1, w.heap.size + 1 = r1 := ⟨_, rfl⟩
  have hn1 := new_good N w (by omega) (by omega)
  rw [hr1, hb1] at hn1
  have hlo : w.heap.size ≤ rb ∧ w.heap.size ≤ bb ∧ rb ≤ w.heap.size + 1 ∧ bb ≤ w.heap.size := by omega
  have HN1 := Lib.hid hn1
  clear hn1 hb1 hr1
  go_wp2_with fail
  refine HN1.out.mono ?_
  rintro e w1 ⟨rfl, hR1, hf1, hz1⟩
  obtain ⟨q, hq⟩ : ∃ q, w1.heap.size = q := ⟨_, rfl⟩
  have hlo2 : rb < q ∧ bb < q ∧ w.heap.size ≤ q := by omega
  have hn2 := rnew_good N w1 (by omega) (by omega)
  rw [hq] at hn2
  have HN2 := Lib.hid hn2
  have HQ := Lib.hid hq
  have HR1 := Lib.hid hR1
  have HF1 := Lib.hid hf1
  clear hn2 hq hR1 hf1 hz1
  go_wp2_with fail
  refine HN2.out.mono ?_
  rintro e w2 ⟨rfl, hw2⟩
  have hf2 : Fr [] w1 w2 := by rw [hw2]; exact (Fr.refl [] w1).alloc _
  have hBq : Blk w2 q 46 #[.int .i64 N, .slice none 0 0] := by rw [hw2, ← HQ.out]; exact Blk.new w1 46 _
  have hz2 : w2.heap.size = q + 1 := by rw [hw2, ← HQ.out]; simp
  obtain ⟨B, hB⟩ : ∃ B, w2.heap.size = B := ⟨_, rfl⟩
  have hqB : q < B := by omega
  have HINI := Lib.hid (And.intro (HR1.out.fr hf2 (by simp) (by simp)) (And.intro (show RefR w2 q B N [] from ⟨_, hBq, World.ownsRow_nil _ _ _ _, hqB, by omega⟩) (HF1.out.trans hf2 (by simp))))
  clear hw2 hBq hz2 hf2 HR1 HF1 HQ HN2 HN1 hB
  go_wp2_with fail
  go_loopg [9] l.length (fun g i wr => ∃ (k : Nat) (xs : List Int), k ≤ l.length ∧ g = l.length - k ∧ i = .int .i64 k ∧ RingS wr rb bb N xs ∧ RefR wr q B N xs ∧ Fr [] w wr)
  case atStart => exact ⟨0, [], by omega, rfl, rfl, HINI.out.1, HINI.out.2.1, HINI.out.2.2⟩
  case round =>
    obtain ⟨wo, rfl⟩ : ∃ wo : World, wo = wr := ⟨_, rfl⟩
    obtain ⟨k, xs, hk, rfl, rfl, hR, hRef, hfr⟩ := hrel
    clear HINI
    by_cases hlt : k < l.length
    · obtain ⟨a, ha⟩ : ∃ a, l[k]? = some a := ⟨_, List.getElem?_eq_getElem hlt⟩
      have hacts := HX.out.fr hfr (Nat.le_refl _) (by simp)
      obtain ⟨ab, off, rfl, hab, hcell⟩ := hacts.1 (by omega)
      obtain ⟨c0, c1, c2⟩ := hcell k a ha
      have hok := hacts.2 a (List.mem_of_getElem? ha)
      have hbl := HBL.out a (List.mem_of_getElem? ha)
      have hkd := hok.2.2.1
      have hkd2 := hok.2.2.2.1
      have han := And.intro hok.2.2.2.2.1 hok.2.2.2.2.2.1
      have hac := And.intro hok.2.2.2.2.2.2.1 hok.2.2.2.2.2.2.2
      have hxl := hR.lt
      have hqw : B ≤ wo.heap.size := by obtain ⟨v, _, _, _, h⟩ := hRef; exact h
      have HR := Lib.hid hR
      have HREF := Lib.hid hRef
      have HFR := Lib.hid hfr
      have HOK := Lib.hid hok
      clear hok hcell hacts ha hR hRef hfr
      obtain ⟨H, hH⟩ : ∃ H, wo.heap.size = H := ⟨_, rfl⟩
      obtain ⟨wb, hwb⟩ : ∃ wb, wo.alloc (.cells #[.int .u8 a.kind, .int .i64 a.n, .slice a.at_ a.bs.length a.cap] 24) = wb := ⟨_, rfl⟩
      have hfb : Fr [] wo wb := by rw [← hwb]; exact (Fr.refl [] wo).alloc _
      have hbk : Blk wb H 24 #[.int .u8 a.kind, .int .i64 a.n, .slice a.at_ a.bs.length a.cap] := by rw [← hwb, ← hH]; exact Blk.new wo 24 _
      have hd0 : wb.cell? ⟨H, 0, none⟩ = some (.int .u8 a.kind) := hbk.cell 0
      have hd1' : wb.cell? ⟨H, 1, none⟩ = some (.int .i64 a.n) := hbk.cell 1
      have hd2' : wb.cell? ⟨H, 2, none⟩ = some (.slice a.at_ a.bs.length a.cap) := hbk.cell 2
      have HRB := Lib.hid (HR.out.fr hfb (by simp) (by simp))
      have HREFB := Lib.hid (HREF.out.fr hfb (by simp))
      have HFB := Lib.hid hfb
      have HBK := Lib.hid hbk
      have HWB := Lib.hid (And.intro hH hwb)
      have hbw : H < wb.heap.size := hbk.lt
      clear hfb hbk hH hwb
      have hHlo : B ≤ H ∧ w.heap.size ≤ H := by have := HWB.out.1; omega
      go_upto_region 11 with fail
      rw [HWB.out.2, HWB.out.1]
      go_upto_block 2 with fail
      go_cut [10] from 51 to 190 (fun s10 wc => s10 = .pointer (some ⟨H, 0, none⟩) ∧ ∃ ys : List Int, RingS wc rb bb N ys ∧ RefR wc q B N ys ∧ Fr [] w wc ∧ Blk wc H 24 #[.int .u8 a.kind, .int .i64 a.n, .slice a.at_ a.bs.length a.cap])
      case first =>
        rcases (by omega : (a.kind % 4 = 0 ∨ a.kind % 4 = 1) ∨ a.kind % 4 = 2 ∨ a.kind % 4 = 3) with h01 | hk4 | hk4
        case inl =>
          obtain ⟨n, hn⟩ : ∃ n, min a.bs.length (N - xs.length) = n := ⟨_, rfl⟩
          have hxn : n ≤ a.bs.length ∧ xs.length + n ≤ N := by omega
          have hcp := copy_calls a.bs.length a.bs a.at_ a.cap wb rfl ((HOK.out.1.fr HFB.out (by simp)).imp (fun _ _ _ => trivial)) (by omega)
          have HXB := Lib.hid (HOK.out.1.fr HFB.out (by simp))
          obtain ⟨v0, hBq0, hov0, _, _⟩ := HREF.out
          have hv0 : ∀ g, v0.ownBlock = some g → B ≤ g ∧ g < H := fun g hg => ⟨own_ge hov0 hg, by have := own_lt hov0 hg; have := HWB.out.1; omega⟩
          have HV0 := Lib.hid hv0
          have HBQ := Lib.hid (HFB.out.blk hBq0 (by simp))
          have HOV := Lib.hid (HFB.out.own hov0 (by simp))
          have HCP := Lib.hid hcp
          have HN := Lib.hid hn
          clear hBq0 hov0 hv0 hcp hn
          rcases h01 with hk4 | hk4
          all_goals
            go_wp2_with fail
            refine HCP.out.mono ?_
            rintro e w2 ⟨v, rfl, ho, hf2⟩
            obtain ⟨A1, c1, rfl, hl1, hb1, hc1, hcm1⟩ := own_form ho
            have HL := Lib.hid (own_loose ho)
            have hgl : ∀ x ∈ (Value.slice A1 a.bs.length c1).ownBlock.toList, wb.heap.size ≤ x ∧ x < w2.heap.size := fun x hx => ⟨own_ge ho (by simpa using hx), own_lt ho (by simpa using hx)⟩
            have HGL := Lib.hid hgl
            have hz2 := hf2.size
            have hfd : Fr [] wb w2.drew := hf2.drew
            have hcm1' : c1 ≤ 9223372036854775807 := by simp only [maxLen] at hcm1; omega
            have HKD := Lib.hid (hfd.blk HBK.out (by simp))
            have hC0 : w2.cell? ⟨H, 2, none⟩ = some (.slice a.at_ a.bs.length a.cap) := blk3_2 (hf2.blk HBK.out (by simp))
            have hC1 : w2.drew.cell? ⟨H, 2, none⟩ = some (.slice a.at_ a.bs.length a.cap) := hC0
            have hb1d : BytesAt w2.drew A1 a.bs (wb.heap.size ≤ ·) := hb1.fr ((Fr.refl [] w2).drew) (by simp)
            have hpt := put_calls rb bb N xs a.bs A1 c1 w2.drew (HRB.out.fr hfd (by simp) (by simp)) (hb1d.imp (fun b _ hb => by omega)) HOK.out.2.1 hc1 hcm1'
            have hpt2 := fun W h1 h2 h3 => rput_calls q B N v0 xs a.bs a.at_ a.cap W h1 h2 hqB h3 hN1.2 hxl.2.2.2.2.2
            rw [HN.out] at hpt
            rw [HN.out] at hpt2
            have HPT := Lib.hid hpt
            have HPT2 := Lib.hid hpt2
            have HB1 := Lib.hid hb1d
            have HFD := Lib.hid hfd
            clear ho hl1 hb1 hb1d hf2 hfd hpt hpt2 hgl hcm1
            go_wp2_with fail
            go_region_held3 (fun w' => w'.cell? ⟨H, 2, none⟩ = some (.slice a.at_ a.bs.length a.cap)) (first | exact hC1 | exact hC2 | exact hC3 | exact hC4) (first
              | (go_at_call 13; (with_reducible refine HPT.out.mono ?_); rintro e w3 ⟨rfl, hR3, hf3⟩; have HR3 := Lib.hid hR3; have HF3 := Lib.hid ((HFD.out.mono (L := [rb, bb]) (by simp)).trans hf3 (by simp)); have HG3 := Lib.hid hf3; have HK3 := Lib.hid (hf3.blk HKD.out (by simp; omega)); have hC2 : w3.cell? ⟨H, 2, none⟩ = some (.slice a.at_ a.bs.length a.cap) := blk3_2 HK3.out; clear hR3 hf3)
              | (go_at_call 23; (with_reducible refine (HPT2.out _ (HF3.out.blk HBQ.out (by simp; omega)) (HF3.out.own HOV.out (fun g hg hm => by have := HV0.out g hg; simp at hm; omega)) (by have := HF3.out.size; omega) ((HXB.out.fr HF3.out (fun b hb _ hm => by simp at hm; omega)).imp (fun b _ hb => ⟨by omega, fun hg => by have := HV0.out b hg; omega⟩)) (by omega)).mono ?_); rintro e w4 ⟨rfl, v4, hB4, ho4, hat4, hf4⟩; have HK4 := Lib.hid (hf4.blk HK3.out (by simp; exact ⟨by omega, fun h => by have := HV0.out H h; omega⟩)); have HB4 := Lib.hid hB4; have HO4 := Lib.hid ho4; have HAT4 := Lib.hid hat4; have HF4 := Lib.hid hf4; have hC3 : w4.cell? ⟨H, 2, none⟩ = some (.slice a.at_ a.bs.length a.cap) := blk3_2 HK4.out; have HX4 := Lib.hid ((((HXB.out.fr HF3.out (fun b hb _ hm => by simp at hm; omega)).fr hf4 (fun b hb _ hm => by simp at hm; rcases hm with hm | hm; omega; have := HV0.out b hm; omega)).imp (ok' := fun _ => True) (fun _ _ _ => trivial))); have HY4 := Lib.hid ((((HB1.out.fr HG3.out (fun b hb _ hm => by simp at hm; omega)).fr hf4 (fun b hb _ hm => by simp at hm; rcases hm with hm | hm; omega; have := HV0.out b hm; omega)).imp (ok' := fun _ => True) (fun _ _ _ => trivial))); clear hB4 ho4 hat4 hf4)
              | (go_at_call 24; (with_reducible refine (same_self a.bs A1 a.at_ c1 a.cap w4 HY4.out HX4.out (by omega)).mono ?_); rintro e w5 ⟨rfl, hf5⟩; have HF5 := Lib.hid hf5; have hC4 : w5.cell? ⟨H, 2, none⟩ = some (.slice a.at_ a.bs.length a.cap) := blk3_2 (hf5.blk HK4.out (by simp)); clear hf5))
            have hz3 := HG3.out.size
            have hz2d : w2.drew.heap.size = w2.heap.size := rfl
            have hLM : ∀ x ∈ (Value.slice A1 a.bs.length c1).ownBlock.toList, x ∉ (q :: v0.ownBlock.toList) := fun x hx hm => by
              have h1 := HGL.out x hx
              simp at hm
              rcases hm with hm | hm
              · omega
              · have := HV0.out x hm; omega
            have HL5 := Lib.hid ((((HL.out.fr ((Fr.refl [] w2).drew) (by simp)).fr HG3.out (fun x hx hm => by have := HGL.out x hx; simp at hm; omega)).fr HF4.out hLM).fr HF5.out (by simp))
            have HR5 := Lib.hid ((HR3.out.fr HF4.out (by simp; exact ⟨by omega, fun h => by have := HV0.out _ h; omega⟩) (by simp; exact ⟨by omega, fun h => by have := HV0.out _ h; omega⟩)).fr HF5.out (by simp) (by simp))
            have HBQ5 := Lib.hid (HF5.out.blk HB4.out (by simp))
            have HO5 := Lib.hid (HF5.out.own HO4.out (by simp))
            have HK5 := Lib.hid (HF5.out.blk HK4.out (by simp))
            have HFW := Lib.hid (((((HFR.out.trans HFB.out (by simp)).trans HF3.out (by simp; omega)).trans HF4.out (fun x hx => .inr (by simp at hx; rcases hx with hx | hx; omega; have := HV0.out x hx; omega))).trans HF5.out (by simp)))
            have hz5 := HF5.out.size
            have hz4 := HF4.out.size
            clear HK4 HF4 HF5 HB4 HO4 HX4 HY4 HR3 HG3 HF3 HK3 HPT HPT2 HB1 HFD HKD hLM hC0 hC1 hC2 hC3 hC4 HL
            go_wp2_with fail
            go_loopw [12] (fun i wr => ∃ m : Nat, m ≤ a.bs.length ∧ i = .int .i64 m ∧ Loose wr A1 a.bs.length (Value.slice A1 a.bs.length c1).ownBlock.toList ∧ Fr (Value.slice A1 a.bs.length c1).ownBlock.toList w5 wr) (fun i _ => a.bs.length - (intOf i).toNat)
            case atStart => exact ⟨0, by omega, rfl, HL5.out, Fr.refl _ _⟩
            case round =>
              obtain ⟨m, hm, rfl, hls, hlf⟩ := hrel
              by_cases hmj : m < a.bs.length
              · obtain ⟨g, hgA, hgm, hgc⟩ := hls (by omega)
                obtain ⟨⟨x, hx⟩, hfz⟩ := hgc m hmj
                have HLS := Lib.hid hls
                have HLF := Lib.hid hlf
                have HGM := Lib.hid (And.intro hgA hgm)
                clear hls hlf hgc hgm
                subst hgA
                go_wp2_with fail
                go_roundw
                case rel => exact ⟨m + 1, by omega, by go_num, HLS.out.setCell, HLF.out.setCell (.inl HGM.out.2) _⟩
                case measure => simp [intOf]; omega
              · obtain hme : m = a.bs.length := by omega
                subst hme
                have HLF := Lib.hid hlf
                clear hls hlf
                go_wp2_with fail
                go_meet
                refine ⟨rfl, xs ++ a.bs.take n, HR5.out.fr HLF.out (fun hm => by have := HGL.out _ hm; omega) (fun hm => by have := HGL.out _ hm; omega), ⟨v4, HLF.out.blk HBQ5.out (fun hm => by have := HGL.out _ hm; omega), HLF.out.own HO5.out (fun g hg hm => ?_), hqB, by have := HLF.out.size; omega⟩,
                  HFW.out.trans HLF.out (fun x hx => .inr (by have := HGL.out x hx; omega)), HLF.out.blk HK5.out (fun hm => by have := HGL.out _ hm; omega)⟩
                have h1 := HGL.out g hm
                rcases HAT4.out with h | ⟨g', h, h2⟩
                · rw [h] at hg; have := HV0.out g hg; omega
                · rw [h] at hg; cases hg; omega
        case inr.inl =>
          obtain ⟨j, hj⟩ : ∃ j, min a.n.toNat xs.length = j := ⟨_, rfl⟩
          have htk := take_calls rb bb N xs a.n wb HRB.out han
          have htk2 := fun W hW => rtake_calls q B N xs a.n W hW (by omega)
          rw [hj] at htk
          rw [hj] at htk2
          have HTK := Lib.hid htk
          have HTK2 := Lib.hid htk2
          clear htk htk2 hj
          go_wp2_with fail
          refine HTK.out.mono ?_
          rintro e w2 ⟨v, rfl, ho, hR2, hf2⟩
          obtain ⟨A1, c1, rfl, hl1, hb1, hc1, hcm1⟩ := own_form ho
          have HL := Lib.hid (own_loose ho)
          have hgl : ∀ x ∈ (Value.slice A1 j c1).ownBlock.toList, wb.heap.size ≤ x ∧ x < w2.heap.size := fun x hx => ⟨own_ge ho (by simpa using hx), own_lt ho (by simpa using hx)⟩
          have HGL := Lib.hid hgl
          have HB1 := Lib.hid hb1
          have HLN := Lib.hid hl1
          have HK2 := Lib.hid (hf2.blk HBK.out (by simp; omega))
          have hC2 : w2.cell? ⟨H, 1, none⟩ = some (.int .i64 a.n) := blk3_1 HK2.out
          have HR2 := Lib.hid hR2
          have HREF2 := Lib.hid (HREFB.out.fr hf2 (by simp; omega))
          have HF2 := Lib.hid ((HFR.out.trans HFB.out (by simp)).trans hf2 (by simp; omega))
          have hz2 := hf2.size
          have hjm : j ≤ 9223372036854775807 := by simp only [maxLen] at hcm1; omega
          clear ho hb1 hl1 hR2 hf2 hgl hc1 hcm1
          go_wp2_with fail
          refine (HTK2.out _ HREF2.out).mono ?_
          rintro e w3 ⟨v, rfl, ho, hR3, hf3⟩
          obtain ⟨A2, c2, rfl, hl2, hb2, hc2', hcm2⟩ := own_form ho
          have HB2 := Lib.hid (hb2.imp (ok' := fun _ => True) (fun _ _ _ => trivial))
          have HB1' := Lib.hid ((HB1.out.fr hf3 (fun b hb _ hm => by simp at hm; omega)).imp (ok' := fun _ => True) (fun _ _ _ => trivial))
          have HL3 := Lib.hid (HL.out.fr hf3 (fun x hx hm => by have := HGL.out x hx; simp at hm; omega))
          have HR3 := Lib.hid (HR2.out.fr hf3 (by simp; omega) (by simp; omega))
          have HREF3 := Lib.hid hR3
          have HK3 := Lib.hid (hf3.blk HK2.out (by simp; omega))
          have HF3 := Lib.hid (HF2.out.trans hf3 (by simp; omega))
          have hz3 := hf3.size
          clear ho hb2 hl2 hR3 hf3 hc2' hcm2 hC2
          go_wp2_with fail
          refine (same_len j (xs.take j) A1 A2 c1 c2 w3 HLN.out HB1'.out HB2.out (by rw [HLN.out]; exact hjm)).mono ?_
          rintro e w4 ⟨rfl, hf4⟩
          have HL4 := Lib.hid (HL3.out.fr hf4 (by simp))
          have HR4 := Lib.hid (HR3.out.fr hf4 (by simp) (by simp))
          have HREF4 := Lib.hid (HREF3.out.fr hf4 (by simp))
          have HK4 := Lib.hid (hf4.blk HK3.out (by simp))
          have HF4 := Lib.hid (HF3.out.trans hf4 (by simp))
          clear hf4 HL3 HR3 HREF3 HK3 HF3 HB1' HB2 HB1
          go_wp2_with fail
          go_loopw [14] (fun i wr => ∃ m : Nat, m ≤ j ∧ i = .int .i64 m ∧ Loose wr A1 j (Value.slice A1 j c1).ownBlock.toList ∧ Fr (Value.slice A1 j c1).ownBlock.toList w4 wr) (fun i _ => j - (intOf i).toNat)
          case atStart => exact ⟨0, by omega, rfl, HL4.out, Fr.refl _ _⟩
          case round =>
            obtain ⟨m, hm, rfl, hls, hlf⟩ := hrel
            by_cases hmj : m < j
            · obtain ⟨g, hgA, hgm, hgc⟩ := hls (by omega)
              obtain ⟨⟨x, hx⟩, hfz⟩ := hgc m hmj
              have HLS := Lib.hid hls
              have HLF := Lib.hid hlf
              have HGM := Lib.hid (And.intro hgA hgm)
              clear hls hlf hgc hgm
              subst hgA
              go_wp2_with fail
              go_roundw
              case rel => exact ⟨m + 1, by omega, by go_num, HLS.out.setCell, HLF.out.setCell (.inl HGM.out.2) _⟩
              case measure => simp [intOf]; omega
            · obtain rfl : m = j := by omega
              have HLF := Lib.hid hlf
              clear hls hlf
              go_wp2_with fail
              go_meet
              exact ⟨rfl, xs.drop m, HR4.out.fr HLF.out (fun hm => by have := HGL.out _ hm; omega) (fun hm => by have := HGL.out _ hm; omega),
                (HREF4.out.fr HLF.out (fun x hx => by have := HGL.out x hx; omega)).mono (by omega) (by omega),
                HF4.out.trans HLF.out (fun x hx => .inr (by have := HGL.out x hx; omega)), HLF.out.blk HK4.out (fun hm => by have := HGL.out _ hm; omega)⟩
        case inr.inr =>
          have hC1 : wb.drew.cell? ⟨H, 1, none⟩ = some (.int .i64 a.n) := hd1'
          have HFD := Lib.hid ((Fr.refl [] wb).drew)
          have hsk1 := skip_calls rb bb N xs a.n wb.drew (HRB.out.fr HFD.out (by simp) (by simp))
          have hsk2 := fun W hW => rskip_calls q B N xs a.n W hW (by omega)
          obtain ⟨sr, hsr⟩ : ∃ sr, skipR xs a.n = sr := ⟨_, rfl⟩
          obtain ⟨ys, hys⟩ : ∃ ys, skipL xs a.n = ys := ⟨_, rfl⟩
          rw [hsr, hys] at hsk1
          rw [hsr, hys] at hsk2
          have HTK1 := Lib.hid hsk1
          have HTK2 := Lib.hid hsk2
          clear hsk1 hsk2 hsr hys
          go_wp2_with fail
          go_region_held3 (fun w' => w'.cell? ⟨H, 1, none⟩ = some (.int .i64 a.n)) (first | exact hC1 | exact hC2 | exact hC3) (first
            | (go_at_call 16; (with_reducible refine HTK1.out.mono ?_); rintro e w2 ⟨rfl, hR2, hf2⟩; have HR2 := Lib.hid hR2; have HF2 := Lib.hid ((HFD.out.mono (L := [rb]) (by simp)).trans hf2 (by simp)); have HK2 := Lib.hid (HF2.out.blk HBK.out (by simp; omega)); have hC2 : w2.cell? ⟨H, 1, none⟩ = some (.int .i64 a.n) := blk3_1 HK2.out; clear hR2 hf2)
            | (go_at_call 26; (with_reducible refine (HTK2.out _ (HREFB.out.fr HF2.out (by simp; omega))).mono ?_); rintro e w3 ⟨rfl, hR3, hf3⟩; have HR3 := Lib.hid hR3; have HF3 := Lib.hid hf3; have HK3 := Lib.hid (hf3.blk HK2.out (by simp; omega)); have hC3 : w3.cell? ⟨H, 1, none⟩ = some (.int .i64 a.n) := blk3_1 HK3.out; clear hR3 hf3))
          go_wp2_with fail
          go_meet
          exact ⟨rfl, ys, HR2.out.fr HF3.out (by simp; omega) (by simp; omega), HR3.out, (((HFR.out.trans HFB.out (by simp)).trans HF2.out (by simp; omega)).trans HF3.out (by simp; omega)), HK3.out⟩
      case rest =>
        obtain ⟨rfl, ys, hRc, hRefc, hfc, hkc⟩ := hcut
        have hyl := hRc.lt
        have hC0 : wc.cell? ⟨H, 1, none⟩ = some (.int .i64 a.n) := blk3_1 hkc
        obtain ⟨j, hj⟩ : ∃ j, min a.n.toNat ys.length = j := ⟨_, rfl⟩
        have hpk := peek_calls rb bb N ys a.n wc hRc han
        have hpk2 := fun W hW => rpeek_calls q B N ys a.n W hW (by omega)
        rw [hj] at hpk
        rw [hj] at hpk2
        have HPK := Lib.hid hpk
        have HPK2 := Lib.hid hpk2
        have HRC := Lib.hid hRc
        have HREFC := Lib.hid hRefc
        have HFC := Lib.hid hfc
        have HKC := Lib.hid hkc
        have hBwc : B ≤ wc.heap.size ∧ q < wc.heap.size := by obtain ⟨v, _, _, h1, h2⟩ := hRefc; omega
        clear hpk hpk2 hj hRc hRefc hfc hkc HR HREF HFR HRB HREFB HFB HBK HWB HOK hd0 hd1' hd2' hbw c0 c1 c2
        go_wp2_with fail
        refine HPK.out.mono ?_
        rintro e w2 ⟨v, rfl, ho, hf2⟩
        obtain ⟨A1, c1, rfl, hl1, hb1, hc1, hcm1⟩ := own_form ho
        have HL := Lib.hid (own_loose ho)
        have hgl : ∀ x ∈ (Value.slice A1 j c1).ownBlock.toList, wc.heap.size ≤ x := fun x hx => own_ge ho (by simpa using hx)
        have HGL := Lib.hid hgl
        have HB1 := Lib.hid (hb1.imp (ok' := fun _ => True) (fun _ _ _ => trivial))
        have HLN := Lib.hid hl1
        have HF2 := Lib.hid hf2
        have hC2 : w2.cell? ⟨H, 1, none⟩ = some (.int .i64 a.n) := blk3_1 (hf2.blk HKC.out (by simp))
        have hjm : j ≤ 9223372036854775807 := by simp only [maxLen] at hcm1; omega
        clear ho hb1 hl1 hf2 hgl hcm1 hc1 hC0
        go_wp2_with fail
        refine (HPK2.out _ (HREFC.out.fr HF2.out (by simp))).mono ?_
        rintro e w3 ⟨v, rfl, ho, hf3⟩
        obtain ⟨A2, c2, rfl, hl2, hb2, hc2', hcm2⟩ := own_form ho
        have HB2 := Lib.hid (hb2.imp (ok' := fun _ => True) (fun _ _ _ => trivial))
        have HB1' := Lib.hid (HB1.out.fr hf3 (by simp))
        have HL3 := Lib.hid (HL.out.fr hf3 (by simp))
        have HF3 := Lib.hid (HF2.out.trans hf3 (by simp))
        clear ho hb2 hl2 hf3 hcm2 hc2' hC2
        go_wp2_with fail
        refine (same_len j (ys.take j) A1 A2 c1 c2 w3 HLN.out HB1'.out HB2.out (by rw [HLN.out]; exact hjm)).mono ?_
        rintro e w4 ⟨rfl, hf4⟩
        have HL4 := Lib.hid (HL3.out.fr hf4 (by simp))
        have HF4 := Lib.hid (HF3.out.trans hf4 (by simp))
        clear hf4 HL3 HF3 HB1' HB2 HB1 HL HF2 HPK HPK2
        go_wp2_with fail
        go_loopw [16] (fun i wr => ∃ m : Nat, m ≤ j ∧ i = .int .i64 m ∧ Loose wr A1 j (Value.slice A1 j c1).ownBlock.toList ∧ Fr (Value.slice A1 j c1).ownBlock.toList w4 wr) (fun i _ => j - (intOf i).toNat)
        case atStart => exact ⟨0, by omega, rfl, HL4.out, Fr.refl _ _⟩
        case round =>
          obtain ⟨m, hm, rfl, hls, hlf⟩ := hrel
          by_cases hmj : m < j
          · obtain ⟨g, hgA, hgm, hgc⟩ := hls (by omega)
            obtain ⟨⟨x, hx⟩, hfz⟩ := hgc m hmj
            have HLS := Lib.hid hls
            have HLF := Lib.hid hlf
            have HGM := Lib.hid (And.intro hgA hgm)
            clear hls hlf hgc hgm
            subst hgA
            go_wp2_with fail
            go_roundw
            case rel => exact ⟨m + 1, by omega, by go_num, HLS.out.setCell, HLF.out.setCell (.inl HGM.out.2) _⟩
            case measure => simp [intOf]; omega
          · obtain rfl : m = j := by omega
            have HFX := Lib.hid (HF4.out.trans hlf (fun x hx => .inr (HGL.out x hx)))
            clear hls hlf
            obtain ⟨v5, hB5, ho5, _, _⟩ := HREFC.out.fr HFX.out (by simp)
            obtain ⟨A5, c5, rfl, _, hb5, hc5, hcm5⟩ := own_form ho5
            have HB5 := Lib.hid (hb5.imp (ok' := fun _ => True) (fun _ _ _ => trivial))
            have HBQ := Lib.hid (((Fr.refl [] wr).drew).blk hB5 (by simp))
            have hC0 : wr.cell? ⟨q, 1, none⟩ = some (.slice A5 ys.length c5) := blk2_1 hB5
            have hC1 : wr.drew.cell? ⟨q, 1, none⟩ = some (.slice A5 ys.length c5) := hC0
            have HR5 := Lib.hid ((HRC.out.fr HFX.out (by simp) (by simp)).fr ((Fr.refl [] wr).drew) (by simp) (by simp))
            have hpk := peek_calls rb bb N ys N wr.drew HR5.out (by omega)
            rw [Int.toNat_natCast, Nat.min_eq_right hyl.2.2.2.2.2, List.take_length] at hpk
            have HPK := Lib.hid hpk
            have hsub : IntKind.i64.wrap ((N : Int) - ys.length) = (N : Int) - ys.length := IntWalk.i64_in _ (by omega)
            have hlm : ys.length ≤ 9223372036854775807 := by omega
            clear hB5 ho5 hb5 hpk hcm5
            go_wp2_with fail
            go_region_held3 (fun w' => w'.cell? ⟨q, 1, none⟩ = some (.slice A5 ys.length c5)) (first | exact hC1 | exact hC2 | exact hC3) (first
              | (go_at_call 14; (with_reducible refine HPK.out.mono ?_); rintro e w5 ⟨v, rfl, ho, hf5⟩; obtain ⟨P1, d1, rfl, _, hbp, _, _⟩ := own_form ho; have HP1 := Lib.hid (hbp.imp (ok' := fun _ => True) (fun _ _ _ => trivial)); have HF5 := Lib.hid hf5; have HQ5 := Lib.hid (hf5.blk HBQ.out (by simp)); have hC2 : w5.cell? ⟨q, 1, none⟩ = some (.slice A5 ys.length c5) := blk2_1 HQ5.out; clear ho hbp hf5)
              | (go_at_call 24; (with_reducible refine (same_self ys P1 A5 d1 c5 w5 HP1.out ((HB5.out.fr ((Fr.refl [] wr).drew) (by simp)).fr HF5.out (by simp)) hlm).mono ?_); rintro e w6 ⟨rfl, hf6⟩; have HF6 := Lib.hid hf6; have HR6 := Lib.hid ((HR5.out.fr HF5.out (by simp) (by simp)).fr hf6 (by simp) (by simp)); have hC3 : w6.cell? ⟨q, 1, none⟩ = some (.slice A5 ys.length c5) := blk2_1 (hf6.blk HQ5.out (by simp)); clear hf6)
              | (go_at_call 17; (with_reducible refine (len_calls _ N ys.length w6 HR6.out.rd).mono ?_); rintro e wt ⟨rfl, rfl⟩)
              | (go_at_call 18; (with_reducible refine (room_calls _ N ys.length w6 HR6.out.rd).mono ?_); rintro e wt ⟨rfl, rfl⟩)
              | (go_at_call 19; (with_reducible refine (size_calls _ N ys.length w6 HR6.out.rd).mono ?_); rintro e wt ⟨rfl, rfl⟩))
            have HFY := Lib.hid ((HFX.out.drew.trans HF5.out (by simp)).trans HF6.out (by simp))
            clear hsub hC0 hC1 hC2 hC3
            go_wp2_with fail
            go_roundg (l.length - (k + 1))
            case measure => omega
            case rel => exact ⟨k + 1, ys, by omega, rfl, by go_num, HRC.out.fr HFY.out (by simp) (by simp), HREFC.out.fr HFY.out (by simp), HFC.out.trans HFY.out (by simp)⟩
    · obtain rfl : k = l.length := by omega
      have HF := Lib.hid hfr
      clear hfr
      go_wp2_with fail
      go_ret
      exact ⟨rfl, HF.out⟩

end Go.Proofs.Ytokdcddmljfgnaa
