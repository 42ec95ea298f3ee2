/-
  RelayOnce's walk.
-/
import Derived.Test.YtokdcddmljfgnaaSides
import Derived.Test.YtokdcddmljfgnaaRPlays
namespace Go.Proofs.Ytokdcddmljfgnaa
open Go.RowKit Go.Shelf
set_option linter.unusedVariables false

/-- A side that was shut: the other one has ended, and nothing waits. -/
def Inv (S : Sta) : Prop := ∀ i, i = 0 ∨ i = 1 → S.t i = true → S.e (1 - i) = true ∧ S.x (1 - i) = []
theorem inv_zero : Inv sta0 := fun i _ h => by simp [sta0] at h
theorem inv_put {N i : Nat} {S : Sta} {bs : List Int} (h : Inv S) (hi : i = 0 ∨ i = 1) : Inv (putS N S i bs) := fun j hj ht => by
  have h1 := h j hj ht
  refine ⟨h1.1, ?_⟩
  by_cases e : 1 - j = i
  · subst e
    have : wn N S (1 - j) = 0 := wn_ended h1.1
    simp [putS, upd, this, h1.2]
  · simp [putS, upd, e, h1.2]
theorem inv_take {i : Nat} {S : Sta} {k : Int} (h : Inv S) : Inv (takeS S i k) := fun j hj ht => by
  have h1 := h j hj ht
  refine ⟨h1.1, ?_⟩
  by_cases e : 1 - j = 1 - i
  · rw [e] at h1 ⊢
    simp [takeS, upd, h1.2]
  · simp [takeS, upd, e, h1.2]
theorem inv_end {i : Nat} {S : Sta} (h : Inv S) : Inv (endS S i) := fun j hj ht => by
  have h1 := h j hj ht
  refine ⟨?_, h1.2⟩
  simp only [endS, upd]
  split
  · rfl
  · exact h1.1
theorem inv_shut {i : Nat} {S : Sta} (h : Inv S) : Inv (shutS S i) := fun j hj ht => by
  by_cases e : j = i
  · subst e
    rw [shutS] at ht
    simp only [upd_same, Bool.or_eq_true] at ht
    rcases ht with ht | ht
    · exact h j hj ht
    · simp [shutB] at ht
      exact ⟨ht.1.1, ht.1.2⟩
  · have : S.t j = true := by simpa [shutS, upd, e] using ht
    exact h j hj this

set_option maxRecDepth 100000 in
set_option maxHeartbeats 4000000 in
theorem once_good (N : Nat) (l : List ActR) (A : Option Addr) (cl : Nat) (w : World) (hX : ActsR w w.heap.size A l) (hl : l.length ≤ 9223372036854775807) (hN1 : 1 ≤ N ∧ N ≤ 256) (hgr : greatRB l = false) :
    Calls Try.prog 11 #[.int .i64 N, .slice A l.length cl] w fun e w' => e = .returned (.bool true) ∧ Fr [] w w' := by
  have HX := Lib.hid hX
  have hlen : l.length ≤ 120 := by simp [greatRB] at hgr; omega
  have hbl : ∀ a ∈ l, a.bs.length ≤ 400 := by
    intro a ha
    simp [greatRB] at hgr
    exact hgr.2 a ha
  have HBL := Lib.hid hbl
  have HGR := Lib.hid hgr
  have hd1 : decide ((N : Int) < 1) = false := by simp; omega
  have hd2 : decide (256 < (N : Int)) = false := by simp; omega
  clear hX hbl hgr
  go_enter Try.func11, Try.ntmps11
  go_wp2_with fail
  refine (awake26_calls w).mono ?_
  rintro e wa ⟨rfl, hfa⟩
  have hgc := greatR_calls A cl l _ wa (HX.out.fr hfa (Nat.le_refl _) (by simp)) hl
  rw [HGR.out] at hgc
  have HGC := Lib.hid hgc
  have HFA := Lib.hid hfa
  have hwa := hfa.size
  clear hgc hfa
  go_wp2_with fail
  refine HGC.out.mono ?_
  rintro e wx ⟨rfl, rfl⟩
  have hn1 := rlnew_good N wa (by omega) (by omega)
  obtain ⟨r, hr⟩ : ∃ r, rF wa.heap.size = r := ⟨_, rfl⟩
  obtain ⟨b, hb⟩ : ∃ b, bF wa.heap.size = b := ⟨_, rfl⟩
  obtain ⟨p, hp⟩ : ∃ p, wa.heap.size = p := ⟨_, rfl⟩
  have hrl : ∀ x ∈ RL p r b, wa.heap.size ≤ x ∧ x < wa.heap.size + 5 := by
    rw [← hr, ← hb, ← hp]
    intro x hx
    simp [RL, rF, bF] at hx
    omega
  rw [hr, hb, hp] at hn1
  have HN1 := Lib.hid hn1
  have HRL0 := Lib.hid hrl
  have HP := Lib.hid hp
  clear hn1 hr hb hp hrl
  go_wp2_with fail
  refine HN1.out.mono ?_
  rintro e w1 ⟨rfl, hR1, hf1, hz1⟩
  obtain ⟨eb, heb⟩ : ∃ eb, w1.heap.size = eb := ⟨_, rfl⟩
  have hrl : ∀ x ∈ RL p r b, w.heap.size ≤ x ∧ x < eb := fun x hx => by have := HRL0.out x hx; have := HP.out; omega
  have hlo2 : w.heap.size ≤ eb := by have := HP.out; omega
  have HRL := Lib.hid hrl
  have HEB := Lib.hid heb
  have HR1 := Lib.hid hR1
  have HF1 := Lib.hid (HFA.out.trans hf1 (by simp))
  clear hR1 hf1 hz1 hrl HRL0 HP heb HN1
  go_wp2_with fail
  rw [HEB.out]
  have hW : ∃ W, (w1.alloc (.cells #[.bool false, .bool false] 75)).alloc (.cells #[.bool false, .bool false] 75) = W := ⟨_, rfl⟩
  obtain ⟨W, hW⟩ := hW
  rw [hW]
  have hfA : Fr [] w1 W := by rw [← hW]; exact ((Fr.refl [] w1).alloc _).alloc _
  have hE0 : B2 W eb 75 sta0.e := by rw [← hW, ← HEB.out]; exact (Blk.new w1 75 _).alloc _
  have hT0 : B2 W (eb + 1) 75 sta0.t := by
    rw [← hW, ← HEB.out]
    have := Blk.new (w1.alloc (.cells #[.bool false, .bool false] 75)) 75 #[.bool false, .bool false]
    rw [World.size_alloc] at this
    exact this
  have HINI := Lib.hid (And.intro (HR1.out.fr0 hfA) (And.intro hE0 (And.intro hT0 (HF1.out.trans hfA (by simp)))))
  clear hW hfA hE0 hT0 HR1 HF1 HEB
  go_loopg [9] l.length (fun g s9 wr => ∃ (k : Nat) (S : Sta), k ≤ l.length ∧ g = l.length - k ∧ s9 = .int .i64 k ∧ RelS wr p r b N S ∧ Inv S ∧ B2 wr eb 75 S.e ∧ B2 wr (eb + 1) 75 S.t ∧ Fr [] w wr)
  case atStart => exact ⟨0, sta0, by omega, rfl, rfl, HINI.out.1, inv_zero, HINI.out.2.1, HINI.out.2.2.1, HINI.out.2.2.2⟩
  case round =>
    obtain ⟨wo, rfl⟩ : ∃ wo : World, wo = wr := ⟨_, rfl⟩
    obtain ⟨k, S, hk, rfl, rfl, hR, hinv, he, ht, hfr⟩ := hrel
    clear HINI
    by_cases hlt : k < l.length
    · obtain ⟨a, ha⟩ : ∃ a, l[k]? = some a := ⟨_, List.getElem?_eq_getElem hlt⟩
      have hacts := HX.out.fr hfr (Nat.le_refl _) (by simp)
      obtain ⟨ab, off, rfl, hab, hcell⟩ := hacts.1 (by omega)
      obtain ⟨c0, c1, c2, c3⟩ := hcell k a ha
      have hok := hacts.2 a (List.mem_of_getElem? ha)
      have hbl := HBL.out a (List.mem_of_getElem? ha)
      have hkd := hok.2.2.1
      have hkd2 := hok.2.2.2.1
      have has := hok.2.2.2.2.1
      have han := And.intro hok.2.2.2.2.2.1 hok.2.2.2.2.2.2.1
      have hac := And.intro hok.2.2.2.2.2.2.2.1 hok.2.2.2.2.2.2.2.2
      have hew := ht.lt
      have HR := Lib.hid hR
      have HFR := Lib.hid hfr
      have HOK := Lib.hid hok
      have HIN := Lib.hid hinv
      have HEE := Lib.hid (And.intro he ht)
      clear hok hcell hacts ha hR hfr hinv he ht
      obtain ⟨H, hH⟩ : ∃ H, wo.heap.size = H := ⟨_, rfl⟩
      obtain ⟨wb, hwb⟩ : ∃ wb, wo.alloc (.cells #[.int .u8 a.kind, .int .i64 a.side, .int .i64 a.n, .slice a.at_ a.bs.length a.cap] 54) = wb := ⟨_, rfl⟩
      have hfb : Fr [] wo wb := by rw [← hwb]; exact (Fr.refl [] wo).alloc _
      have hbk : Blk wb H 54 #[.int .u8 a.kind, .int .i64 a.side, .int .i64 a.n, .slice a.at_ a.bs.length a.cap] := by rw [← hwb, ← hH]; exact Blk.new wo 54 _
      have hd0 : wb.cell? ⟨H, 0, none⟩ = some (.int .u8 a.kind) := hbk.cell 0
      have hd1' : wb.cell? ⟨H, 1, none⟩ = some (.int .i64 a.side) := hbk.cell 1
      have hd2' : wb.cell? ⟨H, 2, none⟩ = some (.int .i64 a.n) := hbk.cell 2
      have hd3' : wb.cell? ⟨H, 3, none⟩ = some (.slice a.at_ a.bs.length a.cap) := hbk.cell 3
      have HRB := Lib.hid (HR.out.fr0 hfb)
      have HFB := Lib.hid (HFR.out.trans hfb (by simp))
      have HXB := Lib.hid (HOK.out.1.fr hfb (by simp))
      have HEB := Lib.hid (HEE.out.1.fr hfb (by simp))
      have HTB := Lib.hid (HEE.out.2.fr hfb (by simp))
      have HBK := Lib.hid hbk
      have HWB := Lib.hid (And.intro hH hwb)
      have hbw : H < wb.heap.size := hbk.lt
      clear hfb hbk hH hwb
      have hHlo : eb + 1 < H ∧ w.heap.size ≤ H := by have := HWB.out.1; omega
      go_upto_region 13 with fail
      rw [HWB.out.2, HWB.out.1]
      go_cut [11] from 33 to 158 (fun s11 wc => (∃ (s : Int) (i : Nat), s11 = .int .i64 s ∧ Sd s i) ∧ wb = wc)
      case first =>
        go_wp2_with fail
        go_meet
        exact ⟨side_mod _, rfl⟩
      case rest =>
        obtain ⟨⟨s, i, rfl, hsd⟩, rfl⟩ := hcut
        go_upto_block 2 with fail
        go_cut [10] from 33 to 158 (fun s10 wc => s10 = .pointer (some ⟨H, 0, none⟩) ∧ ∃ (T : Sta), RelS wc p r b N T ∧ Inv T ∧ B2 wc eb 75 T.e ∧ B2 wc (eb + 1) 75 T.t ∧ Fr [] w wc)
        case first =>
          rcases (by omega : (a.kind % 6 = 0 ∨ a.kind % 6 = 1) ∨ (a.kind % 6 = 2 ∨ a.kind % 6 = 3) ∨ a.kind % 6 = 4 ∨ a.kind % 6 = 5) with h01 | h23 | hk6 | hk6
          case inl => as_aux_lemma =>
            have HSD := Lib.hid hsd
            clear hsd
            have HPT := Lib.hid (rlput_calls p N r b S wb s i a.bs a.at_ a.cap HRB.out HSD.out (HXB.out.imp (fun g _ hg => ⟨fun e => by have := HRL.out (r i) (by rcases HSD.out.side with e | e <;> rw [e] <;> simp [RL]); omega, fun e => by have := HRL.out (b i) (by rcases HSD.out.side with e | e <;> rw [e] <;> simp [RL]); omega⟩)) HOK.out.2.1 hac.1 hac.2)
            rcases h01 with hk6 | hk6
            all_goals
              go_wp2_with fail
              refine HPT.out.mono ?_
              rintro e w2 ⟨rfl, hR2, hf2⟩
              have hsub := hf2.sub (L := RL p r b) (rl_sub HSD.out.side).1
              have HALL := Lib.hid (And.intro hR2 (And.intro (inv_put (N := N) (bs := a.bs) HIN.out HSD.out.side) (And.intro (HEB.out.fr hsub (fun hm => by have := HRL.out _ hm; omega)) (And.intro (HTB.out.fr hsub (fun hm => by have := HRL.out _ hm; omega)) (HFB.out.trans hsub (fun x hx => .inr (HRL.out x hx).1))))))
              clear hR2 hf2 hsub
              go_wp2_with fail
              go_meet
              exact ⟨rfl, _, HALL.out⟩
          case inr.inl => as_aux_lemma =>
            have HSD := Lib.hid hsd
            clear hsd
            have HPT := Lib.hid (rltake_calls p N r b S wb s a.n i HRB.out HSD.out han)
            rcases h23 with hk6 | hk6
            all_goals
              go_wp2_with fail
              refine HPT.out.mono ?_
              rintro e w2 ⟨u, rfl, ho, hR2, hf2⟩
              have hsub := hf2.sub (L := RL p r b) (rl_sub (i := 1 - i) (by omega)).2
              have HALL := Lib.hid (And.intro hR2 (And.intro (inv_take (i := i) (k := a.n) HIN.out) (And.intro (HEB.out.fr hsub (fun hm => by have := HRL.out _ hm; omega)) (And.intro (HTB.out.fr hsub (fun hm => by have := HRL.out _ hm; omega)) (HFB.out.trans hsub (fun x hx => .inr (HRL.out x hx).1))))))
              clear hR2 hf2 hsub ho
              go_wp2_with fail
              go_meet
              exact ⟨rfl, _, HALL.out⟩
          case inr.inr.inl => as_aux_lemma =>
            have hD : Fr [] wb wb.drew := (Fr.refl [] wb).drew
            have hen := rend_calls p N r b S wb.drew s i (HRB.out.fr0 hD) hsd
            have hce := HEB.out.cell hsd.side
            have hp := HRL.out p (by simp [RL])
            have HSI := Lib.hid hsd.side
            have HINE := Lib.hid (inv_end (i := i) HIN.out)
            have HEND : Hid (∀ w', Fr [p] wb.drew w' → w'.cell? ⟨eb, i, none⟩ = some (.bool (S.e i)) ∧ w'.frozen? ⟨eb, i, none⟩ = false ∧ B2 (w'.setCell ⟨eb, i, none⟩ (.bool true)) eb 75 (endS S i).e ∧ B2 (w'.setCell ⟨eb, i, none⟩ (.bool true)) (eb + 1) 75 (endS S i).t ∧ Fr [] w (w'.setCell ⟨eb, i, none⟩ (.bool true)) ∧ ∀ T, RelS w' p r b N T → RelS (w'.setCell ⟨eb, i, none⟩ (.bool true)) p r b N T) := Lib.hid (fun w' hf => by
              have hE := (HEB.out.fr hD (by simp)).fr hf (by simp; omega)
              have hT := (HTB.out.fr hD (by simp)).fr hf (by simp; omega)
              refine ⟨hE.cell hsd.side, hE.frozen, hE.set_ hsd.side true, hT.far (by simp) _, ((HFB.out.trans hD (by simp)).trans hf (by simp; omega)).setCell (.inr (by simp; omega)) _, fun T hR => hR.frR ((Fr.refl [eb] w').setCell (.inl (by simp)) _) (fun x hx hm => ?_)⟩
              simp at hx; subst hx; have := HRL.out _ hm; omega)
            obtain ⟨T, hT⟩ : ∃ T, endS S i = T := ⟨_, rfl⟩
            obtain ⟨ei, hei⟩ : ∃ ei, S.e i = ei := ⟨_, rfl⟩
            have hq : endR S i = if ei then 2 else 0 := by rw [endR, hei]
            rw [hq, hT] at hen
            rw [hei] at hce
            rw [hei, hT] at HEND
            rw [hT] at HINE
            have HEN := Lib.hid hen
            clear hen hq hT hei hD
            rcases hsd with ⟨rfl, rfl⟩ | ⟨rfl, rfl⟩
            all_goals
              cases ei
              all_goals
                simp only [Bool.false_eq_true, if_false, if_true] at HEN
                go_wp2_with fail
                go_region_with (first | (go_at_call 32; (with_reducible refine HEN.out.mono ?_); rintro e w2 ⟨rfl, hR2, hf2⟩; have hall := HEND.out w2 hf2; have hc2 := hall.1; have hz2 := hall.2.1; have HALL := Lib.hid (And.intro (hall.2.2.2.2.2 _ hR2) hall.2.2); clear hall hR2 hf2))
                all_goals
                  go_wp2_with fail
                  go_meet
                  exact ⟨rfl, T, HALL.out.1, HINE.out, HALL.out.2.1, HALL.out.2.2.1, HALL.out.2.2.2.1⟩
          case inr.inr.inr => as_aux_lemma =>
            have HTK := Lib.hid (fun (t' : Nat → Bool) (h : t' = (shutS S i).t) => h)
            have hwt := rwaits_calls p N r b S wb s i HRB.out hsd
            have hsh := rshut_calls p N r b S wb s i HRB.out hsd
            have hce := HEB.out.cell (i := 1 - i) (by omega)
            have hct := HTB.out.cell hsd.side
            have hp := HRL.out p (by simp [RL])
            have HINS := Lib.hid (inv_shut (i := i) HIN.out)
            have HEND : Hid (∀ w', Fr [p] wb w' → w'.cell? ⟨eb + 1, i, none⟩ = some (.bool (S.t i)) ∧ w'.frozen? ⟨eb + 1, i, none⟩ = false ∧ ∀ T x, RelS w' p r b N T → RelS (w'.setCell ⟨eb + 1, i, none⟩ (.bool x)) p r b N T ∧ B2 (w'.setCell ⟨eb + 1, i, none⟩ (.bool x)) eb 75 S.e ∧ B2 (w'.setCell ⟨eb + 1, i, none⟩ (.bool x)) (eb + 1) 75 (upd S.t i x) ∧ Fr [] w (w'.setCell ⟨eb + 1, i, none⟩ (.bool x))) := Lib.hid (fun w' hf => by
              have hE := HEB.out.fr hf (by simp; omega)
              have hT := HTB.out.fr hf (by simp; omega)
              refine ⟨hT.cell hsd.side, hT.frozen, fun T x hR => ⟨hR.frR ((Fr.refl [eb + 1] w').setCell (.inl (by simp)) _) (fun y hy hm => ?_), hE.far (by simp) _, hT.set_ hsd.side x, (HFB.out.trans hf (by simp; omega)).setCell (.inr (by simp; omega)) _⟩⟩
              simp at hy; subst hy; have := HRL.out _ hm; omega)
            have HTE : Hid ((shutS S i).e = S.e ∧ (shutS S i).t = upd S.t i (S.t i || shutB S i)) := Lib.hid ⟨rfl, rfl⟩
            obtain ⟨T, hT⟩ : ∃ T, shutS S i = T := ⟨_, rfl⟩
            obtain ⟨ej, hej⟩ : ∃ ej, S.e (1 - i) = ej := ⟨_, rfl⟩
            obtain ⟨ti, hti⟩ : ∃ ti, S.t i = ti := ⟨_, rfl⟩
            obtain ⟨xs, hxs⟩ : ∃ xs, S.x (1 - i) = xs := ⟨_, rfl⟩
            have hB : shutB S i = (ej && decide (xs.length = 0) && !ti) := by simp only [shutB, hxs, hej, hti]
            rw [hB, hT] at hsh
            rw [hxs] at hwt
            rw [hej] at hce
            rw [hti] at hct HEND
            rw [hB, hT, hti] at HTE
            rw [hT] at HINS
            have hxl : xs.length ≤ 4096 := by have := (HRB.out.lt (i := 1 - i) (by omega)); rw [hxs] at this; omega
            have HWT := Lib.hid hwt
            have HSH := Lib.hid hsh
            clear hwt hsh hT hej hti hxs hB
            rcases hsd with ⟨rfl, rfl⟩ | ⟨rfl, rfl⟩
            all_goals
              simp only [Nat.reduceSub] at hce
              rcases ej with _ | _
              · simp only [Bool.false_and, Bool.or_false] at HSH HTE
                rcases ti with _ | _
                all_goals
                  go_wp2_with fail
                  refine HSH.out.mono ?_
                  rintro e w2 ⟨rfl, hR2, hf2⟩
                  have hall := HEND.out w2 hf2
                  have hc2 := hall.1
                  have hz2 := hall.2.1
                  have HALL := Lib.hid (fun x => hall.2.2 T x hR2)
                  clear hall hR2 hf2
                  go_wp2_with fail
                  go_meet
                  refine ⟨rfl, T, (HALL.out _).1, HINS.out, ?_, ?_, (HALL.out _).2.2.2⟩
                  · rw [HTE.out.1]; exact (HALL.out _).2.1
                  · rw [HTE.out.2]; exact (HALL.out _).2.2.1
              · rcases xs with _ | ⟨y, ys⟩
                · rcases ti with _ | _
                  all_goals
                    simp only [List.length_nil, decide_true, Bool.not_false, Bool.not_true, Bool.and_true, Bool.and_false, Bool.or_true, Bool.or_false] at HSH HTE
                    go_wp2_with fail
                    refine HWT.out.mono ?_
                    rintro e wx ⟨rfl, rfl⟩
                    go_wp2_with fail
                    refine HSH.out.mono ?_
                    rintro e w2 ⟨rfl, hR2, hf2⟩
                    have hall := HEND.out w2 hf2
                    have hc2 := hall.1
                    have hz2 := hall.2.1
                    have HALL := Lib.hid (fun x => hall.2.2 T x hR2)
                    clear hall hR2 hf2
                    go_wp2_with fail
                    go_meet
                    refine ⟨rfl, T, (HALL.out _).1, HINS.out, ?_, ?_, (HALL.out _).2.2.2⟩
                    · rw [HTE.out.1]; exact (HALL.out _).2.1
                    · rw [HTE.out.2]; exact (HALL.out _).2.2.1
                · have hn0 : (((y :: ys).length : Int) == 0) = false := by simp; omega
                  have hdl : decide ((y :: ys).length = 0) = false := by simp
                  rw [hdl] at HSH HTE
                  clear hdl
                  simp only [Bool.true_and, Bool.false_and, Bool.or_false] at HSH HTE
                  rcases ti with _ | _
                  all_goals
                    go_wp2_with fail
                    refine HWT.out.mono ?_
                    rintro e wx ⟨rfl, rfl⟩
                    go_wp2_with fail
                    refine HSH.out.mono ?_
                    rintro e w2 ⟨rfl, hR2, hf2⟩
                    have hall := HEND.out w2 hf2
                    have hc2 := hall.1
                    have hz2 := hall.2.1
                    have HALL := Lib.hid (fun x => hall.2.2 T x hR2)
                    clear hall hR2 hf2
                    go_wp2_with fail
                    go_meet
                    refine ⟨rfl, T, (HALL.out _).1, HINS.out, ?_, ?_, (HALL.out _).2.2.2⟩
                    · rw [HTE.out.1]; exact (HALL.out _).2.1
                    · rw [HTE.out.2]; exact (HALL.out _).2.2.1
        case rest => as_aux_lemma =>
          obtain ⟨rfl, T, hRc, hInv, he, ht, hfc⟩ := hcut
          have HRC := Lib.hid hRc
          have HIC := Lib.hid hInv
          have HEC := Lib.hid he
          have HTC := Lib.hid ht
          have HFC := Lib.hid hfc
          clear hRc hInv he ht hfc HR HFR HRB HEB HTB HIN HEE HFB HBK HWB HOK HXB hd0 hd1' hd2' hd3' hbw c0 c1 c2 c3 hsd
          go_wp2_with fail
          go_loopw [13] (fun s13 wr => ∃ m : Nat, m ≤ 2 ∧ s13 = .int .i64 m ∧ wc = wr) (fun s13 _ => 2 - (intOf s13).toNat)
          case atStart => exact ⟨0, by omega, rfl, rfl⟩
          case round =>
            obtain ⟨m, hm, rfl, rfl⟩ := hrel
            by_cases hm2 : m < 2
            · have hmi : m = 0 ∨ m = 1 := by omega
              have hce := HEC.out.cell hmi
              have hct := HTC.out.cell hmi
              have hsd : Sd (m : Int) m := by rcases hmi with rfl | rfl <;> simp [Sd]
              have hsd' : Sd (1 - (m : Int)) (1 - m) := by rcases hmi with rfl | rfl <;> simp [Sd]
              have hA := rwaits_calls p N r b T wc (m : Int) m HRC.out hsd
              have hB := rwants_calls p N r b T wc (m : Int) m HRC.out hsd
              have hC := rwaits_calls p N r b T wc (1 - (m : Int)) (1 - m) HRC.out hsd'
              rw [show 1 - (1 - m) = m by omega] at hC
              have hi1 : T.t m = true → (T.x (1 - m)).length = 0 := fun h => by rw [(HIC.out m hmi h).2]; rfl
              have hi2 : T.e m = true → wn N T m = 0 := fun h => wn_ended h
              have hi3 : T.e m = false → ((wn N T m : Nat) : Int) = (N : Int) - (T.x m).length := fun h => by
                rw [wn_open h]; have := (HRC.out.lt hmi); omega
              have hxl := (HRC.out.lt hmi).2.2.2.2.2
              obtain ⟨n1, hn1⟩ : ∃ n1, (T.x m).length = n1 := ⟨_, rfl⟩
              obtain ⟨n2, hn2⟩ : ∃ n2, (T.x (1 - m)).length = n2 := ⟨_, rfl⟩
              obtain ⟨n3, hn3⟩ : ∃ n3, wn N T m = n3 := ⟨_, rfl⟩
              obtain ⟨tm, htm⟩ : ∃ tm, T.t m = tm := ⟨_, rfl⟩
              obtain ⟨em, hem⟩ : ∃ em, T.e m = em := ⟨_, rfl⟩
              rw [hn1] at hC hi3 hxl
              rw [hn2] at hA hi1
              rw [hn3] at hB hi2 hi3
              rw [htm] at hct hi1
              rw [hem] at hce hi2 hi3
              clear hn1 hn2 hn3 htm hem hsd hsd'
              have HC := Lib.hid hC
              clear hC
              rcases hmi with rfl | rfl
              all_goals
                rcases tm with _ | _
                · clear hA hi1
                  rcases em with _ | _
                  · rw [hi3 rfl] at hB
                    have HB := Lib.hid hB
                    clear hB hi2 hi3
                    go_wp2_with fail
                    refine HB.out.mono ?_
                    rintro e wx ⟨rfl, rfl⟩
                    go_wp2_with fail
                    refine HC.out.mono ?_
                    rintro e wx ⟨rfl, rfl⟩
                    go_wp2_with fail
                    go_roundw
                    case rel => first | exact ⟨1, by decide, rfl, trivial⟩ | exact ⟨2, by decide, rfl, trivial⟩
                    case measure => simp [intOf]
                  · rw [hi2 rfl] at hB
                    have HB := Lib.hid hB
                    clear hB hi2 hi3
                    go_wp2_with fail
                    refine HB.out.mono ?_
                    rintro e wx ⟨rfl, rfl⟩
                    go_wp2_with fail
                    go_roundw
                    case rel => first | exact ⟨1, by decide, rfl, trivial⟩ | exact ⟨2, by decide, rfl, trivial⟩
                    case measure => simp [intOf]
                · rw [hi1 rfl] at hA
                  have HA := Lib.hid hA
                  clear hA hi1
                  rcases em with _ | _
                  · rw [hi3 rfl] at hB
                    have HB := Lib.hid hB
                    clear hB hi2 hi3
                    go_wp2_with fail
                    refine HA.out.mono ?_
                    rintro e wx ⟨rfl, rfl⟩
                    go_wp2_with fail
                    refine HB.out.mono ?_
                    rintro e wx ⟨rfl, rfl⟩
                    go_wp2_with fail
                    refine HC.out.mono ?_
                    rintro e wx ⟨rfl, rfl⟩
                    go_wp2_with fail
                    go_roundw
                    case rel => first | exact ⟨1, by decide, rfl, trivial⟩ | exact ⟨2, by decide, rfl, trivial⟩
                    case measure => simp [intOf]
                  · rw [hi2 rfl] at hB
                    have HB := Lib.hid hB
                    clear hB hi2 hi3
                    go_wp2_with fail
                    refine HA.out.mono ?_
                    rintro e wx ⟨rfl, rfl⟩
                    go_wp2_with fail
                    refine HB.out.mono ?_
                    rintro e wx ⟨rfl, rfl⟩
                    go_wp2_with fail
                    go_roundw
                    case rel => first | exact ⟨1, by decide, rfl, trivial⟩ | exact ⟨2, by decide, rfl, trivial⟩
                    case measure => simp [intOf]
            · obtain rfl : m = 2 := by omega
              have hc0 := HTC.out.cell (i := 0) (.inl rfl)
              have hc1 := HTC.out.cell (i := 1) (.inr rfl)
              have hov : ∀ n, Calls Try.prog 36 #[.pointer (some ⟨p, 0, none⟩)] (wc.drewN n) fun e w' => e = .returned (.bool (T.t 0 && T.t 1)) ∧ w' = wc.drewN n := fun n =>
                (rover_calls p N r b T (wc.drewN n) (HRC.out.fr0 ((Fr.refl [] wc).drewN n))).mono fun _ _ h => ⟨h.1, h.2.symm⟩
              obtain ⟨t0, h0⟩ : ∃ t0, T.t 0 = t0 := ⟨_, rfl⟩
              obtain ⟨t1, h1⟩ : ∃ t1, T.t 1 = t1 := ⟨_, rfl⟩
              rw [h0] at hc0 hov
              rw [h1] at hc1 hov
              clear h0 h1
              rcases t0 with _ | _ <;> rcases t1 with _ | _
              all_goals
                simp only [Bool.and_self, Bool.and_true, Bool.and_false] at hov
                have HOV := Lib.hid hov
                clear hov
                go_wp2_with fail
                go_quiet (first | (go_at_call 36; with_reducible refine Calls.quiet_of_same (HOV.out _)))
                go_wp2_with fail
                go_roundg (l.length - (k + 1))
                case measure => omega
                case rel => exact ⟨k + 1, T, by omega, rfl, by go_num, HRC.out.fr0 ((Fr.refl [] wc).drewN _), HIC.out, HEC.out.fr ((Fr.refl [] wc).drewN _) (by simp), HTC.out.fr ((Fr.refl [] wc).drewN _) (by simp), HFC.out.drewN _⟩
    · obtain rfl : k = l.length := by omega
      have HF := Lib.hid hfr
      clear hfr
      go_wp2_with fail
      go_ret
      exact ⟨rfl, HF.out⟩

end Go.Proofs.Ytokdcddmljfgnaa
