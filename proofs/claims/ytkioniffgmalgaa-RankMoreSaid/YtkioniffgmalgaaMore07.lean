/-
  RankMore's walk.
-/
import Derived.Test.YtkioniffgmalgaaRunOwn
import Derived.Test.YtkioniffgmalgaaAwake07
namespace Go.Proofs.Ytkioniffgmalgaa
open Go.RowKit Go.Sort Sp
set_option linter.unusedVariables false

theorem more_yes (key : List Int) (A : Option Addr) (ca : Nat) (l : List (ByteArray × Int)) (B : Option Addr) (c : Nat) (which more : Int) (w : World) (h : RunsAt w B l (fun _ => True)) (hkl : key.length ≤ 9223372036854775807) (hl : l.length * 24 ≤ 140737488355328) (hz : ∀ r ∈ l, r.1.size ≤ 9223372036854775807) (hg : greatL key l = true ∨ (greatL key l = false ∧ l.length = 0)) :
    Calls Try.prog 11 #[.slice A key.length ca, .slice B l.length c, .int .i64 which, .int .u8 more] w fun e w' => e = .returned (.bool true) ∧ Fr [] w w' := by
  rcases hg with hg | ⟨hg, hl0⟩
  · have HG := Lib.hid (fun W hW => hg ▸ greatL_calls key A ca l B c W hW hkl hl hz)
    have HR := Lib.hid h
    clear h hz hg
    go_enter Try.func11, Try.ntmps11
    go_wp2_with fail
    refine (awake_calls w).mono ?_
    rintro e w1 ⟨rfl, hf1⟩
    have HF1 := Lib.hid hf1
    clear hf1
    go_wp2_with fail
    refine (HG.out w1 (HR.out.fr HF1.out (by simp))).mono ?_
    rintro e w2 ⟨rfl, hf2⟩
    have HF2 := Lib.hid (HF1.out.trans hf2 (by simp))
    clear hf2
    go_wp2_with fail
    go_ret
    exact ⟨rfl, HF2.out⟩
  · have HG := Lib.hid (fun W hW => hg ▸ greatL_calls key A ca l B c W hW hkl hl hz)
    have HR := Lib.hid h
    rw [hl0] at HG ⊢
    clear h hz hg hl0
    go_enter Try.func11, Try.ntmps11
    go_wp2_with fail
    refine (awake_calls w).mono ?_
    rintro e w1 ⟨rfl, hf1⟩
    have HF1 := Lib.hid hf1
    clear hf1
    go_wp2_with fail
    refine (HG.out w1 (HR.out.fr HF1.out (by simp))).mono ?_
    rintro e w2 ⟨rfl, hf2⟩
    have HF2 := Lib.hid (HF1.out.trans hf2 (by simp))
    clear hf2
    go_wp2_with fail
    go_ret
    exact ⟨rfl, HF2.out⟩

set_option maxRecDepth 100000 in
set_option maxHeartbeats 4000000 in
theorem more_good (key : List Int) (A : Option Addr) (ca : Nat) (l : List (ByteArray × Int)) (B : Option Addr) (c : Nat) (which more : Int) (w : World) (hX : BytesAt w A key (fun _ => True)) (hb : Byts key) (h : RunsAt w B l (fun _ => True)) (hkl : key.length ≤ 9223372036854775807) (hl : l.length * 24 ≤ 140737488355328) (hz : ∀ r ∈ l, r.1.size ≤ 9223372036854775807) (hw : ∀ r ∈ l, -9223372036854775808 ≤ r.2 ∧ r.2 ≤ 9223372036854775807) (hmo : 0 ≤ more ∧ more < 256) (hg : greatL key l = false) (hpos : 0 < l.length) :
    Calls Try.prog 11 #[.slice A key.length ca, .slice B l.length c, .int .i64 which, .int .u8 more] w fun e w' => e = .returned (.bool true) ∧ Fr [] w w' := by
  have hgr : key.length ≤ 100 ∧ l.length ≤ 16 ∧ ∀ r ∈ l, r.1.size ≤ 40 := by
    simp [greatL, greatK] at hg
    refine ⟨by omega, by omega, fun r hr => by have := hg.2 r.1 r.2 hr; omega⟩
  have HG := Lib.hid (fun W hW => hg ▸ greatL_calls key A ca l B c W hW hkl hl hz)
  have HO := Lib.hid (fun l' (hl' : l'.length = l.length) (hz' : ∀ r ∈ l', r.1.size ≤ 40) (hw' : ∀ r ∈ l', -9223372036854775808 ≤ r.2 ∧ r.2 ≤ 9223372036854775807) B' c' W hX hW => orderL_calls key A ca l' B' c' W hX hb hW (by omega) (by omega) (fun r hr => by have := hz' r hr; omega) hw')
  have HX := Lib.hid hX
  have HR := Lib.hid h
  have HZ := Lib.hid hgr.2.2
  have HW := Lib.hid hw
  obtain ⟨p, hp⟩ : ∃ p, pk which l.length = p := ⟨_, rfl⟩
  have hpl : p < l.length := by rw [← hp]; exact pk_lt _ hpos
  have hpe := pk_eq which (n := l.length) (by omega) hpos
  rw [hp] at hpe
  obtain ⟨r, hr⟩ : ∃ r, l[p]? = some r := ⟨_, List.getElem?_eq_getElem hpl⟩
  obtain ⟨s, x⟩ := r
  have HAT := Lib.hid hr
  have HPE := Lib.hid hpe
  obtain ⟨n, hn⟩ : ∃ n, l.length = n := ⟨_, rfl⟩
  have HN := Lib.hid hn
  rw [hn] at HG HPE hpl hpos hgr ⊢
  have hn16 := hgr.2.1
  have hz0 : ((n : Int) == 0) = false := by simp; omega
  have hnz : ¬ n = 0 := by omega
  clear hX h hz hw hg hn hgr hb hr hpe hp hkl hl
  go_enter Try.func11, Try.ntmps11
  go_wp2_with fail
  refine (awake_calls w).mono ?_
  rintro e w1 ⟨rfl, hf1⟩
  have HF1 := Lib.hid hf1
  clear hf1
  go_wp2_with fail
  refine (HG.out w1 (HR.out.fr HF1.out (by simp))).mono ?_
  rintro e w2 ⟨rfl, hf2⟩
  have HF2 := Lib.hid (HF1.out.trans hf2 (by simp))
  clear hf2
  go_upto_region 5 with fail
  go_cut [2] from 12 (fun s2 wc => s2 = .int .i64 p ∧ w2 = wc)
  case first =>
    go_wp2_with fail
    go_meet
    exact ⟨by rw [HPE.out], rfl⟩
  case rest =>
    obtain ⟨rfl, rfl⟩ := hcut
    clear hz0 hnz
    obtain ⟨i46, hi, hq0, hq1, hq2⟩ := info_parts info46
    have hrd := ((HR.out.fr HF2.out (by simp)).fr (Fr.alloc (Fr.refl [] w2) (.cells #[] 46)) (by simp)).reads
    rw [HN.out] at hrd
    have HRD := Lib.hid hrd
    clear hrd
    go_upto_region 7 with (first
      | (at_builtin; refine wpList_append_any _ rfl (.tmp 29) (.tmp 30) _ rfl w2.heap.size 46 i46 _ 2 24 Try.underlying37 hi hq0 hq1 hq2 rfl (by omega) (.slice (some ⟨w2.heap.size, 0, none⟩) 0 0) 0 [] rfl (ownsRow_empty2 w2 46 w2.heap.size (Nat.le_refl _) 2) _ B n c (pcells l) rfl HRD.out (pcells_one _) (by simp only [maxLen]; omega) (by omega) (by simp) ?_; intro v4 w3 hown4 hg4 hat4))
    rw [Nat.zero_add, List.nil_append, ← HN.out] at hown4
    obtain ⟨g, c4, rfl, hg0, hRB⟩ := runB_of_own hown4 (by rw [HN.out]; exact hpos)
    rw [HN.out]
    have hf3 := ((Fr.refl [] w2).alloc (.cells #[] 46)).trans (Fr.of_grownO hg4) (fun y hy => .inr (by simp [Value.ownBlock] at hy; omega))
    have HF3 := Lib.hid (HF2.out.trans hf3 (by simp))
    have HRB := Lib.hid hRB
    have hc1 := (hRB.cell HAT.out).2
    simp only at hc1
    have hfz := hRB.frozen (p * 2 + 1)
    have hgw : w.heap.size ≤ g := Nat.le_trans HF2.out.size hg0
    have HGW := Lib.hid hgw
    have hwx := HW.out _ (List.mem_of_getElem? HAT.out)
    simp only at hwx
    clear hown4 hg4 hat4 hf3 hRB hq0 hq1 hq2 hi hg0 hgw
    by_cases hgt : 1099511627776 < x
    · go_wp2_with fail
      go_ret
      exact ⟨rfl, HF3.out⟩
    · have hgt2 : x ≤ 1099511627776 := by omega
      obtain ⟨wy, hwy⟩ : ∃ wy, w3.setCell ⟨g, p * 2 + 1, none⟩ (.int .i64 (x + more)) = wy := ⟨_, rfl⟩
      have hfy : Fr [g] w3 wy := by rw [← hwy]; exact (Fr.refl [g] w3).setCell (.inl (by simp)) _
      have hry : RunB wy g (l.set p (s, x + more)) := by rw [← hwy]; exact HRB.out.set_ HAT.out
      have HFY := Lib.hid (HF3.out.trans hfy (fun y hy => .inr (by simp at hy; have := HGW.out; omega)))
      have HWY := Lib.hid hwy
      have HRY := Lib.hid hry
      have HLN : Hid ((l.set p (s, x + more)).length = n) := Lib.hid (by rw [List.length_set]; exact HN.out)
      have hmp := more_plain key HAT.out (y := x + more) (by omega)
      have HMP := Lib.hid hmp
      have HOA := Lib.hid (HO.out l rfl HZ.out HW.out B c wy)
      have HOB := Lib.hid (fun W => HO.out (l.set p (s, x + more)) (by simp) (fun r hr => by
        rcases List.mem_or_eq_of_mem_set hr with h | rfl
        · exact HZ.out r h
        · exact (HZ.out (s, x) (List.mem_of_getElem? HAT.out) : s.size ≤ 40)) (fun r hr => by
        rcases List.mem_or_eq_of_mem_set hr with h | rfl
        · exact HW.out r h
        · simp only; omega) (some ⟨g, 0, none⟩) c4 W)
      rw [HN.out] at HOA
      rw [HLN.out] at HOB
      have HLA := Lib.hid (ordL_len key l)
      have HLB := Lib.hid (ordL_len key (l.set p (s, x + more)))
      rw [HN.out] at HLA
      rw [HLN.out] at HLB
      have HBA := Lib.hid (ordL_bd key l (by rw [HN.out]; omega))
      have HBB := Lib.hid (ordL_bd key (l.set p (s, x + more)) (by rw [HLN.out]; omega))
      obtain ⟨oa, hoa⟩ : ∃ oa, ordL key l = oa := ⟨_, rfl⟩
      obtain ⟨ob, hob⟩ : ∃ ob, ordL key (l.set p (s, x + more)) = ob := ⟨_, rfl⟩
      rw [hoa] at HMP HOA HLA HBA
      rw [hob] at HMP HOB HLB HBB
      clear hfy hwy hry hmp hoa hob
      go_upto_region 10 with fail
      rw [HWY.out]
      clear hc1 hfz hgt hgt2 hwx
      go_wp2_with fail
      refine (HOA.out (HX.out.fr HFY.out (by simp)) (HR.out.fr HFY.out (by simp))).mono ?_
      rintro e w4 ⟨A4, c5, rfl, hI4, hf4⟩
      have HF4 := Lib.hid hf4
      have HI4 := Lib.hid (hI4.imp (ok' := fun _ => True) (fun _ _ _ => trivial))
      clear hI4 hf4
      go_wp2_with fail
      refine (HOB.out w4 (HX.out.fr (HFY.out.trans HF4.out (by simp)) (by simp)) (HRY.out.runs.fr HF4.out (by simp))).mono ?_
      rintro e w5 ⟨A5, c6, rfl, hI5, hf5⟩
      have HF5 := Lib.hid hf5
      have HI5 := Lib.hid (hI5.imp (ok' := fun _ => True) (fun _ _ _ => trivial))
      have HWA := Lib.hid (fun W hW => without_calls oa p false A4 c5 W hW (by rw [HLA.out]; omega) HBA.out (by omega))
      have HWB := Lib.hid (fun W hW => without_calls ob p false A5 c6 W hW (by rw [HLB.out]; omega) HBB.out (by omega))
      have HPA := Lib.hid (fun W hW => place_calls oa p A4 c5 W hW (by rw [HLA.out]; omega))
      have HPB := Lib.hid (fun W hW => place_calls ob p A5 c6 W hW (by rw [HLB.out]; omega))
      rw [HLA.out] at HWA HPA
      rw [HLB.out] at HWB HPB
      have hmp := HMP.out
      obtain ⟨ha, hpl2, hpl0⟩ := hmp
      rw [← ha] at HWB
      obtain ⟨xs, hxs⟩ : ∃ xs, withoutI oa p false = xs := ⟨_, rfl⟩
      rw [hxs] at HWA HWB
      obtain ⟨pa, hpa⟩ : ∃ pa, placeI oa p = pa := ⟨_, rfl⟩
      obtain ⟨pb, hpb⟩ : ∃ pb, placeI ob p = pb := ⟨_, rfl⟩
      rw [hpa] at hpl2 HPA
      rw [hpb] at hpl2 hpl0 HPB
      have hxl : xs.length ≤ 1000 := by
        rw [← hxs]
        have := withoutI_len oa p false
        have := HLA.out
        omega
      clear hI5 hf5 ha hxs hpa hpb
      go_wp2_with fail
      refine (HWA.out w5 (HI4.out.fr HF5.out (by simp))).mono ?_
      rintro e w6 ⟨A6, c7, rfl, hI6, hf6⟩
      have HI6 := Lib.hid (hI6.imp (ok' := fun _ => True) (fun _ _ _ => trivial))
      have HF6 := Lib.hid hf6
      clear hI6 hf6
      go_wp2_with fail
      refine (HWB.out w6 (HI5.out.fr HF6.out (by simp))).mono ?_
      rintro e w7 ⟨A7, c8, rfl, hI7, hf7⟩
      have HI7 := Lib.hid (hI7.imp (ok' := fun _ => True) (fun _ _ _ => trivial))
      have HF7 := Lib.hid hf7
      have hsm := same_calls xs xs A6 A7 c7 c8 w7 (HI6.out.fr HF7.out (by simp)) HI7.out (by omega) (by omega)
      rw [show decide (xs = xs) = true by simp] at hsm
      have HSM := Lib.hid hsm
      clear hI7 hf7 hsm
      go_wp2_with fail
      refine HSM.out.mono ?_
      rintro e w8 ⟨rfl, hf8⟩
      have HF8 := Lib.hid ((HF6.out.trans HF7.out (by simp)).trans hf8 (by simp))
      clear hf8
      go_wp2_with fail
      refine (HPB.out w8 (HI5.out.fr HF8.out (by simp))).mono ?_
      rintro e w9 ⟨rfl, rfl⟩
      go_wp2_with fail
      refine (HPA.out w8 ((HI4.out.fr HF5.out (by simp)).fr HF8.out (by simp))).mono ?_
      rintro e w9 ⟨rfl, rfl⟩
      go_wp2_with fail
      refine (HPB.out w8 (HI5.out.fr HF8.out (by simp))).mono ?_
      rintro e w9 ⟨rfl, rfl⟩
      go_wp2_with fail
      go_ret
      exact ⟨rfl, ((HFY.out.trans HF4.out (by simp)).trans HF5.out (by simp)).trans HF8.out (by simp)⟩

theorem more_calls (key : List Int) (A : Option Addr) (ca : Nat) (l : List (ByteArray × Int)) (B : Option Addr) (c : Nat) (which more : Int) (w : World) (hX : BytesAt w A key (fun _ => True)) (hb : Byts key) (h : RunsAt w B l (fun _ => True)) (hkl : key.length ≤ 9223372036854775807) (hl : l.length * 24 ≤ 140737488355328) (hz : ∀ r ∈ l, r.1.size ≤ 9223372036854775807) (hw : ∀ r ∈ l, -9223372036854775808 ≤ r.2 ∧ r.2 ≤ 9223372036854775807) (hmo : 0 ≤ more ∧ more < 256) :
    Calls Try.prog 11 #[.slice A key.length ca, .slice B l.length c, .int .i64 which, .int .u8 more] w fun e w' => e = .returned (.bool true) ∧ Fr [] w w' := by
  cases hg : greatL key l with
  | true => exact more_yes key A ca l B c which more w h hkl hl hz (.inl hg)
  | false =>
    rcases Nat.eq_zero_or_pos l.length with h0 | h0
    · exact more_yes key A ca l B c which more w h hkl hl hz (.inr ⟨hg, h0⟩)
    · exact more_good key A ca l B c which more w hX hb h hkl hl hz hw hmo hg h0

end Go.Proofs.Ytkioniffgmalgaa
