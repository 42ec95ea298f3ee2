/-
  RankLess's walk.
-/
import Derived.Test.YtkioniffgmalgaaLess6
namespace Go.Proofs.Ytkioniffgmalgaa
open Go.RowKit Go.Sort Sp
set_option linter.unusedVariables false

theorem less_yes (key : List Int) (A : Option Addr) (ca : Nat) (l : List (ByteArray × Int)) (B : Option Addr) (c : Nat) (which : Int) (w : World) (h : RunsAt w B l (fun _ => True)) (hkl : key.length ≤ 9223372036854775807) (hl : l.length * 24 ≤ 140737488355328) (hz : ∀ r ∈ l, r.1.size ≤ 9223372036854775807) (hg : greatL key l = true ∨ (greatL key l = false ∧ l.length = 0)) :
    Calls Try.prog 10 #[.slice A key.length ca, .slice B l.length c, .int .i64 which] w fun e w' => e = .returned (.bool true) ∧ Fr [] w w' := by
  rcases hg with hg | ⟨hg, hl0⟩
  · have HG := Lib.hid (fun W hW => hg ▸ greatL_calls key A ca l B c W hW hkl hl hz)
    have HR := Lib.hid h
    clear h hz hg
    go_enter Try.func10, Try.ntmps10
    go_wp2_with fail
    refine (awake_calls w).mono ?_
    rintro e w1 ⟨rfl, hf1⟩
    have HF1 := Lib.hid hf1
    clear hf1
    go_wp2_with fail
    refine (HG.out w1 (HR.out.fr HF1.out (by simp))).mono ?_
    rintro e w2 ⟨rfl, hf2⟩
    have HF2 := Lib.hid (HF1.out.trans hf2 (by simp))
    clear hf2
    go_wp2_with fail
    go_ret
    exact ⟨rfl, HF2.out⟩
  · have HG := Lib.hid (fun W hW => hg ▸ greatL_calls key A ca l B c W hW hkl hl hz)
    have HR := Lib.hid h
    rw [hl0] at HG ⊢
    clear h hz hg hl0
    go_enter Try.func10, Try.ntmps10
    go_wp2_with fail
    refine (awake_calls w).mono ?_
    rintro e w1 ⟨rfl, hf1⟩
    have HF1 := Lib.hid hf1
    clear hf1
    go_wp2_with fail
    refine (HG.out w1 (HR.out.fr HF1.out (by simp))).mono ?_
    rintro e w2 ⟨rfl, hf2⟩
    have HF2 := Lib.hid (HF1.out.trans hf2 (by simp))
    clear hf2
    go_wp2_with fail
    go_ret
    exact ⟨rfl, HF2.out⟩

set_option maxRecDepth 100000 in
set_option maxHeartbeats 4000000 in
theorem less_good (key : List Int) (A : Option Addr) (ca : Nat) (l : List (ByteArray × Int)) (B : Option Addr) (c : Nat) (which : Int) (w : World) (hX : BytesAt w A key (fun _ => True)) (hb : Byts key) (h : RunsAt w B l (fun _ => True)) (hkl : key.length ≤ 9223372036854775807) (hl : l.length * 24 ≤ 140737488355328) (hz : ∀ r ∈ l, r.1.size ≤ 9223372036854775807) (hw : ∀ r ∈ l, -9223372036854775808 ≤ r.2 ∧ r.2 ≤ 9223372036854775807) (hcap : l.length ≤ c) (hg : greatL key l = false) (hpos : 0 < l.length) :
    Calls Try.prog 10 #[.slice A key.length ca, .slice B l.length c, .int .i64 which] w fun e w' => e = .returned (.bool true) ∧ Fr [] w w' := by
  have hgr : key.length ≤ 100 ∧ l.length ≤ 16 ∧ ∀ r ∈ l, r.1.size ≤ 40 := by
    simp [greatL, greatK] at hg
    refine ⟨by omega, by omega, fun r hr => by have := hg.2 r.1 r.2 hr; omega⟩
  have HG := Lib.hid (fun W hW => hg ▸ greatL_calls key A ca l B c W hW hkl hl hz)
  have HO := Lib.hid (fun l' (hl' : l'.length ≤ l.length) (hz' : ∀ r ∈ l', r.1.size ≤ 40) (hw' : ∀ r ∈ l', -9223372036854775808 ≤ r.2 ∧ r.2 ≤ 9223372036854775807) B' c' W hX hW => orderL_calls key A ca l' B' c' W hX hb hW (by omega) (by omega) (fun r hr => by have := hz' r hr; omega) hw')
  have HX := Lib.hid hX
  have HR := Lib.hid h
  have HZ := Lib.hid hgr.2.2
  have HW := Lib.hid hw
  obtain ⟨p, hp⟩ : ∃ p, pk which l.length = p := ⟨_, rfl⟩
  have hpl : p < l.length := by rw [← hp]; exact pk_lt _ hpos
  have hpe := pk_eq which (n := l.length) (by omega) hpos
  rw [hp] at hpe
  have HPE := Lib.hid hpe
  have hlp := less_plain key hpl
  have hLL : (l.take p ++ l.drop (p + 1)).length = l.length - 1 := by rw [List.length_append, List.length_take, List.length_drop]; omega
  have hmem : ∀ r ∈ l.take p ++ l.drop (p + 1), r ∈ l := fun r hr => by
    rcases List.mem_append.1 hr with h | h
    · exact List.mem_of_mem_take h
    · exact List.mem_of_mem_drop h
  have HOB := Lib.hid (fun B' c' W => HO.out (l.take p ++ l.drop (p + 1)) (by rw [hLL]; omega) (fun r hr => HZ.out r (hmem r hr)) (fun r hr => HW.out r (hmem r hr)) B' c' W)
  have HOA := Lib.hid (fun W => HO.out l (Nat.le_refl _) HZ.out HW.out B c W)
  have hlb := ordL_len key (l.take p ++ l.drop (p + 1))
  rw [hlp, hLL] at hlb
  rw [hlp, hLL] at HOB
  have HLA := Lib.hid (ordL_len key l)
  have HBA := Lib.hid (ordL_bd key l (by omega))
  obtain ⟨n, hn⟩ : ∃ n, l.length = n := ⟨_, rfl⟩
  have HN := Lib.hid hn
  rw [hn] at HG HPE hpl hpos hgr hcap HOA HOB HLA hlb ⊢
  have hn16 := hgr.2.1
  have hz0 : ((n : Int) == 0) = false := by simp; omega
  have hnz : ¬ n = 0 := by omega
  obtain ⟨oa, hoa⟩ : ∃ oa, ordL key l = oa := ⟨_, rfl⟩
  rw [hoa] at HOA HOB HLA HBA hlb
  have HLB := Lib.hid hlb
  clear hX h hz hw hg hn hgr hb hpe hp hkl hl hlp hLL hmem HO hoa hlb
  go_enter Try.func10, Try.ntmps10
  go_wp2_with fail
  refine (awake_calls w).mono ?_
  rintro e w1 ⟨rfl, hf1⟩
  have HF1 := Lib.hid hf1
  clear hf1
  go_wp2_with fail
  refine (HG.out w1 (HR.out.fr HF1.out (by simp))).mono ?_
  rintro e w2 ⟨rfl, hf2⟩
  have HF2 := Lib.hid (HF1.out.trans hf2 (by simp))
  clear hf2
  go_upto_region 5 with fail
  go_cut [2] from 8 (fun s2 wc => s2 = .int .i64 p ∧ w2 = wc)
  case first =>
    go_wp2_with fail
    go_meet
    exact ⟨by rw [HPE.out], rfl⟩
  case rest =>
    obtain ⟨rfl, rfl⟩ := hcut
    clear hz0 hnz
    go_wp2_with fail
    refine wp_only (r6l_wp l B n c p w2 (HR.out.fr HF2.out (by simp)) HN.out (by omega) hcap hpl ?_)
    intro V c4 w3 d25 d26 d27 d28 d29 d30 d31 d32 d33 d34 hf3 hrun
    have HF3 := Lib.hid (HF2.out.trans hf3 (by simp))
    have HRUN := Lib.hid hrun
    clear hf3 hrun
    go_wp2_with fail
    refine (HOB.out V c4 w3 (HX.out.fr HF3.out (by simp)) HRUN.out).mono ?_
    rintro e w4 ⟨A4, c5, rfl, hI4, hf4⟩
    have HF4 := Lib.hid (HF3.out.trans hf4 (by simp))
    have HI4 := Lib.hid (hI4.imp (ok' := fun _ => True) (fun _ _ _ => trivial))
    clear hI4 hf4
    go_wp2_with fail
    refine (HOA.out w4 (HX.out.fr HF4.out (by simp)) (HR.out.fr HF4.out (by simp))).mono ?_
    rintro e w5 ⟨A5, c6, rfl, hI5, hf5⟩
    have HI5 := Lib.hid (hI5.imp (ok' := fun _ => True) (fun _ _ _ => trivial))
    have HF5 := Lib.hid hf5
    have HWA := Lib.hid (fun W hW => without_calls oa p true A5 c6 W hW (by rw [HLA.out]; omega) HBA.out (by omega))
    rw [HLA.out] at HWA
    have HLB2 := HLB.out
    obtain ⟨xs, hxs⟩ : ∃ xs, withoutI oa p true = xs := ⟨_, rfl⟩
    rw [hxs] at HWA HI4 HLB2
    have HLB3 := Lib.hid HLB2
    rw [HLB2] at HWA
    clear hI5 hf5 hxs HLB2
    go_wp2_with fail
    refine (HWA.out w5 HI5.out).mono ?_
    rintro e w6 ⟨A6, c7, rfl, hI6, hf6⟩
    have HI6 := Lib.hid (hI6.imp (ok' := fun _ => True) (fun _ _ _ => trivial))
    have HF6 := Lib.hid (HF5.out.trans hf6 (by simp))
    have hsm := same_calls xs xs A4 A6 c5 c7 w6 (HI4.out.fr HF6.out (by simp)) HI6.out (by rw [HLB3.out]; omega) (by rw [HLB3.out]; omega)
    rw [show decide (xs = xs) = true by simp, HLB3.out] at hsm
    have HSM := Lib.hid hsm
    clear hI6 hf6 hsm
    go_wp2_with fail
    refine HSM.out.mono ?_
    rintro e w8 ⟨rfl, hf8⟩
    have HF8 := Lib.hid (HF6.out.trans hf8 (by simp))
    clear hf8
    go_wp2_with fail
    go_ret
    exact ⟨rfl, HF4.out.trans HF8.out (by simp)⟩

theorem less_calls (key : List Int) (A : Option Addr) (ca : Nat) (l : List (ByteArray × Int)) (B : Option Addr) (c : Nat) (which : Int) (w : World) (hX : BytesAt w A key (fun _ => True)) (hb : Byts key) (h : RunsAt w B l (fun _ => True)) (hkl : key.length ≤ 9223372036854775807) (hl : l.length * 24 ≤ 140737488355328) (hz : ∀ r ∈ l, r.1.size ≤ 9223372036854775807) (hw : ∀ r ∈ l, -9223372036854775808 ≤ r.2 ∧ r.2 ≤ 9223372036854775807) (hcap : l.length ≤ c) :
    Calls Try.prog 10 #[.slice A key.length ca, .slice B l.length c, .int .i64 which] w fun e w' => e = .returned (.bool true) ∧ Fr [] w w' := by
  cases hg : greatL key l with
  | true => exact less_yes key A ca l B c which w h hkl hl hz (.inl hg)
  | false =>
    rcases Nat.eq_zero_or_pos l.length with h0 | h0
    · exact less_yes key A ca l B c which w h hkl hl hz (.inr ⟨hg, h0⟩)
    · exact less_good key A ca l B c which w hX hb h hkl hl hz hw hcap hg h0

end Go.Proofs.Ytkioniffgmalgaa
