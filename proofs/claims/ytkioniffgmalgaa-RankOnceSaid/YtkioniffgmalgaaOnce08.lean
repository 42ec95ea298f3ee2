/-
  RankOnce's walk, great or not.
-/
import Derived.Test.YtkioniffgmalgaaOnce07
namespace Go.Proofs.Ytkioniffgmalgaa
open Go.RowKit Go.Sort Sp
set_option linter.unusedVariables false

theorem once_great (key : List Int) (A : Option Addr) (ca : Nat) (l : List (ByteArray × Int)) (B : Option Addr) (c : Nat) (w : World) (h : RunsAt w B l (fun _ => True)) (hkl : key.length ≤ 9223372036854775807) (hl : l.length * 24 ≤ 140737488355328) (hz : ∀ r ∈ l, r.1.size ≤ 9223372036854775807) (hg : greatL key l = true) :
    Calls Try.prog 5 #[.slice A key.length ca, .slice B l.length c] w fun e w' => e = .returned (.bool true) ∧ Fr [] w w' := by
  have HG := Lib.hid (fun W hW => hg ▸ greatL_calls key A ca l B c W hW hkl hl hz)
  have HR := Lib.hid h
  clear h hz hg
  go_enter Try.func5, Try.ntmps5
  go_wp2_with fail
  refine (awake_calls w).mono ?_
  rintro e w1 ⟨rfl, hf1⟩
  have HF1 := Lib.hid hf1
  clear hf1
  go_wp2_with fail
  refine (HG.out w1 (HR.out.fr HF1.out (by simp))).mono ?_
  rintro e w2 ⟨rfl, hf2⟩
  have HF2 := Lib.hid (HF1.out.trans hf2 (by simp))
  clear hf2
  go_wp2_with fail
  go_ret
  exact ⟨rfl, HF2.out⟩

theorem once_calls (key : List Int) (A : Option Addr) (ca : Nat) (l : List (ByteArray × Int)) (B : Option Addr) (c : Nat) (w : World) (hX : BytesAt w A key (fun _ => True)) (hb : Byts key) (h : RunsAt w B l (fun _ => True)) (hkl : key.length ≤ 9223372036854775807) (hl : l.length * 24 ≤ 140737488355328) (hz : ∀ r ∈ l, r.1.size ≤ 9223372036854775807) (hw : ∀ r ∈ l, -9223372036854775808 ≤ r.2 ∧ r.2 ≤ 9223372036854775807) :
    Calls Try.prog 5 #[.slice A key.length ca, .slice B l.length c] w fun e w' => e = .returned (.bool true) ∧ Fr [] w w' := by
  cases hg : greatL key l with
  | true => exact once_great key A ca l B c w h hkl hl hz hg
  | false => exact once_good key A ca l B c w hX hb h hkl hl hz hw hg

end Go.Proofs.Ytkioniffgmalgaa
