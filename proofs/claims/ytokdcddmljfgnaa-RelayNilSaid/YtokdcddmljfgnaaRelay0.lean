/-
  A relay that nobody made: what it answers.
-/
import Derived.Test.YtokdcddmljfgnaaRing0
namespace Go.Proofs.Ytokdcddmljfgnaa
open Go.RowKit
set_option linter.unusedVariables false

def NR (w : World) (p : Option Addr) : Prop := p = none ∨ ∃ b, p = some ⟨b, 0, none⟩ ∧ b < w.heap.size ∧ w.cell? ⟨b, 0, none⟩ = some (.pointer none)

theorem from_nil (p : Option Addr) (s : Int) (w : World) (h : NR w p) : Calls Try.prog 48 #[.pointer p, .int .i64 s] w fun e w' => e = .returned (.pointer none) ∧ w = w' := by
  rcases h with rfl | ⟨b, rfl, hb, hc⟩
  · go_enter Try.func48, Try.ntmps48
    go_wp2_with fail
    go_ret
    exact ⟨rfl, rfl⟩
  · go_enter Try.func48, Try.ntmps48
    go_wp2_with fail
    go_ret
    exact ⟨rfl, rfl⟩

theorem wants_nil (p : Option Addr) (s : Int) (w : World) (h : NR w p) : Calls Try.prog 30 #[.pointer p, .int .i64 s] w fun e w' => e = .returned (.int .i64 0) ∧ w = w' := by
  have H := Lib.hid h; clear h
  go_enter Try.func30, Try.ntmps30
  go_wp2_with fail
  refine (from_nil p s w H.out).mono ?_
  rintro e w1 ⟨rfl, rfl⟩
  go_wp2_with fail
  go_ret
  exact ⟨rfl, rfl⟩

theorem rput_nil (p : Option Addr) (s : Int) (A : Option Addr) (len c : Nat) (w : World) (h : NR w p) (hl : len ≤ 9223372036854775807) : Calls Try.prog 31 #[.pointer p, .int .i64 s, .slice A len c] w fun e w' => e = .returned (.int .i64 0) ∧ w = w' := by
  have H := Lib.hid h; clear h
  go_enter Try.func31, Try.ntmps31
  go_wp2_with fail
  refine (wants_nil p s w H.out).mono ?_
  rintro e w1 ⟨rfl, rfl⟩
  have hm : min (len : Int) 0 = 0 := by omega
  go_wp2_with fail
  all_goals (go_ret; exact ⟨rfl, rfl⟩)

theorem end_nil (p : Option Addr) (s : Int) (w : World) (h : NR w p) : Calls Try.prog 32 #[.pointer p, .int .i64 s] w fun e w' => e = .returned (.int .i64 1) ∧ w = w' := by
  have H := Lib.hid h; clear h
  go_enter Try.func32, Try.ntmps32
  go_wp2_with fail
  refine (from_nil p s w H.out).mono ?_
  rintro e w1 ⟨rfl, rfl⟩
  go_wp2_with fail
  refine (from_nil p 0 w H.out).mono ?_
  rintro e w1 ⟨rfl, rfl⟩
  go_wp2_with fail
  go_ret
  exact ⟨rfl, rfl⟩

theorem waits_nil (p : Option Addr) (s : Int) (w : World) (h : NR w p) : Calls Try.prog 33 #[.pointer p, .int .i64 s] w fun e w' => e = .returned (.int .i64 0) ∧ w = w' := by
  have H := Lib.hid h; clear h
  go_enter Try.func33, Try.ntmps33
  go_wp2_with fail
  refine (from_nil p _ w H.out).mono ?_
  rintro e w1 ⟨rfl, rfl⟩
  go_wp2_with fail
  go_ret
  exact ⟨rfl, rfl⟩

theorem rtake_nil (p : Option Addr) (s n : Int) (w : World) (h : NR w p) : Calls Try.prog 34 #[.pointer p, .int .i64 s, .int .i64 n] w fun e w' => e = .returned (.slice none 0 0) ∧ w = w' := by
  have H := Lib.hid h; clear h
  go_enter Try.func34, Try.ntmps34
  go_wp2_with fail
  refine (from_nil p _ w H.out).mono ?_
  rintro e w1 ⟨rfl, rfl⟩
  go_wp2_with fail
  go_ret
  exact ⟨rfl, rfl⟩

theorem shut_nil (p : Option Addr) (s : Int) (w : World) (h : NR w p) : Calls Try.prog 35 #[.pointer p, .int .i64 s] w fun e w' => e = .returned (.bool false) ∧ w = w' := by
  have H := Lib.hid h; clear h
  go_enter Try.func35, Try.ntmps35
  go_wp2_with fail
  refine (from_nil p _ w H.out).mono ?_
  rintro e w1 ⟨rfl, rfl⟩
  go_wp2_with fail
  go_ret
  exact ⟨rfl, rfl⟩

theorem over_nil (p : Option Addr) (w : World) (h : NR w p) : Calls Try.prog 36 #[.pointer p] w fun e w' => e = .returned (.bool false) ∧ w = w' := by
  have H := Lib.hid h; clear h
  go_enter Try.func36, Try.ntmps36
  go_wp2_with fail
  refine (from_nil p 0 w H.out).mono ?_
  rintro e w1 ⟨rfl, rfl⟩
  go_wp2_with fail
  go_ret
  exact ⟨rfl, rfl⟩

end Go.Proofs.Ytokdcddmljfgnaa
