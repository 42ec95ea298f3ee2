/-
  A relay that was made: its functions by their contracts (begun).
-/
import Derived.Test.YtokdcddmljfgnaaTwo
namespace Go.Proofs.Ytokdcddmljfgnaa
open Go.RowKit Go.Shelf
set_option linter.unusedVariables false

/-- A relay's cells: two ways, each a ring, whether it has ended, whether the other side was told. -/
def RelC (w : World) (p r0 r1 : Nat) (e0 t0 e1 t1 : Bool) : Prop :=
  Blk w p 62 #[.pointer (some ⟨r0, 0, none⟩), .bool e0, .bool t0, .pointer (some ⟨r1, 0, none⟩), .bool e1, .bool t1]

theorem from_zero (p r0 r1 : Nat) (e0 t0 e1 t1 : Bool) (w : World) (h : RelC w p r0 r1 e0 t0 e1 t1) : Calls Try.prog 48 #[.pointer (some ⟨p, 0, none⟩), .int .i64 0] w fun e w' => e = .returned (.pointer (some ⟨p, 0, none⟩)) ∧ w = w' := by
  have h0 : w.cell? ⟨p, 0, none⟩ = some (.pointer (some ⟨r0, 0, none⟩)) := h.cell 0
  go_enter Try.func48, Try.ntmps48
  go_wp2_with fail
  go_ret
  exact ⟨rfl, rfl⟩

theorem from_one (p r0 r1 : Nat) (e0 t0 e1 t1 : Bool) (w : World) (h : RelC w p r0 r1 e0 t0 e1 t1) : Calls Try.prog 48 #[.pointer (some ⟨p, 0, none⟩), .int .i64 1] w fun e w' => e = .returned (.pointer (some ⟨p, 3, none⟩)) ∧ w = w' := by
  have h0 : w.cell? ⟨p, 0, none⟩ = some (.pointer (some ⟨r0, 0, none⟩)) := h.cell 0
  go_enter Try.func48, Try.ntmps48
  go_wp2_with fail
  go_ret
  exact ⟨rfl, rfl⟩

theorem from_bad (p r0 r1 : Nat) (e0 t0 e1 t1 : Bool) (s : Int) (w : World) (h : RelC w p r0 r1 e0 t0 e1 t1) (hs : s < 0 ∨ 2 ≤ s) : Calls Try.prog 48 #[.pointer (some ⟨p, 0, none⟩), .int .i64 s] w fun e w' => e = .returned (.pointer none) ∧ w = w' := by
  have h0 : w.cell? ⟨p, 0, none⟩ = some (.pointer (some ⟨r0, 0, none⟩)) := h.cell 0
  rcases Int.lt_or_le s 0 with h1 | h1
  · have hd : decide (s < 0) = true := by simp [h1]
    go_enter Try.func48, Try.ntmps48
    go_wp2_with fail
    go_ret
    exact ⟨rfl, rfl⟩
  · have hd : decide (s < 0) = false := by simp; omega
    have hd2 : decide (2 ≤ s) = true := by simp; omega
    have hd3 : 2 ≤ s := by omega
    go_enter Try.func48, Try.ntmps48
    go_wp2_with fail
    go_ret
    exact ⟨rfl, rfl⟩

end Go.Proofs.Ytokdcddmljfgnaa
