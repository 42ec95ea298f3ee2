/-
  A ring's Len, Size, Room; and what is answered by a ring that nobody made, or that is empty.
-/
import Derived.Test.YtokdcddmljfgnaaBase
import Derived.Deep.RegionLaw
import Derived.Deep.RegionHeld3
import Derived.BigQuiet
import Derived.Deep.QuietTactic
namespace Go.Proofs.Ytokdcddmljfgnaa
open Go.RowKit
set_option linter.unusedVariables false

/-- A ring's slice has n cells, m of them held. -/
def Rd (w : World) (p : Option Addr) (n m : Nat) : Prop :=
  (p = none ∧ n = 0 ∧ m = 0) ∨ ∃ b A c, p = some ⟨b, 0, none⟩ ∧ b < w.heap.size ∧ w.cell? ⟨b, 0, none⟩ = some (.slice A n c) ∧ w.cell? ⟨b, 2, none⟩ = some (.int .i64 m) ∧ n ≤ 4611686018427387904 ∧ m ≤ n

theorem Rd.fr {w w' : World} {p : Option Addr} {n m : Nat} {L : List Nat} (h : Rd w p n m) (hf : Fr L w w') (hL : ∀ b, p = some ⟨b, 0, none⟩ → b ∉ L) : Rd w' p n m := by
  rcases h with h | ⟨b, A, c, rfl, hb, h0, h2, h3⟩
  · exact .inl h
  · exact .inr ⟨b, A, c, rfl, Nat.lt_of_lt_of_le hb hf.size, (hf.cell (p := ⟨b, 0, none⟩) hb (hL _ rfl)).trans h0, (hf.cell (p := ⟨b, 2, none⟩) hb (hL _ rfl)).trans h2, h3⟩
theorem Rd.alloc {w : World} {p : Option Addr} {n m : Nat} (h : Rd w p n m) (o : Obj) : Rd (w.alloc o) p n m := h.fr ((Fr.refl [] w).alloc o) (by simp)
theorem Rd.drew {w : World} {p : Option Addr} {n m : Nat} (h : Rd w p n m) : Rd w.drew p n m := h
theorem Rd.drewN {w : World} {p : Option Addr} {n m : Nat} (h : Rd w p n m) (k : Nat) : Rd (w.drewN k) p n m := h

theorem len_calls (p : Option Addr) (n m : Nat) (w : World) (h : Rd w p n m) : Calls Try.prog 17 #[.pointer p] w fun e w' => e = .returned (.int .i64 m) ∧ w = w' := by
  rcases h with ⟨rfl, rfl, rfl⟩ | ⟨b, A, c, rfl, hb, h0, h2, h3, h4⟩
  · go_enter Try.func17, Try.ntmps17
    go_wp2_with fail
    go_ret
    exact ⟨rfl, rfl⟩
  · go_enter Try.func17, Try.ntmps17
    go_wp2_with fail
    go_ret
    exact ⟨rfl, rfl⟩

theorem size_calls (p : Option Addr) (n m : Nat) (w : World) (h : Rd w p n m) : Calls Try.prog 19 #[.pointer p] w fun e w' => e = .returned (.int .i64 n) ∧ w = w' := by
  rcases h with ⟨rfl, rfl, rfl⟩ | ⟨b, A, c, rfl, hb, h0, h2, h3, h4⟩
  · go_enter Try.func19, Try.ntmps19
    go_wp2_with fail
    go_ret
    exact ⟨rfl, rfl⟩
  · go_enter Try.func19, Try.ntmps19
    go_wp2_with fail
    go_ret
    exact ⟨rfl, rfl⟩

theorem Rd.le {w : World} {p : Option Addr} {n m : Nat} (h : Rd w p n m) : m ≤ n ∧ n ≤ 4611686018427387904 := by
  rcases h with ⟨rfl, rfl, rfl⟩ | ⟨b, A, c, rfl, hb, h0, h2, h3, h4⟩ <;> omega

theorem room_calls (p : Option Addr) (n m : Nat) (w : World) (h : Rd w p n m) : Calls Try.prog 18 #[.pointer p] w fun e w' => e = .returned (.int .i64 (n - m)) ∧ w = w' := by
  have hle := h.le
  have H := Lib.hid h
  clear h
  go_enter Try.func18, Try.ntmps18
  go_wp2_with fail
  refine (size_calls p n m w H.out).mono ?_
  rintro e w1 ⟨rfl, rfl⟩
  go_wp2_with fail
  refine (len_calls p n m w H.out).mono ?_
  rintro e w1 ⟨rfl, rfl⟩
  go_wp2_with fail
  go_ret
  exact ⟨rfl, rfl⟩

/-- Nothing fits, or nothing comes. -/
theorem put_none (p : Option Addr) (n m : Nat) (A : Option Addr) (len c : Nat) (w : World) (h : Rd w p n m) (hl : len ≤ 9223372036854775807) (h0 : len = 0 ∨ n = m) :
    Calls Try.prog 13 #[.pointer p, .slice A len c] w fun e w' => e = .returned (.int .i64 0) ∧ Fr [] w w' := by
  have hle := h.le
  have H := Lib.hid h
  clear h
  go_enter Try.func13, Try.ntmps13
  go_wp2_with fail
  have hm : min (len : Int) (n - m) = 0 := by omega
  go_quiet (first | (go_at_call 18; with_reducible refine Calls.quiet_of_same ((room_calls p n m _ ((H.out.alloc _).drewN _)).mono fun _ _ h => ⟨h.1, h.2.symm⟩)))
  go_wp2_with fail
  all_goals (go_ret; exact ⟨rfl, ((Fr.refl [] w).alloc _).drewN _⟩)

theorem peek_none (p : Option Addr) (n : Nat) (k : Int) (w : World) (h : Rd w p n 0) (hk : -9223372036854775808 ≤ k ∧ k ≤ 9223372036854775807) :
    Calls Try.prog 14 #[.pointer p, .int .i64 k] w fun e w' => e = .returned (.slice none 0 0) ∧ w = w' := by
  have hle := h.le
  have H := Lib.hid h
  clear h
  go_enter Try.func14, Try.ntmps14
  go_wp2_with fail
  refine (len_calls p n 0 w H.out).mono ?_
  rintro e w1 ⟨rfl, rfl⟩
  have hm : max 0 (min k 0) = 0 := by omega
  go_wp2_with fail
  all_goals (go_ret; exact ⟨rfl, rfl⟩)

theorem skip_nil (p : Option Addr) (k : Int) (w : World) (h : Rd w p 0 0) : Calls Try.prog 16 #[.pointer p, .int .i64 k] w fun e w' => e = .returned (.int .i64 1) ∧ w = w' := by
  have H := Lib.hid h
  clear h
  go_enter Try.func16, Try.ntmps16
  go_wp2_with fail
  refine (size_calls p 0 0 w H.out).mono ?_
  rintro e w1 ⟨rfl, rfl⟩
  go_wp2_with fail
  go_ret
  exact ⟨rfl, rfl⟩

theorem take_nil (p : Option Addr) (k : Int) (w : World) (h : Rd w p 0 0) (hk : -9223372036854775808 ≤ k ∧ k ≤ 9223372036854775807) :
    Calls Try.prog 15 #[.pointer p, .int .i64 k] w fun e w' => e = .returned (.slice none 0 0) ∧ w = w' := by
  have H := Lib.hid h
  clear h
  go_enter Try.func15, Try.ntmps15
  go_wp2_with fail
  refine (peek_none p 0 k w H.out hk).mono ?_
  rintro e w1 ⟨rfl, rfl⟩
  go_wp2_with fail
  refine (skip_nil p 0 w H.out).mono ?_
  rintro e w1 ⟨rfl, rfl⟩
  go_wp2_with fail
  go_ret
  exact ⟨rfl, rfl⟩

end Go.Proofs.Ytokdcddmljfgnaa
