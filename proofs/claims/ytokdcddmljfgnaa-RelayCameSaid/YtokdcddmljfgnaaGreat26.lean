/-
  The acts of the relay's laws as a list in memory, and 'Great' by its contract.
-/
import Derived.Test.YtokdcddmljfgnaaGreat
namespace Go.Proofs.Ytokdcddmljfgnaa
open Go.RowKit
set_option linter.unusedVariables false

structure ActR where
  kind : Int
  side : Int
  n : Int
  at_ : Option Addr
  cap : Nat
  bs : List Int
/-- An act's own bytes, and bounds. -/
def ActR.ok (w : World) (B : Nat) (a : ActR) : Prop := BytesAt w a.at_ a.bs (· < B) ∧ Byts a.bs ∧ 0 ≤ a.kind ∧ a.kind < 256 ∧ (-9223372036854775808 ≤ a.side ∧ a.side ≤ 9223372036854775807) ∧ -9223372036854775808 ≤ a.n ∧ a.n ≤ 9223372036854775807 ∧ a.bs.length ≤ a.cap ∧ a.cap ≤ 9223372036854775807
/-- The slice of acts at A reads as l, below block B. -/
def ActsR (w : World) (B : Nat) (A : Option Addr) (l : List ActR) : Prop :=
  (0 < l.length → ∃ b off, A = some ⟨b, off, none⟩ ∧ b < B ∧ ∀ (i : Nat) (a : ActR), l[i]? = some a →
    w.cell? ⟨b, off + i * 4, none⟩ = some (.int .u8 a.kind) ∧ w.cell? ⟨b, off + i * 4 + 1, none⟩ = some (.int .i64 a.side) ∧ w.cell? ⟨b, off + i * 4 + 2, none⟩ = some (.int .i64 a.n) ∧ w.cell? ⟨b, off + i * 4 + 3, none⟩ = some (.slice a.at_ a.bs.length a.cap)) ∧
  ∀ a ∈ l, a.ok w B

theorem ActR.ok.fr {w w' : World} {B : Nat} {a : ActR} {L : List Nat} (h : a.ok w B) (hf : Fr L w w') (hB : B ≤ w.heap.size) (hL : ∀ x ∈ L, B ≤ x) : a.ok w' B :=
  ⟨h.1.fr hf (fun b hb _ hm => by have := hL b hm; omega), h.2⟩
theorem ActsR.fr {w w' : World} {A : Option Addr} {l : List ActR} {B : Nat} {L : List Nat} (h : ActsR w B A l) (hf : Fr L w w') (hB : B ≤ w.heap.size) (hL : ∀ x ∈ L, B ≤ x) : ActsR w' B A l := by
  refine ⟨fun hl => ?_, fun a ha => (h.2 a ha).fr hf hB hL⟩
  obtain ⟨b, off, hA, hb, hc⟩ := h.1 hl
  have hn : b ∉ L := fun hm => by have := hL b hm; omega
  refine ⟨b, off, hA, hb, fun i a ha => ?_⟩
  obtain ⟨h1, h2, h3, h4⟩ := hc i a ha
  exact ⟨(hf.cell (p := ⟨b, _, none⟩) (by simp; omega) hn).trans h1, (hf.cell (p := ⟨b, _, none⟩) (by simp; omega) hn).trans h2, (hf.cell (p := ⟨b, _, none⟩) (by simp; omega) hn).trans h3, (hf.cell (p := ⟨b, _, none⟩) (by simp; omega) hn).trans h4⟩

def greatRB (l : List ActR) : Bool := decide (120 < l.length) || l.any (fun a => decide (400 < a.bs.length))

set_option maxHeartbeats 400000 in
theorem greatR_calls (A : Option Addr) (c : Nat) (l : List ActR) (B : Nat) (w : World) (h : ActsR w B A l) (hl : l.length ≤ 9223372036854775807) :
    Calls Try.prog 29 #[.slice A l.length c] w fun e w' => e = .returned (.bool (greatRB l)) ∧ w = w' := by
  by_cases hlen : 120 < l.length
  · go_enter Try.func29, Try.ntmps29
    go_wp2
    go_ret
    exact ⟨by simp [greatRB, hlen], rfl⟩
  · go_enter Try.func29, Try.ntmps29
    go_wp2
    go_loop [3] (fun i => ∃ k : Nat, k ≤ l.length ∧ i = .int .i64 k ∧ (l.take k).any (fun a => decide (400 < a.bs.length)) = false) (fun i => l.length - (intOf i).toNat)
    case atStart => exact ⟨0, Nat.zero_le _, rfl, by simp⟩
    case round =>
      obtain ⟨k, hk, rfl, hno⟩ := hrel
      by_cases hlt : k < l.length
      · obtain ⟨b, off, rfl, hb, hc⟩ := h.1 (by omega)
        obtain ⟨a, ha⟩ : ∃ a, l[k]? = some a := ⟨_, List.getElem?_eq_getElem hlt⟩
        obtain ⟨c0, c1, c2, c3⟩ := hc k a ha
        have hal : a.bs.length ≤ 9223372036854775807 := by have := (h.2 a (List.mem_of_getElem? ha)).2.2.2.2.2.2.2; omega
        clear hc h
        have HN := Lib.hid hno; clear hno
        have HA := Lib.hid ha; clear ha
        by_cases hb50 : 400 < a.bs.length
        · go_wp2
          go_ret
          refine ⟨?_, rfl⟩
          have : l.any (fun a => decide (400 < a.bs.length)) = true := List.any_eq_true.2 ⟨a, List.mem_of_getElem? HA.out, by simpa using hb50⟩
          simp [greatRB, this]
        · go_wp2
          go_round
          case rel => exact ⟨k + 1, by omega, by go_num, by rw [List.take_add_one, HA.out]; simp [HN.out]; simpa using hb50⟩
          case measure => simp [intOf]; omega
      · obtain rfl : k = l.length := by omega
        go_wp2
        go_ret
        rw [List.take_length] at hno
        exact ⟨by simp [greatRB, hno, hlen], rfl⟩

end Go.Proofs.Ytokdcddmljfgnaa
