/-
  The acts of the ring's laws as a list in memory, and 'Great' by its contract.
-/
import Derived.Test.YtokdcddmljfgnaaBase
namespace Go.Proofs.Ytokdcddmljfgnaa
open Go.RowKit
set_option linter.unusedVariables false

/-- Bytes at A. -/
def BytesAt (w : World) (A : Option Addr) (xs : List Int) (ok : Nat → Prop) : Prop :=
  0 < xs.length → ∃ b off, A = some ⟨b, off, none⟩ ∧ ok b ∧ b < w.heap.size ∧ ∀ k, k < xs.length → w.cell? ⟨b, off + k, none⟩ = some (.int .u8 (xs.getD k 0))
def Byts (xs : List Int) : Prop := ∀ i, 0 ≤ xs.getD i 0 ∧ xs.getD i 0 < 256
theorem byts_nil : Byts [] := fun i => by simp
theorem BytesAt.imp {w : World} {A : Option Addr} {xs : List Int} {ok ok' : Nat → Prop} (h : BytesAt w A xs ok) (hi : ∀ b, b < w.heap.size → ok b → ok' b) : BytesAt w A xs ok' := fun hp => by
  obtain ⟨b, off, e, ho, hb, hc⟩ := h hp
  exact ⟨b, off, e, hi b hb ho, hb, hc⟩
theorem BytesAt.fr {w w' : World} {A : Option Addr} {xs : List Int} {ok : Nat → Prop} {L : List Nat} (h : BytesAt w A xs ok) (hf : Fr L w w') (hL : ∀ b, ok b → b < w.heap.size → b ∉ L) : BytesAt w' A xs ok := fun hp => by
  obtain ⟨b, off, e, ho, hb, hc⟩ := h hp
  exact ⟨b, off, e, ho, Nat.lt_of_lt_of_le hb hf.size, fun k hk => (hf.cell (p := ⟨b, _, none⟩) hb (hL b ho hb)).trans (hc k hk)⟩

structure ActD where
  kind : Int
  n : Int
  at_ : Option Addr
  cap : Nat
  bs : List Int
/-- An act's own bytes, and bounds. -/
def ActD.ok (w : World) (B : Nat) (a : ActD) : Prop := BytesAt w a.at_ a.bs (· < B) ∧ Byts a.bs ∧ 0 ≤ a.kind ∧ a.kind < 256 ∧ -9223372036854775808 ≤ a.n ∧ a.n ≤ 9223372036854775807 ∧ a.bs.length ≤ a.cap ∧ a.cap ≤ 9223372036854775807
/-- The slice of acts at A reads as l, below block B. -/
def Acts (w : World) (B : Nat) (A : Option Addr) (l : List ActD) : Prop :=
  (0 < l.length → ∃ b off, A = some ⟨b, off, none⟩ ∧ b < B ∧ ∀ (i : Nat) (a : ActD), l[i]? = some a →
    w.cell? ⟨b, off + i * 3, none⟩ = some (.int .u8 a.kind) ∧ w.cell? ⟨b, off + i * 3 + 1, none⟩ = some (.int .i64 a.n) ∧ w.cell? ⟨b, off + i * 3 + 2, none⟩ = some (.slice a.at_ a.bs.length a.cap)) ∧
  ∀ a ∈ l, a.ok w B

theorem ActD.ok.fr {w w' : World} {B : Nat} {a : ActD} {L : List Nat} (h : a.ok w B) (hf : Fr L w w') (hB : B ≤ w.heap.size) (hL : ∀ x ∈ L, B ≤ x) : a.ok w' B :=
  ⟨h.1.fr hf (fun b hb _ hm => by have := hL b hm; omega), h.2⟩
theorem Acts.fr {w w' : World} {A : Option Addr} {l : List ActD} {B : Nat} {L : List Nat} (h : Acts w B A l) (hf : Fr L w w') (hB : B ≤ w.heap.size) (hL : ∀ x ∈ L, B ≤ x) : Acts w' B A l := by
  refine ⟨fun hl => ?_, fun a ha => (h.2 a ha).fr hf hB hL⟩
  obtain ⟨b, off, hA, hb, hc⟩ := h.1 hl
  have hn : b ∉ L := fun hm => by have := hL b hm; omega
  refine ⟨b, off, hA, hb, fun i a ha => ?_⟩
  obtain ⟨h1, h2, h3⟩ := hc i a ha
  exact ⟨(hf.cell (p := ⟨b, _, none⟩) (by simp; omega) hn).trans h1, (hf.cell (p := ⟨b, _, none⟩) (by simp; omega) hn).trans h2, (hf.cell (p := ⟨b, _, none⟩) (by simp; omega) hn).trans h3⟩

def greatB (l : List ActD) : Bool := decide (100 < l.length) || l.any (fun a => decide (300 < a.bs.length))

set_option maxHeartbeats 400000 in
theorem great_calls (A : Option Addr) (c : Nat) (l : List ActD) (B : Nat) (w : World) (h : Acts w B A l) (hl : l.length ≤ 9223372036854775807) :
    Calls Try.prog 12 #[.slice A l.length c] w fun e w' => e = .returned (.bool (greatB l)) ∧ w = w' := by
  by_cases hlen : 100 < l.length
  · go_enter Try.func12, Try.ntmps12
    go_wp2
    go_ret
    exact ⟨by simp [greatB, hlen], rfl⟩
  · go_enter Try.func12, Try.ntmps12
    go_wp2
    go_loop [3] (fun i => ∃ k : Nat, k ≤ l.length ∧ i = .int .i64 k ∧ (l.take k).any (fun a => decide (300 < a.bs.length)) = false) (fun i => l.length - (intOf i).toNat)
    case atStart => exact ⟨0, Nat.zero_le _, rfl, by simp⟩
    case round =>
      obtain ⟨k, hk, rfl, hno⟩ := hrel
      by_cases hlt : k < l.length
      · obtain ⟨b, off, rfl, hb, hc⟩ := h.1 (by omega)
        obtain ⟨a, ha⟩ : ∃ a, l[k]? = some a := ⟨_, List.getElem?_eq_getElem hlt⟩
        obtain ⟨c0, c1, c2⟩ := hc k a ha
        have hal : a.bs.length ≤ 9223372036854775807 := by have := (h.2 a (List.mem_of_getElem? ha)).2.2.2.2.2.2; omega
        clear hc h
        have HN := Lib.hid hno; clear hno
        have HA := Lib.hid ha; clear ha
        by_cases hb50 : 300 < a.bs.length
        · go_wp2
          go_ret
          refine ⟨?_, rfl⟩
          have : l.any (fun a => decide (300 < a.bs.length)) = true := List.any_eq_true.2 ⟨a, List.mem_of_getElem? HA.out, by simpa using hb50⟩
          simp [greatB, this]
        · go_wp2
          go_round
          case rel => exact ⟨k + 1, by omega, by go_num, by rw [List.take_add_one, HA.out]; simp [HN.out]; simpa using hb50⟩
          case measure => simp [intOf]; omega
      · obtain rfl : k = l.length := by omega
        go_wp2
        go_ret
        rw [List.take_length] at hno
        exact ⟨by simp [greatB, hno, hlen], rfl⟩

end Go.Proofs.Ytokdcddmljfgnaa
