/-
  The acts of the quota's laws as a list in memory, and 'great' by its contract.
-/
import Derived.Test.YtlhogpnfongfmaaBase
namespace Go.Proofs.Ytlhogpnfongfmaa
open Go.RowKit Go.Maps

structure ActD where
  give : Bool
  name : ByteArray
  most : Int
/-- The slice of acts at A reads as l, below block B. -/
def Acts (w : World) (B : Nat) (A : Option Addr) (l : List ActD) : Prop :=
  0 < l.length → ∃ b off, A = some ⟨b, off, none⟩ ∧ b < B ∧ ∀ (i : Nat) (a : ActD), l[i]? = some a →
    w.cell? ⟨b, off + i * 3, none⟩ = some (.bool a.give) ∧ w.cell? ⟨b, off + i * 3 + 1, none⟩ = some (.string a.name) ∧ w.cell? ⟨b, off + i * 3 + 2, none⟩ = some (.int .i64 a.most)

theorem Acts.fr {w w' : World} {A : Option Addr} {l : List ActD} {B : Nat} {L : List Nat} (h : Acts w B A l) (hf : Fr L w w') (hB : B ≤ w.heap.size) (hL : ∀ x ∈ L, B ≤ x) : Acts w' B A l := by
  intro hl
  obtain ⟨b, off, hA, hb, hc⟩ := h hl
  have hn : b ∉ L := fun hm => by have := hL b hm; omega
  refine ⟨b, off, hA, hb, fun i a ha => ?_⟩
  obtain ⟨h1, h2, h3⟩ := hc i a ha
  exact ⟨(hf.cell (p := ⟨b, _, none⟩) (by simp; omega) hn).trans h1, (hf.cell (p := ⟨b, _, none⟩) (by simp; omega) hn).trans h2, (hf.cell (p := ⟨b, _, none⟩) (by simp; omega) hn).trans h3⟩

def greatB (l : List ActD) : Bool := decide (200 < l.length) || l.any (fun a => decide (50 < a.name.size))

set_option maxHeartbeats 400000 in
theorem great_calls (A : Option Addr) (c : Nat) (l : List ActD) (B : Nat) (w : World) (h : Acts w B A l) (hl : l.length ≤ 9223372036854775807) :
    Calls Try.prog 7 #[.slice A l.length c] w fun e w' => e = .returned (.bool (greatB l)) ∧ w = w' := by
  by_cases hlen : 200 < l.length
  · go_enter Try.func7, Try.ntmps7
    go_wp2
    go_ret
    exact ⟨by simp [greatB, hlen], rfl⟩
  · go_enter Try.func7, Try.ntmps7
    go_wp2
    go_loop [3] (fun i => ∃ k : Nat, k ≤ l.length ∧ i = .int .i64 k ∧ (l.take k).any (fun a => decide (50 < a.name.size)) = false) (fun i => l.length - (intOf i).toNat)
    case atStart => exact ⟨0, Nat.zero_le _, rfl, by simp⟩
    case round =>
      obtain ⟨k, hk, rfl, hno⟩ := hrel
      by_cases hlt : k < l.length
      · obtain ⟨b, off, rfl, hb, hc⟩ := h (by omega)
        obtain ⟨a, ha⟩ : ∃ a, l[k]? = some a := ⟨_, List.getElem?_eq_getElem hlt⟩
        obtain ⟨c0, c1, c2⟩ := hc k a ha
        clear hc h
        have HN := Lib.hid hno; clear hno
        have HA := Lib.hid ha; clear ha
        by_cases hb50 : 50 < a.name.size
        · go_wp2
          go_ret
          refine ⟨?_, rfl⟩
          have : l.any (fun a => decide (50 < a.name.size)) = true := List.any_eq_true.2 ⟨a, List.mem_of_getElem? HA.out, by simpa using hb50⟩
          simp [greatB, this]
        · go_wp2
          go_round
          case rel => exact ⟨k + 1, by omega, by go_num, by rw [List.take_add_one, HA.out]; simp [HN.out]; simpa using hb50⟩
          case measure => simp [intOf]; omega
      · obtain rfl : k = l.length := by omega
        go_wp2
        go_ret
        rw [List.take_length] at hno
        exact ⟨by simp [greatB, hno, hlen], rfl⟩

end Go.Proofs.Ytlhogpnfongfmaa
