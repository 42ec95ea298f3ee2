/-
  Rows of strings of the call's own: words.
-/
import Derived.Test.YtlhogpnfongfmaaAppend
import Derived.Test.YtlhogpnfongfmaaQuota
namespace Go.Proofs.Ytlhogpnfongfmaa
open Go.RowKit
set_option linter.unusedVariables false

theorem info_parts {t : TypeId} {z : Value} {s b : Nat} (h : (Try.prog.info? t).map (fun i => (i.zero, i.size, i.bytes)) = some (some z, s, b)) : ∃ i, Try.prog.info? t = some i ∧ i.zero = some z ∧ i.size = s ∧ i.bytes = b := by
  rcases hi : Try.prog.info? t with _ | i
  · rw [hi] at h; cases h
  · rw [hi] at h
    simp only [Option.map_some, Option.some.injEq, Prod.mk.injEq] at h
    exact ⟨i, rfl, h.1, h.2.1, h.2.2⟩
theorem info9 : (Try.prog.info? 9).map (fun i => (i.zero, i.size, i.bytes)) = some (some (.string ByteArray.empty), 1, 16) := by kernel_rfl
theorem reads_new (W : World) (t : TypeId) (cs : List Value) (s : Nat) (hs : cs.length = 1 * s) : Reads (W.alloc (.cells cs.toArray t)) (W.heap.size + 1) s (some ⟨W.heap.size, 0, none⟩) 1 cs :=
  ⟨hs, fun _ => ⟨_, rfl, Nat.lt_succ_self _, fun j u hu => by
    have hadd : (⟨W.heap.size, 0, none⟩ : Addr).add j = ⟨W.heap.size, j, none⟩ := by unfold Addr.add; split <;> simp_all
    rw [hadd]
    refine ((Blk.new W t cs.toArray).cell j).trans ?_
    simpa using hu⟩⟩
theorem own_alloc {w : World} {base : Nat} {e : TypeId} {size n : Nat} {v : Value} {xs : List Value} (h : w.ownsRow base e size v n xs) (o : Obj) : (w.alloc o).ownsRow base e size v n xs := h.alloc o
theorem own_base {w : World} {b b' : Nat} {e : TypeId} {n size : Nat} {v : Value} {xs : List Value} (h : w.ownsRow b e size v n xs) (hb : b' ≤ b) : w.ownsRow b' e size v n xs := by
  refine ⟨h.1, ?_⟩
  rcases h.2 with h1 | ⟨g, cap, cur, h2, h3, h4⟩
  · exact .inl h1
  · exact .inr ⟨g, cap, cur, h2, Nat.le_trans hb h3, h4⟩
def scells (l : List ByteArray) : List Value := l.map Value.string
theorem scells_append (l m : List ByteArray) : scells (l ++ m) = scells l ++ scells m := List.map_append
theorem scells_one (l : List ByteArray) : ∀ u ∈ scells l, u.oneCell' = true := fun u hu => by
  simp only [scells, List.mem_map] at hu
  obtain ⟨x, _, rfl⟩ := hu
  rfl
theorem own_cell {w : World} {base : Nat} {e : TypeId} {v : Value} {n : Nat} {xs : List Value} (h : w.ownsRow base e 1 v n xs) : ∃ A c, v = .slice A n c ∧ (0 < n → ∃ g, A = some ⟨g, 0, none⟩ ∧ base ≤ g ∧ g < w.heap.size ∧ ∀ (k : Nat) (u : Value), xs[k]? = some u → w.cell? ⟨g, 0 + k, none⟩ = some u) := by
  rcases h.2 with ⟨rfl, rfl⟩ | ⟨g, cap, cur, rfl, hb, hblk, hnc, _, hsz, htk⟩
  · exact ⟨none, 0, rfl, fun h0 => absurd h0 (by omega)⟩
  · have hB : Blk w g e cur := hblk
    refine ⟨_, _, rfl, fun hn => ⟨g, rfl, hb, hB.lt, fun k u hk => ?_⟩⟩
    rw [Nat.zero_add]
    refine (hB.cell k).trans ?_
    have hkl : k < n * 1 := by
      rcases Nat.lt_or_ge k (n * 1) with h' | h'
      · exact h'
      · rw [List.getElem?_eq_none (by rw [h.1]; exact h')] at hk; cases hk
    rw [← hk, ← htk, List.getElem?_take_of_lt hkl]
    simp

/-- Strings at A. -/
def StrsAt (w : World) (A : Option Addr) (ns : List ByteArray) (ok : Nat → Prop) : Prop :=
  0 < ns.length → ∃ b off, A = some ⟨b, off, none⟩ ∧ ok b ∧ b < w.heap.size ∧ ∀ (k : Nat) (s : ByteArray), ns[k]? = some s → w.cell? ⟨b, off + k, none⟩ = some (.string s)
theorem StrsAt.fr {w w' : World} {A : Option Addr} {ns : List ByteArray} {ok : Nat → Prop} {L : List Nat} (h : StrsAt w A ns ok) (hf : Fr L w w') (hL : ∀ b, ok b → b < w.heap.size → b ∉ L) : StrsAt w' A ns ok := fun hp => by
  obtain ⟨b, off, e, ho, hb, hc⟩ := h hp
  exact ⟨b, off, e, ho, Nat.lt_of_lt_of_le hb hf.size, fun k s hk => (hf.cell (p := ⟨b, _, none⟩) hb (hL b ho hb)).trans (hc k s hk)⟩
theorem StrsAt.any {w : World} {A : Option Addr} {ns : List ByteArray} {ok : Nat → Prop} (h : StrsAt w A ns ok) : StrsAt w A ns (fun _ => True) := fun hp => by
  obtain ⟨b, off, e, _, hb, hc⟩ := h hp
  exact ⟨b, off, e, trivial, hb, hc⟩
theorem strs_of_own {w : World} {base : Nat} {e : TypeId} {v : Value} {l : List ByteArray} (h : w.ownsRow base e 1 v l.length (scells l)) : ∃ A c, v = .slice A l.length c ∧ StrsAt w A l (fun b => base ≤ b) := by
  obtain ⟨A, c, rfl, hc⟩ := own_cell h
  refine ⟨A, c, rfl, fun hp => ?_⟩
  obtain ⟨g, rfl, hb, hlt, hcc⟩ := hc hp
  exact ⟨g, 0, rfl, hb, hlt, fun k s hs => hcc k _ (by simp [scells, hs])⟩

/-- The reference's quota at block r: the names that were taken. -/
structure RefAt (w : World) (B r : Nat) (v : Value) (l : List ByteArray) : Prop where
  blk : Blk w r 40 #[v]
  own : w.ownsRow B 9 1 v l.length (scells l)
  apart : ∀ g, v.ownBlock = some g → g ≠ r
theorem RefAt.fr {w w' : World} {B r : Nat} {v : Value} {l : List ByteArray} {L : List Nat} (h : RefAt w B r v l) (hf : Fr L w w') (hr : r ∉ L) (hv : ∀ g, v.ownBlock = some g → g ∉ L) : RefAt w' B r v l := ⟨hf.blk h.blk hr, hf.own h.own hv, h.apart⟩

end Go.Proofs.Ytlhogpnfongfmaa
