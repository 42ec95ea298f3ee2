/-
  The reference Order's three rows: words.
-/
import Derived.Test.YtkioniffgmalgaaReg17
import Derived.Test.YtkioniffgmalgaaRunRow
namespace Go.Proofs.Ytkioniffgmalgaa
open Go.RowKit Go.Sort Sp
set_option linter.unusedVariables false

theorem info4r : (Try.prog.info? 4).map (fun i => (i.zero, i.size, i.bytes)) = some (some (.bool false), 1, 1) := by kernel_rfl
theorem info22r : (Try.prog.info? 22).map (fun i => (i.zero, i.size, i.bytes)) = some (some (.int .u64 0), 1, 8) := by kernel_rfl
def ucells (l : List Rn) : List Value := l.map fun r => .int .u64 r.score
def hcells (l : List Rn) : List Value := l.map fun r => .bool r.has
def fcells (n : Nat) : List Value := List.replicate n (.bool false)
theorem ucells_one (l : List Rn) : ∀ u ∈ ucells l, u.oneCell' = true := fun u hu => by
  simp only [ucells, List.mem_map] at hu
  obtain ⟨x, _, rfl⟩ := hu
  rfl
theorem hcells_one (l : List Rn) : ∀ u ∈ hcells l, u.oneCell' = true := fun u hu => by
  simp only [hcells, List.mem_map] at hu
  obtain ⟨x, _, rfl⟩ := hu
  rfl
theorem fcells_one (n : Nat) : ∀ u ∈ fcells n, u.oneCell' = true := fun u hu => by
  simp only [fcells, List.mem_replicate] at hu
  obtain ⟨_, rfl⟩ := hu
  rfl

/-- Scores, whether they have one, and which are done. -/
def RefRows (w : World) (lo T : Nat) (A7 A8 A9 : Option Addr) (rl : List Rn) (dn : List Nat) : Prop :=
  0 < rl.length → ∃ g7 g8 g9, A7 = some ⟨g7, 0, none⟩ ∧ A8 = some ⟨g8, 0, none⟩ ∧ A9 = some ⟨g9, 0, none⟩ ∧ g7 < T ∧ g8 < T ∧ g9 < T ∧ lo ≤ g9 ∧ g9 ≠ g7 ∧ g9 ≠ g8 ∧
    (∀ (k : Nat) (r : Rn), rl[k]? = some r → w.cell? ⟨g7, k, none⟩ = some (.int .u64 r.score) ∧ w.cell? ⟨g8, k, none⟩ = some (.bool r.has)) ∧
    ∃ cur, Blk w g9 4 cur ∧ ∀ q, q < rl.length → cur[q]? = some (.bool (decide (q ∈ dn)))
theorem RefRows.fr {w w' : World} {lo T : Nat} {A7 A8 A9 : Option Addr} {rl : List Rn} {dn : List Nat} {L : List Nat} (h : RefRows w lo T A7 A8 A9 rl dn) (hf : Fr L w w') (hT : T ≤ w.heap.size) (hL : ∀ x ∈ L, T ≤ x) : RefRows w' lo T A7 A8 A9 rl dn := fun hp => by
  obtain ⟨g7, g8, g9, e7, e8, e9, h7, h8, h9, hlo, hn7, hn8, hc, cur, hB, hq⟩ := h hp
  have hn : ∀ g, g < T → g ∉ L := fun g hg hm => by have := hL g hm; omega
  refine ⟨g7, g8, g9, e7, e8, e9, h7, h8, h9, hlo, hn7, hn8, fun k r hk => ?_, cur, hf.blk hB (hn g9 h9), hq⟩
  obtain ⟨c1, c2⟩ := hc k r hk
  exact ⟨(hf.cell (p := ⟨g7, _, none⟩) (Nat.lt_of_lt_of_le h7 hT) (hn g7 h7)).trans c1, (hf.cell (p := ⟨g8, _, none⟩) (Nat.lt_of_lt_of_le h8 hT) (hn g8 h8)).trans c2⟩
theorem RefRows.done {w : World} {lo T g9 : Nat} {A7 A8 : Option Addr} {rl : List Rn} {dn : List Nat} (h : RefRows w lo T A7 A8 (some ⟨g9, 0, none⟩) rl dn) {p : Nat} (hp : p < rl.length) : RefRows (w.setCell ⟨g9, p, none⟩ (.bool true)) lo T A7 A8 (some ⟨g9, 0, none⟩) rl (dn ++ [p]) := fun h0 => by
  obtain ⟨g7, g8, g9', e7, e8, e9, h7, h8, h9, hlo, hn7, hn8, hc, cur, hB, hq⟩ := h h0
  obtain rfl : g9 = g9' := by injection e9 with e9; injection e9
  have hsz : ∀ q, q < rl.length → q < cur.size := fun q hql => by
    have := hq q hql
    rcases Nat.lt_or_ge q cur.size with h1 | h1
    · exact h1
    · rw [Array.getElem?_eq_none h1] at this; cases this
  refine ⟨g7, g8, g9, e7, e8, rfl, h7, h8, h9, hlo, hn7, hn8, fun k r hk => ?_, _, hB.set_ p (.bool true), fun q hql => ?_⟩
  · obtain ⟨c1, c2⟩ := hc k r hk
    exact ⟨(World.cell?_setCell_other w _ _ _ (fun e => hn7 (congrArg Addr.block e))).trans c1, (World.cell?_setCell_other w _ _ _ (fun e => hn8 (congrArg Addr.block e))).trans c2⟩
  · rw [Array.getElem?_setIfInBounds]
    by_cases e : p = q
    · subst e
      rw [if_pos rfl, if_pos (hsz p hql)]
      simp
    · rw [if_neg e, hq q hql]
      have : (q ∈ dn ++ [p]) = (q ∈ dn) := by
        simp only [List.mem_append, List.mem_singleton, eq_iff_iff, or_iff_left_iff_imp]
        intro h; exact absurd h.symm e
      simp only [this]

theorem refRows_of {w : World} {B : Nat} {v7 v8 v9 : Value} {n : Nat} {rl : List Rn} (hn : rl.length = n) (h7 : w.ownsRow B 22 1 v7 n (ucells rl)) (h8 : w.ownsRow B 4 1 v8 n (hcells rl)) (h9 : w.ownsRow B 4 1 v9 n (fcells n)) (a79 : Apart v7 v9) (a89 : Apart v8 v9) :
    ∃ A7 c7 A8 c8 A9 c9, v7 = .slice A7 n c7 ∧ v8 = .slice A8 n c8 ∧ v9 = .slice A9 n c9 ∧ RefRows w B w.heap.size A7 A8 A9 rl [] := by
  obtain ⟨A7, c7, rfl, k7⟩ := own_cell h7
  obtain ⟨A8, c8, rfl, k8⟩ := own_cell h8
  rcases h9.2 with ⟨rfl, h0⟩ | ⟨g9, cap, cur, rfl, hb, hblk, hnc, _, hsz, htk⟩
  · have : n = 0 := h0
    subst this
    exact ⟨_, _, _, _, _, _, rfl, rfl, rfl, fun hp => by omega⟩
  · have hB : Blk w g9 4 cur := hblk
    refine ⟨_, _, _, _, _, _, rfl, rfl, rfl, fun hp => ?_⟩
    rw [hn] at hp
    obtain ⟨g7, rfl, hb7, hl7, hc7⟩ := k7 hp
    obtain ⟨g8, rfl, hb8, hl8, hc8⟩ := k8 hp
    refine ⟨g7, g8, g9, rfl, rfl, rfl, hl7, hl8, hB.lt, hb, ?_, ?_, fun k r hk => ?_, cur, hB, fun q hq => ?_⟩
    · rintro rfl
      exact a79 g9 rfl rfl
    · rintro rfl
      exact a89 g9 rfl rfl
    · have e1 := hc7 k (.int .u64 r.score) (by simp [ucells, hk])
      have e2 := hc8 k (.bool r.has) (by simp [hcells, hk])
      rw [Nat.zero_add] at e1 e2
      exact ⟨e1, e2⟩
    · have h1 : (fcells n)[q]? = some (.bool false) := by
        simp only [fcells, List.getElem?_replicate]
        rw [if_pos (by omega)]
      rw [← htk, List.getElem?_take_of_lt (by omega)] at h1
      simpa using h1

end Go.Proofs.Ytkioniffgmalgaa
