/-
  rank's Order by its contract.
-/
import Derived.Test.YtkioniffgmalgaaRunners
namespace Go.Proofs.Ytkioniffgmalgaa
open Go.RowKit Go.Sort Sp
set_option linter.unusedVariables false

theorem info3 : (Try.prog.info? 3).map (fun i => (i.zero, i.size, i.bytes)) = some (some (.int .i64 0), 1, 8) := by kernel_rfl
theorem info78 : (Try.prog.info? 78).map (fun i => (i.zero, i.size, i.bytes)) = some (some (.agg #[.int .i64 0, .int .u64 0, .bool false]), 3, 24) := by kernel_rfl

/-- Integers at A. -/
def IntsAt (w : World) (A : Option Addr) (ns : List Int) (ok : Nat → Prop) : Prop :=
  0 < ns.length → ∃ b off, A = some ⟨b, off, none⟩ ∧ ok b ∧ b < w.heap.size ∧ ∀ (k : Nat) (s : Int), ns[k]? = some s → w.cell? ⟨b, off + k, none⟩ = some (.int .i64 s)
theorem IntsAt.fr {w w' : World} {A : Option Addr} {ns : List Int} {ok : Nat → Prop} {L : List Nat} (h : IntsAt w A ns ok) (hf : Fr L w w') (hL : ∀ b, ok b → b < w.heap.size → b ∉ L) : IntsAt w' A ns ok := fun hp => by
  obtain ⟨b, off, e, ho, hb, hc⟩ := h hp
  exact ⟨b, off, e, ho, Nat.lt_of_lt_of_le hb hf.size, fun k s hk => (hf.cell (p := ⟨b, _, none⟩) hb (hL b ho hb)).trans (hc k s hk)⟩

def icells (l : List Int) : List Value := l.map (Value.int .i64)
def rcells (l : List Rn) : List Value := l.flatMap encR
theorem rcells_append (l m : List Rn) : rcells (l ++ m) = rcells l ++ rcells m := by simp [rcells]
theorem rcells_one (r : Rn) : rcells [r] = encR r := by simp [rcells]
theorem rcells_len (l : List Rn) : (rcells l).length = l.length * 3 := by
  induction l with
  | nil => rfl
  | cons x l ih => rw [show rcells (x :: l) = encR x ++ rcells l by simp [rcells], List.length_append, ih]; simp [encR]; omega
theorem encR_one (r : Rn) : ∀ u ∈ encR r, u.oneCell' = true := fun v hv => by simp [encR] at hv; rcases hv with rfl | rfl | rfl <;> rfl
theorem rcells_get : ∀ (l : List Rn) (t : Nat), t < l.length * 3 → (rcells l)[t]? = some ((encR l.toArray[t / 3]!)[t % 3]!)
  | [], t, h => by simp at h
  | x :: l, t, h => by
    rw [show rcells (x :: l) = encR x ++ rcells l by simp [rcells]]
    rcases Nat.lt_or_ge t 3 with h3 | h3
    · rw [List.getElem?_append_left (by simp [encR]; omega)]
      have e1 : t / 3 = 0 := by omega
      have e2 : t % 3 = t := by omega
      rw [e1, e2]
      match t, h3 with
      | 0, _ => rfl
      | 1, _ => rfl
      | 2, _ => rfl
    · rw [List.getElem?_append_right (by simp [encR]; omega)]
      have hl : (encR x).length = 3 := rfl
      have h' : t < l.length * 3 + 3 := by simpa [Nat.add_mul] using h
      rw [hl, rcells_get l (t - 3) (by omega)]
      have e1 : t / 3 = (t - 3) / 3 + 1 := by omega
      have e2 : (t - 3) % 3 = t % 3 := by omega
      rw [e1, e2]
      simp

theorem holds_of_own {w : World} {base : Nat} {v : Value} {l : List Rn} (h : w.ownsRow base 78 3 v l.length (rcells l)) (hn : 0 < l.length) :
    ∃ g cap, v = .slice (some ⟨g, 0, none⟩) l.toArray.size cap ∧ base ≤ g ∧ g < w.heap.size ∧ HoldsK encR 3 w g 0 l.toArray := by
  rcases h.2 with ⟨_, h0⟩ | ⟨g, cap, cur, rfl, hb, hblk, hnc, _, hsz, htk⟩
  · omega
  · have hB : Blk w g 78 cur := hblk
    refine ⟨g, cap, rfl, hb, hB.lt, fun j hj => ⟨?_, ?_⟩⟩
    · rw [size_flatK] at hj
      have hj' : j < l.length * 3 := by simpa using hj
      rw [get_flatK _ _ _ _ hj, Nat.zero_add, id]
      refine (hB.cell j).trans ?_
      rw [← rcells_get l j hj', ← htk, List.getElem?_take_of_lt hj']
      simp
    · exact hB.frozen _

/-- The runners of names and weights. -/
def runs (key : List Int) (ns : List ByteArray) (ws : List Int) : List Rn := (List.range (min ns.length ws.length)).map fun i => ⟨i, scS key (ns.getD i ByteArray.empty) (ws.getD i 0), decide (0 < ws.getD i 0)⟩
theorem runs_len (key : List Int) (ns : List ByteArray) (ws : List Int) : (runs key ns ws).length = min ns.length ws.length := by simp [runs]
theorem runs_get (key : List Int) (ns : List ByteArray) (ws : List Int) {k : Nat} {s : ByteArray} {x : Int} (hs : ns[k]? = some s) (hx : ws[k]? = some x) : (runs key ns ws)[k]? = some ⟨k, scS key s x, decide (0 < x)⟩ := by
  have h1 : k < ns.length := by
    rcases Nat.lt_or_ge k ns.length with h | h
    · exact h
    · rw [List.getElem?_eq_none h] at hs; cases hs
  have h2 : k < ws.length := by
    rcases Nat.lt_or_ge k ws.length with h | h
    · exact h
    · rw [List.getElem?_eq_none h] at hx; cases hx
  have e : (List.range (min ns.length ws.length))[k]? = some k := List.getElem?_range (by omega)
  unfold runs
  rw [List.getElem?_map, e]
  simp [List.getD_eq_getElem?_getD, hs, hx]
/-- The order that Order tells. -/
def ordS (key : List Int) (ns : List ByteArray) (ws : List Int) : List Int := (ordR (runs key ns ws)).map fun r => (r.place : Int)
theorem ordR_len (l : List Rn) : (ordR l).length = l.length := by simp [ordR]
theorem ordS_len (key : List Int) (ns : List ByteArray) (ws : List Int) : (ordS key ns ws).length = min ns.length ws.length := by simp [ordS, ordR_len, runs_len]

theorem reads_new (W : World) (t : TypeId) (cs : List Value) (s : Nat) (hs : cs.length = 1 * s) : Reads (W.alloc (.cells cs.toArray t)) (W.heap.size + 1) s (some ⟨W.heap.size, 0, none⟩) 1 cs :=
  ⟨hs, fun _ => ⟨_, rfl, Nat.lt_succ_self _, fun j u hu => by
    have hadd : (⟨W.heap.size, 0, none⟩ : Addr).add j = ⟨W.heap.size, j, none⟩ := by unfold Addr.add; split <;> simp_all
    rw [hadd]
    refine ((Blk.new W t cs.toArray).cell j).trans ?_
    simpa using hu⟩⟩

/-- Runners at A, in a block from base on. -/
def RowR (w : World) (base : Nat) (A : Option Addr) (l : List Rn) : Prop :=
  0 < l.length → ∃ g, A = some ⟨g, 0, none⟩ ∧ base ≤ g ∧ g < w.heap.size ∧ ∀ (k : Nat) (r : Rn), l[k]? = some r → w.cell? ⟨g, k * 3, none⟩ = some (.int .i64 r.place) ∧ w.cell? ⟨g, k * 3 + 1, none⟩ = some (.int .u64 r.score) ∧ w.cell? ⟨g, k * 3 + 2, none⟩ = some (.bool r.has)
theorem RowR.fr {w w' : World} {base : Nat} {A : Option Addr} {l : List Rn} {L : List Nat} (h : RowR w base A l) (hf : Fr L w w') (hL : ∀ x ∈ L, x < base ∨ w.heap.size ≤ x) : RowR w' base A l := fun hp => by
  obtain ⟨g, e, hb, hlt, hc⟩ := h hp
  have hn : g ∉ L := fun hm => by have := hL g hm; omega
  refine ⟨g, e, hb, Nat.lt_of_lt_of_le hlt hf.size, fun k r hk => ?_⟩
  obtain ⟨c0, c1, c2⟩ := hc k r hk
  exact ⟨(hf.cell (p := ⟨g, _, none⟩) hlt hn).trans c0, (hf.cell (p := ⟨g, _, none⟩) hlt hn).trans c1, (hf.cell (p := ⟨g, _, none⟩) hlt hn).trans c2⟩
theorem rowR_holds {w : World} {base g : Nat} {l : List Rn} (h : HoldsK encR 3 w g 0 l.toArray) (hb : base ≤ g) (hlt : g < w.heap.size) : RowR w base (some ⟨g, 0, none⟩) l := fun _ => by
  refine ⟨g, rfl, hb, hlt, fun k r hk => ?_⟩
  have hkl : k < l.length := by
    rcases Nat.lt_or_ge k l.length with h | h
    · exact h
    · rw [List.getElem?_eq_none h] at hk; cases hk
  have hr : l.toArray[k]! = r := by
    rw [List.getElem!_toArray, List.getElem!_eq_getElem?_getD, hk]; rfl
  have h0 := (h.cell (i := k) (c := 0) (by simpa using hkl) (by omega)).1
  have h1 := (h.cell (i := k) (c := 1) (by simpa using hkl) (by omega)).1
  have h2 := (h.cell (i := k) (c := 2) (by simpa using hkl) (by omega)).1
  rw [hr, Nat.zero_add] at h0 h1 h2
  exact ⟨h0, h1, h2⟩

end Go.Proofs.Ytkioniffgmalgaa
