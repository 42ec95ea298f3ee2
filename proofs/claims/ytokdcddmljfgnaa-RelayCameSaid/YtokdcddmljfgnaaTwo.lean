/-
  Two rings beside the law's bytes.
-/
import Derived.Test.YtokdcddmljfgnaaAwake01
namespace Go.Proofs.Ytokdcddmljfgnaa
open Go.RowKit Go.Shelf
set_option linter.unusedVariables false

theorem put_fit (rb bb N n : Nat) (xs bs : List Int) (A : Option Addr) (c : Nat) (w : World) (hR : RingS w rb bb N xs) (hX : BytesAt w A bs (fun b => b ≠ rb ∧ b ≠ bb)) (hb : Byts bs) (hn : bs.length = n) (hl : n ≤ c) (hc : c ≤ 9223372036854775807) (hfit : xs.length + n ≤ N) :
    Calls Try.prog 13 #[.pointer (some ⟨rb, 0, none⟩), .slice A n c] w fun e w' => e = .returned (.int .i64 n) ∧ RingS w' rb bb N (xs ++ bs) ∧ Fr [rb, bb] w w' := by
  have := put_calls rb bb N xs bs A c w hR hX hb (by omega) hc
  rw [show min bs.length (N - xs.length) = n by omega, List.take_of_length_le (by omega), hn] at this
  exact this
theorem skip_fit (rb bb N k : Nat) (xs : List Int) (w : World) (hR : RingS w rb bb N xs) (hk : k ≤ xs.length) :
    Calls Try.prog 16 #[.pointer (some ⟨rb, 0, none⟩), .int .i64 k] w fun e w' => e = .returned (.int .i64 0) ∧ RingS w' rb bb N (xs.drop k) ∧ Fr [rb] w w' := by
  have := skip_calls rb bb N xs k w hR
  rw [skipR, skipL, if_neg (by omega), if_neg (by omega), Int.toNat_natCast] at this
  exact this
theorem take_fit (rb bb N k : Nat) (xs : List Int) (w : World) (hR : RingS w rb bb N xs) (hk : k ≤ 9223372036854775807) :
    Calls Try.prog 15 #[.pointer (some ⟨rb, 0, none⟩), .int .i64 k] w fun e w' => ∃ v, e = .returned v ∧ w'.ownsRow w.heap.size 5 1 v (min k xs.length) (bcells (xs.take (min k xs.length))) ∧ RingS w' rb bb N (xs.drop (min k xs.length)) ∧ Fr [rb] w w' := by
  have := take_calls rb bb N xs k w hR (by omega)
  rw [Int.toNat_natCast] at this
  exact this

theorem same_self (xs : List Int) (A B : Option Addr) (c d : Nat) (w : World) (hX : BytesAt w A xs (fun _ => True)) (hY : BytesAt w B xs (fun _ => True)) (hl : xs.length ≤ 9223372036854775807) :
    Calls Try.prog 24 #[.slice A xs.length c, .slice B xs.length d] w fun e w' => e = .returned (.bool true) ∧ Fr [] w w' := by
  have := same_calls xs xs A B c d w hX hY hl hl
  rwa [decide_eq_true rfl] at this

structure Two (w wx : World) (r1 b1 r2 b2 N : Nat) (xs ys : List Int) (A : Option Addr) (bs : List Int) : Prop where
  lo : w.heap.size ≤ r1 ∧ w.heap.size ≤ b1 ∧ w.heap.size ≤ r2 ∧ w.heap.size ≤ b2
  ne : r1 ≠ r2 ∧ r1 ≠ b2 ∧ b1 ≠ r2 ∧ b1 ≠ b2
  one : RingS wx r1 b1 N xs
  two : RingS wx r2 b2 N ys
  at_ : BytesAt wx A bs (· < w.heap.size)
  fr : Fr [] w wx

section
variable {w wx wy : World} {r1 b1 r2 b2 N : Nat} {xs ys zs : List Int} {A : Option Addr} {bs : List Int}
theorem Two.fr0 (h : Two w wx r1 b1 r2 b2 N xs ys A bs) (hf : Fr [] wx wy) : Two w wy r1 b1 r2 b2 N xs ys A bs :=
  ⟨h.lo, h.ne, h.one.fr hf (by simp) (by simp), h.two.fr hf (by simp) (by simp), h.at_.fr hf (by simp), h.fr.trans hf (by simp)⟩
theorem Two.fr1 (h : Two w wx r1 b1 r2 b2 N xs ys A bs) {L : List Nat} (hL : ∀ x ∈ L, x = r1 ∨ x = b1) (hf : Fr L wx wy) (hr : RingS wy r1 b1 N zs) : Two w wy r1 b1 r2 b2 N zs ys A bs :=
  ⟨h.lo, h.ne, hr, h.two.fr hf (fun hm => by have := hL _ hm; have := h.ne; omega) (fun hm => by have := hL _ hm; have := h.ne; omega), h.at_.fr hf (fun b hb _ hm => by have := hL _ hm; have := h.lo; omega), h.fr.trans hf (fun x hx => .inr (by have := hL x hx; have := h.lo; omega))⟩
theorem Two.fr2 (h : Two w wx r1 b1 r2 b2 N xs ys A bs) {L : List Nat} (hL : ∀ x ∈ L, x = r2 ∨ x = b2) (hf : Fr L wx wy) (hr : RingS wy r2 b2 N zs) : Two w wy r1 b1 r2 b2 N xs zs A bs :=
  ⟨h.lo, h.ne, h.one.fr hf (fun hm => by have := hL _ hm; have := h.ne; omega) (fun hm => by have := hL _ hm; have := h.ne; omega), hr, h.at_.fr hf (fun b hb _ hm => by have := hL _ hm; have := h.lo; omega), h.fr.trans hf (fun x hx => .inr (by have := hL x hx; have := h.lo; omega))⟩
theorem Two.frL (h : Two w wx r1 b1 r2 b2 N xs ys A bs) {L : List Nat} (hL : ∀ x ∈ L, x ≠ r1 ∧ x ≠ b1 ∧ x ≠ r2 ∧ x ≠ b2 ∧ w.heap.size ≤ x) (hf : Fr L wx wy) : Two w wy r1 b1 r2 b2 N xs ys A bs :=
  ⟨h.lo, h.ne, h.one.fr hf (fun hm => (hL _ hm).1 rfl) (fun hm => (hL _ hm).2.1 rfl), h.two.fr hf (fun hm => (hL _ hm).2.2.1 rfl) (fun hm => (hL _ hm).2.2.2.1 rfl), h.at_.fr hf (fun b hb _ hm => by have := hL _ hm; omega), h.fr.trans hf (fun x hx => .inr (hL x hx).2.2.2.2)⟩
theorem Two.x1 (h : Two w wx r1 b1 r2 b2 N xs ys A bs) : BytesAt wx A bs (fun b => b ≠ r1 ∧ b ≠ b1) := h.at_.imp (fun b _ hb => by have := h.lo; omega)
theorem Two.x2 (h : Two w wx r1 b1 r2 b2 N xs ys A bs) : BytesAt wx A bs (fun b => b ≠ r2 ∧ b ≠ b2) := h.at_.imp (fun b _ hb => by have := h.lo; omega)
end

theorem BytesAt.reads {w : World} {A : Option Addr} {xs : List Int} {ok : Nat → Prop} (h : BytesAt w A xs ok) : Reads w w.heap.size 1 A xs.length (bcells xs) := by
  refine ⟨by simp [bcells], fun h0 => ?_⟩
  obtain ⟨b, off, rfl, _, hb, hc⟩ := h h0
  refine ⟨⟨b, off, none⟩, rfl, hb, fun j u hu => ?_⟩
  have hj : j < xs.length := by
    rcases Nat.lt_or_ge j xs.length with h | h
    · exact h
    · simp [bcells, List.getElem?_eq_none h] at hu
  have e : (⟨b, off, none⟩ : Addr).add j = ⟨b, off + j, none⟩ := by unfold Addr.add; split <;> simp_all
  rw [e, hc j hj, ← hu]
  simp [bcells, List.getElem?_eq_getElem hj, List.getD_eq_getElem?_getD]

/-- A cut of a slice of bytes. -/
def cutA (A : Option Addr) (m l : Nat) : Option Addr := if m = l then A else A.map (·.add (l * 1))
theorem slice_h (A : Option Addr) (len cap h : Nat) (h2 : h ≤ cap) (wx : World) :
    (Instr.sliceAt 22 (.slice A len cap) none (some (.int .i64 h)) none).run Try.prog wx = .ok (.slice (cutA A cap 0) h cap) wx := by
  rw [run_sliceAt_slice wx 22 _ _ _ _ und22, run_slice_h wx 22 A len cap und22 .i64 h (by omega) (by omega), elem22]
  simp only [Result.andThen, sliced, Int.toNat_natCast]
  rfl
theorem slice_l (A : Option Addr) (len cap l : Nat) (h2 : l ≤ len) (wx : World) :
    (Instr.sliceAt 22 (.slice A len cap) (some (.int .i64 l)) none none).run Try.prog wx = .ok (.slice (cutA A cap l) (len - l) (cap - l)) wx := by
  rw [run_sliceAt_slice wx 22 _ _ _ _ und22, run_slice_l wx 22 A len cap und22 .i64 l (by omega) (by omega), elem22]
  simp only [Result.andThen, sliced, Int.toNat_natCast]
  rfl
theorem cut_at {w : World} {A : Option Addr} {bs : List Int} {ok : Nat → Prop} {m l n : Nat} (h : BytesAt w A bs ok) (h1 : l + n ≤ bs.length) (h2 : bs.length ≤ m) : BytesAt w (cutA A m l) ((bs.drop l).take n) ok := by
  intro hp
  simp at hp
  obtain ⟨b, o, rfl, ho, hb, hc⟩ := h (by omega)
  rw [cutA, if_neg (by omega)]
  refine ⟨b, o + l, by simp [Addr.add], ho, hb, fun k hk => ?_⟩
  simp at hk
  rw [Nat.add_assoc, hc (l + k) (by omega)]
  simp only [List.getD_eq_getElem?_getD, List.getElem?_take, List.getElem?_drop]
  rw [if_pos (by omega)]

end Go.Proofs.Ytokdcddmljfgnaa
