/-
  Arguments opened: a slice of bytes, an act, a slice of acts.
-/
import Derived.Test.YtokdcddmljfgnaaLaw
import Derived.Test.YtokdcddmljfgnaaGreat
import Derived.Lib.SmallJoins
namespace Go.Proofs.Ytokdcddmljfgnaa
open Go.ChangeShapes Go.WideShapes Go.ChangeAt Go.RowKit Go.Deep
set_option linter.unusedVariables false

theorem wf_i64_bd {n : Int} (h : (Lit.int .i64 n).wf = true) : -9223372036854775808 ≤ n ∧ n ≤ 9223372036854775807 := by
  simpa [Lit.wf, IntKind.min, IntKind.max, IntKind.signed, IntKind.bits] using h
theorem wf_u8_bd {n : Int} (h : (Lit.int .u8 n).wf = true) : 0 ≤ n ∧ n < 256 := by
  have : 0 ≤ n ∧ n ≤ 255 := by simpa [Lit.wf, IntKind.min, IntKind.max, IntKind.signed, IntKind.bits] using h
  omega
theorem wf_u16_bd {n : Int} (h : (Lit.int .u16 n).wf = true) : 0 ≤ n ∧ n < 65536 := by
  have : 0 ≤ n ∧ n ≤ 65535 := by simpa [Lit.wf, IntKind.min, IntKind.max, IntKind.signed, IntKind.bits] using h
  omega
theorem cells5 : Try.prog.cellsOf 5 = 1 := by kernel_rfl
theorem add_at (b off n : Nat) : Addr.add ⟨b, off, none⟩ n = ⟨b, off + n, none⟩ := by
  unfold Addr.add; split
  · next h => simp
  · rfl

theorem getD_take (zs : List Int) (n i : Nat) : (zs.take n).getD i 0 = if i < n then zs.getD i 0 else 0 := by
  simp only [List.getD_eq_getElem?_getD, List.getElem?_take]
  split <;> rfl

/-- A slice of bytes. -/
theorem bytes_of {H : Type} {enc : TypeId × Value → H} {W : World} {fuel : Nat} {v : Value} {x : DataW H × List MemPlace}
    (h : DataW.trod enc Try.prog W 0 (fun _ => true) true fuel 22 [v] = some x) (hlt : ∀ p ∈ x.2, p.block < W.heap.size) :
    ∃ (A : Option Addr) (cap : Nat) (xs : List Int), v = .slice A xs.length cap ∧ BytesAt W A xs (· < W.heap.size) ∧ Byts xs ∧ xs.length ≤ cap ∧ cap ≤ 9223372036854775807 := by
  rcases open_ints Try.underlying22 Try.underlying5 cells5 h with ⟨hcs, hx⟩ | ⟨a, len, cap, zs, hcs, _, hl, hm, hz, hx, hcell, hwz⟩
  · simp at hcs
    subst hcs
    exact ⟨none, 0, [], rfl, fun h => absurd h (by simp), byts_nil, Nat.le_refl _, by omega⟩
  · simp at hcs
    subst hcs
    simp only [if_true] at hz
    have hlen : (zs.take len).length = len := by simp; omega
    refine ⟨some a, cap, zs.take len, by rw [hlen], fun hpos => ?_, fun i => ?_, by omega, by unfold maxLen at hm; omega⟩
    · simp at hpos
      obtain ⟨b, off, spot⟩ := a
      have hspot : spot = none := by simpa [Addr.add] using World.cell?_spot (hcell 0 (by omega))
      subst hspot
      have hb := hlt (.cell b off) (by subst hx; exact MemPlace.mem_row.2 ⟨0, by omega, by simp⟩)
      refine ⟨b, off, rfl, hb, hb, fun k hk => ?_⟩
      · simp at hk
        have := hcell k (by omega)
        rw [add_at] at this
        rw [this, getD_take, if_pos (by omega)]
    · rw [getD_take]
      split
      · rcases Nat.lt_or_ge i zs.length with hi | hi
        · rw [List.getD_eq_getElem?_getD, List.getElem?_eq_getElem hi]
          exact wf_u8_bd (hwz _ (List.getElem_mem hi))
        · rw [List.getD_eq_getElem?_getD, List.getElem?_eq_none hi]; simp
      · omega

/-- An act's fields. -/
theorem act_of {H : Type} {enc : TypeId × Value → H} {W : World} {n : Nat} {v0 v1 v2 : Value} {y0 y1 y2 : DataW H × List MemPlace}
    (t0 : DataW.trod enc Try.prog W 0 (fun _ => true) true n 5 [v0] = some y0) (t1 : DataW.trod enc Try.prog W 0 (fun _ => true) true n 3 [v1] = some y1) (t2 : DataW.trod enc Try.prog W 0 (fun _ => true) true n 22 [v2] = some y2)
    (hlt : ∀ p ∈ y2.2, p.block < W.heap.size) :
    ∃ a : ActD, v0 = .int .u8 a.kind ∧ v1 = .int .i64 a.n ∧ v2 = .slice a.at_ a.bs.length a.cap ∧ a.ok W W.heap.size := by
  obtain ⟨n0, e0, _, hw0⟩ := DataW.trod_int Try.underlying5 t0
  obtain ⟨n1, e1, _, hw1⟩ := DataW.trod_int Try.underlying3 t1
  obtain ⟨A, cap, xs, rfl, hX, hB, hc1, hc2⟩ := bytes_of t2 hlt
  simp only [List.cons.injEq, and_true] at e0 e1
  exact ⟨⟨n0, n1, A, cap, xs⟩, e0, e1, rfl, hX, hB, (wf_u8_bd hw0).1, (wf_u8_bd hw0).2, (wf_i64_bd hw1).1, (wf_i64_bd hw1).2, hc1, hc2⟩

theorem acts_of {H : Type} {enc : TypeId × Value → H} {W : World} {fuel : Nat} {a0 : Option Addr} {len cap : Nat} {x : DataW H × List MemPlace}
    (h : DataW.trod enc Try.prog W 0 (fun _ => true) true fuel 26 [.slice a0 len cap] = some x) (hlt : ∀ p ∈ x.2, p.block < W.heap.size) :
    ∃ l : List ActD, l.length = len ∧ Acts W W.heap.size a0 l ∧ len ≤ 9223372036854775807 := by
  rcases open_slice_fields Try.underlying26 Try.underlying24 (by kernel_rfl) (by kernel_rfl) h with ⟨hcs, hx⟩ | ⟨a, len', cap', m, D, Pl, hcs, _, hlc, hcm, hm, hx, hi⟩
  · simp at hcs
    obtain ⟨rfl, rfl, rfl⟩ := hcs
    exact ⟨[], rfl, ⟨fun h => absurd h (by simp), fun a ha => by simp at ha⟩, by omega⟩
  · simp at hcs
    obtain ⟨rfl, rfl, rfl⟩ := hcs
    simp only [if_true] at hm
    subst hm
    obtain ⟨l, hl, hp⟩ := list_of (α := ActD) (p := fun i a' => W.cell? (a.add (i * 3 + 0)) = some (.int .u8 a'.kind) ∧ W.cell? (a.add (i * 3 + 1)) = some (.int .i64 a'.n) ∧ W.cell? (a.add (i * 3 + 2)) = some (.slice a'.at_ a'.bs.length a'.cap) ∧ a'.ok W W.heap.size) len (fun i him => by
      obtain ⟨ys, n, hD, hPl, hlen, hf⟩ := hi i (by omega)
      obtain ⟨v0, y0, c0, hy0, t0⟩ := hf 0 _ rfl
      obtain ⟨v1, y1, c1, hy1, t1⟩ := hf 1 _ rfl
      obtain ⟨v2, y2, c2, hy2, t2⟩ := hf 2 _ rfl
      obtain ⟨a', rfl, rfl, rfl, hok⟩ := act_of t0 t1 t2 (fun p hp => hlt p (by
        subst hx
        refine List.mem_append.2 (.inr (List.mem_flatMap.2 ⟨i, by simp; omega, ?_⟩))
        rw [hPl]
        exact List.mem_flatMap.2 ⟨y2, List.mem_of_getElem? hy2, hp⟩))
      exact ⟨a', c0, c1, c2, hok⟩)
    refine ⟨l, hl, ⟨fun hpos => ?_, fun a' ha' => ?_⟩, by unfold maxLen at hcm; omega⟩
    · obtain ⟨b, off, spot⟩ := a
      obtain ⟨a', ha'⟩ : ∃ a', l[0]? = some a' := ⟨_, List.getElem?_eq_getElem hpos⟩
      have hspot : spot = none := by
        have := (hp 0 a' ha').1
        simpa [Addr.add] using World.cell?_spot this
      subst hspot
      have hb : b < W.heap.size := hlt (.cell b off) (by subst hx; refine List.mem_append.2 (.inl (MemPlace.mem_row.2 ⟨0, ?_, by simp⟩)); simp; omega)
      refine ⟨b, off, rfl, hb, fun i a' ha' => ?_⟩
      obtain ⟨h0, h1, h2, _⟩ := hp i a' ha'
      rw [add_at] at h0 h1 h2
      exact ⟨h0, h1, h2⟩
    · obtain ⟨i, hi⟩ := List.getElem?_of_mem ha'
      exact (hp i a' hi).2.2.2

end Go.Proofs.Ytokdcddmljfgnaa
