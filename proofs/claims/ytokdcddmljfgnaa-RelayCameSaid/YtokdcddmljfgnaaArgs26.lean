/-
  Arguments opened: an act of a relay, a slice of them.
-/
import Derived.Test.YtokdcddmljfgnaaArgs
import Derived.Test.YtokdcddmljfgnaaGreat26
namespace Go.Proofs.Ytokdcddmljfgnaa
open Go.ChangeShapes Go.WideShapes Go.ChangeAt Go.RowKit Go.Deep
set_option linter.unusedVariables false

/-- An act's fields. -/
theorem actR_of {H : Type} {enc : TypeId × Value → H} {W : World} {n : Nat} {v0 v1 v2 v3 : Value} {y0 y1 y2 y3 : DataW H × List MemPlace}
    (t0 : DataW.trod enc Try.prog W 0 (fun _ => true) true n 5 [v0] = some y0) (t1 : DataW.trod enc Try.prog W 0 (fun _ => true) true n 3 [v1] = some y1) (t2 : DataW.trod enc Try.prog W 0 (fun _ => true) true n 3 [v2] = some y2) (t3 : DataW.trod enc Try.prog W 0 (fun _ => true) true n 22 [v3] = some y3)
    (hlt : ∀ p ∈ y3.2, p.block < W.heap.size) :
    ∃ a : ActR, v0 = .int .u8 a.kind ∧ v1 = .int .i64 a.side ∧ v2 = .int .i64 a.n ∧ v3 = .slice a.at_ a.bs.length a.cap ∧ a.ok W W.heap.size := by
  obtain ⟨n0, e0, _, hw0⟩ := DataW.trod_int Try.underlying5 t0
  obtain ⟨n1, e1, _, hw1⟩ := DataW.trod_int Try.underlying3 t1
  obtain ⟨n2, e2, _, hw2⟩ := DataW.trod_int Try.underlying3 t2
  obtain ⟨A, cap, xs, rfl, hX, hB, hc1, hc2⟩ := bytes_of t3 hlt
  simp only [List.cons.injEq, and_true] at e0 e1 e2
  exact ⟨⟨n0, n1, n2, A, cap, xs⟩, e0, e1, e2, rfl, hX, hB, (wf_u8_bd hw0).1, (wf_u8_bd hw0).2, wf_i64_bd hw1, (wf_i64_bd hw2).1, (wf_i64_bd hw2).2, hc1, hc2⟩

theorem actsR_of {H : Type} {enc : TypeId × Value → H} {W : World} {fuel : Nat} {a0 : Option Addr} {len cap : Nat} {x : DataW H × List MemPlace}
    (h : DataW.trod enc Try.prog W 0 (fun _ => true) true fuel 56 [.slice a0 len cap] = some x) (hlt : ∀ p ∈ x.2, p.block < W.heap.size) :
    ∃ l : List ActR, l.length = len ∧ ActsR W W.heap.size a0 l ∧ len ≤ 9223372036854775807 := by
  rcases open_slice_fields Try.underlying56 Try.underlying54 (by kernel_rfl) (by kernel_rfl) h with ⟨hcs, hx⟩ | ⟨a, len', cap', m, D, Pl, hcs, _, hlc, hcm, hm, hx, hi⟩
  · simp at hcs
    obtain ⟨rfl, rfl, rfl⟩ := hcs
    exact ⟨[], rfl, ⟨fun h => absurd h (by simp), fun a ha => by simp at ha⟩, by omega⟩
  · simp at hcs
    obtain ⟨rfl, rfl, rfl⟩ := hcs
    simp only [if_true] at hm
    subst hm
    obtain ⟨l, hl, hp⟩ := list_of (α := ActR) (p := fun i a' => W.cell? (a.add (i * 4 + 0)) = some (.int .u8 a'.kind) ∧ W.cell? (a.add (i * 4 + 1)) = some (.int .i64 a'.side) ∧ W.cell? (a.add (i * 4 + 2)) = some (.int .i64 a'.n) ∧ W.cell? (a.add (i * 4 + 3)) = some (.slice a'.at_ a'.bs.length a'.cap) ∧ a'.ok W W.heap.size) len (fun i him => by
      obtain ⟨ys, n, hD, hPl, hlen, hf⟩ := hi i (by omega)
      obtain ⟨v0, y0, c0, hy0, t0⟩ := hf 0 _ rfl
      obtain ⟨v1, y1, c1, hy1, t1⟩ := hf 1 _ rfl
      obtain ⟨v2, y2, c2, hy2, t2⟩ := hf 2 _ rfl
      obtain ⟨v3, y3, c3, hy3, t3⟩ := hf 3 _ rfl
      obtain ⟨a', rfl, rfl, rfl, rfl, hok⟩ := actR_of t0 t1 t2 t3 (fun p hp => hlt p (by
        subst hx
        refine List.mem_append.2 (.inr (List.mem_flatMap.2 ⟨i, by simp; omega, ?_⟩))
        rw [hPl]
        exact List.mem_flatMap.2 ⟨y3, List.mem_of_getElem? hy3, hp⟩))
      exact ⟨a', c0, c1, c2, c3, hok⟩)
    refine ⟨l, hl, ⟨fun hpos => ?_, fun a' ha' => ?_⟩, by unfold maxLen at hcm; omega⟩
    · obtain ⟨b, off, spot⟩ := a
      obtain ⟨a', ha'⟩ : ∃ a', l[0]? = some a' := ⟨_, List.getElem?_eq_getElem hpos⟩
      have hspot : spot = none := by
        have := (hp 0 a' ha').1
        simpa [Addr.add] using World.cell?_spot this
      subst hspot
      have hb : b < W.heap.size := hlt (.cell b off) (by subst hx; refine List.mem_append.2 (.inl (MemPlace.mem_row.2 ⟨0, ?_, by simp⟩)); simp; omega)
      refine ⟨b, off, rfl, hb, fun i a' ha' => ?_⟩
      obtain ⟨h0, h1, h2, h3, _⟩ := hp i a' ha'
      rw [add_at] at h0 h1 h2 h3
      exact ⟨h0, h1, h2, h3⟩
    · obtain ⟨i, hi⟩ := List.getElem?_of_mem ha'
      exact (hp i a' hi).2.2.2.2

end Go.Proofs.Ytokdcddmljfgnaa
