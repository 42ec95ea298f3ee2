/-
  An argument of type []Runner, opened into a list of names and weights.
-/
import Derived.Test.YtkioniffgmalgaaArgs7
import Derived.Test.YtkioniffgmalgaaRunRow
namespace Go.Proofs.Ytkioniffgmalgaa
open Go.ChangeShapes Go.WideShapes Go.ChangeAt Go.RowKit Go.Deep
set_option linter.unusedVariables false

theorem add_at (b off n : Nat) : Addr.add ⟨b, off, none⟩ n = ⟨b, off + n, none⟩ := by
  unfold Addr.add; split
  · next h => simp
  · rfl
theorem bytes46 : Try.prog.bytesOf 46 = 24 := by kernel_rfl

/-- What a row of runners is as an argument. -/
def RunsBd (l : List (ByteArray × Int)) : Prop := (∀ r ∈ l, r.1.size ≤ 9223372036854775807) ∧ ∀ r ∈ l, -9223372036854775808 ≤ r.2 ∧ r.2 ≤ 9223372036854775807

theorem runs_of {H : Type} {enc : TypeId × Value → H} {W : World} {fuel : Nat} {a0 : Option Addr} {len cap : Nat} {x : DataW H × List MemPlace}
    (h : DataW.trod enc Try.prog W 0 (fun _ => true) true fuel 37 [.slice a0 len cap] = some x) (hlt : ∀ p ∈ x.2, p.block < W.heap.size) :
    ∃ l : List (ByteArray × Int), l.length = len ∧ RunsAt W a0 l (fun _ => True) ∧ RunsBd l ∧ (len = 0 ∨ ∃ es sp, x.1 = .slice es sp ∧ es.length = len) := by
  rcases open_slice_fields Try.underlying37 Try.underlying46 (by kernel_rfl) (by kernel_rfl) h with ⟨hcs, hx⟩ | ⟨a, len', cap', m, D, Pl, hcs, _, hlc, hcm, hm, hx, hi⟩
  · simp at hcs
    obtain ⟨rfl, rfl, rfl⟩ := hcs
    exact ⟨[], rfl, fun h => absurd h (by simp), ⟨by simp, by simp⟩, .inl rfl⟩
  · simp at hcs
    obtain ⟨rfl, rfl, rfl⟩ := hcs
    simp only [if_true] at hm
    subst hm
    obtain ⟨l, hl, hp⟩ := list_of (α := ByteArray × Int) (p := fun i a' => W.cell? (a.add (i * 2 + 0)) = some (.string a'.1) ∧ W.cell? (a.add (i * 2 + 1)) = some (.int .i64 a'.2) ∧ a'.1.size ≤ maxLen ∧ -9223372036854775808 ≤ a'.2 ∧ a'.2 ≤ 9223372036854775807) len (fun i him => by
      obtain ⟨ys, n, _, _, _, hf⟩ := hi i (by omega)
      obtain ⟨v0, y0, c0, _, t0⟩ := hf 0 _ rfl
      obtain ⟨v1, y1, c1, _, t1⟩ := hf 1 _ rfl
      obtain ⟨s1, e1, _, hs1⟩ := DataW.trod_string Try.underlying9 t0
      obtain ⟨n2, e2, _, hw2⟩ := DataW.trod_int Try.underlying3 t1
      simp only [List.cons.injEq, and_true] at e1 e2
      subst e1 e2
      exact ⟨⟨s1, n2⟩, c0, c1, hs1, wf_i64_bd hw2⟩)
    have hat : ∀ r ∈ l, r.1.size ≤ maxLen ∧ -9223372036854775808 ≤ r.2 ∧ r.2 ≤ 9223372036854775807 := fun r hr => by
      obtain ⟨i, hi, rfl⟩ := List.mem_iff_getElem.1 hr
      exact (hp i _ (List.getElem?_eq_getElem hi)).2.2
    refine ⟨l, hl, fun hpos => ?_, ⟨fun r hr => (hat r hr).1, fun r hr => (hat r hr).2⟩, .inr ⟨_, _, by rw [hx], by simp⟩⟩
    obtain ⟨b, off, spot⟩ := a
    obtain ⟨a', ha'⟩ : ∃ a', l[0]? = some a' := ⟨_, List.getElem?_eq_getElem hpos⟩
    have hspot : spot = none := by
      have := (hp 0 a' ha').1
      simpa [Addr.add] using World.cell?_spot this
    subst hspot
    have hb : b < W.heap.size := hlt (.cell b off) (by subst hx; refine List.mem_append.2 (.inl (MemPlace.mem_row.2 ⟨0, ?_, by simp⟩)); simp; omega)
    refine ⟨b, off, rfl, trivial, hb, fun i a' ha' => ?_⟩
    obtain ⟨h0, h1, _⟩ := hp i a' ha'
    rw [add_at] at h0 h1
    exact ⟨h0, h1⟩

theorem runs_reach {H : Type} {x : DataW H} {len : Nat} (h : len = 0 ∨ ∃ es sp, x = .slice es sp ∧ es.length = len) (hs : ∀ es sp, x = .slice es sp → (es.length + sp.length) * Try.prog.bytesOf 46 ≤ reachBytes) : len * 24 ≤ 140737488355328 := by
  rcases h with rfl | ⟨es, sp, e, hl⟩
  · omega
  · have := hs es sp e
    rw [bytes46] at this
    have h2 := reachBytes_lt
    have h3 : len * 24 ≤ (es.length + sp.length) * 24 := by rw [← hl]; omega
    omega

end Go.Proofs.Ytkioniffgmalgaa
