/-
  An argument of type []Act, opened into a list of acts.
-/
import Derived.Test.YtlhogpnfongfmaaLaw
import Derived.Test.YtlhogpnfongfmaaGreat
namespace Go.Proofs.Ytlhogpnfongfmaa
open Go.ChangeShapes Go.WideShapes Go.ChangeAt Go.RowKit Go.Deep

theorem wf_i64_bd {n : Int} (h : (Lit.int .i64 n).wf = true) : -9223372036854775808 ≤ n ∧ n ≤ 9223372036854775807 := by
  simpa [Lit.wf, IntKind.min, IntKind.max, IntKind.signed, IntKind.bits] using h

theorem add_at (b off n : Nat) : Addr.add ⟨b, off, none⟩ n = ⟨b, off + n, none⟩ := by
  unfold Addr.add; split
  · next h => simp
  · rfl

theorem acts_of {H : Type} {enc : TypeId × Value → H} {W : World} {fuel : Nat} {a0 : Option Addr} {len cap : Nat} {x : DataW H × List MemPlace}
    (h : DataW.trod enc Try.prog W 0 (fun _ => true) true fuel 22 [.slice a0 len cap] = some x) (hlt : ∀ p ∈ x.2, p.block < W.heap.size) :
    ∃ l : List ActD, l.length = len ∧ Acts W W.heap.size a0 l ∧ len ≤ 9223372036854775807 ∧
      ∀ (i : Nat) (a : ActD), l[i]? = some a → a.name.size ≤ maxLen ∧ -9223372036854775808 ≤ a.most ∧ a.most ≤ 9223372036854775807 := by
  rcases open_slice_fields Try.underlying22 Try.underlying28 (by kernel_rfl) (by kernel_rfl) h with ⟨hcs, hx⟩ | ⟨a, len', cap', m, D, Pl, hcs, _, hlc, hcm, hm, hx, hi⟩
  · simp at hcs
    obtain ⟨rfl, rfl, rfl⟩ := hcs
    exact ⟨[], rfl, fun h => absurd h (by simp), by omega, fun i a ha => by simp at ha⟩
  · simp at hcs
    obtain ⟨rfl, rfl, rfl⟩ := hcs
    simp only [if_true] at hm
    subst hm
    obtain ⟨l, hl, hp⟩ := list_of (α := ActD) (p := fun i a' => W.cell? (a.add (i * 3 + 0)) = some (.bool a'.give) ∧ W.cell? (a.add (i * 3 + 1)) = some (.string a'.name) ∧ W.cell? (a.add (i * 3 + 2)) = some (.int .i64 a'.most) ∧ a'.name.size ≤ maxLen ∧ -9223372036854775808 ≤ a'.most ∧ a'.most ≤ 9223372036854775807) len (fun i him => by
      obtain ⟨ys, n, _, _, _, hf⟩ := hi i (by omega)
      obtain ⟨v0, y0, c0, _, t0⟩ := hf 0 _ rfl
      obtain ⟨v1, y1, c1, _, t1⟩ := hf 1 _ rfl
      obtain ⟨v2, y2, c2, _, t2⟩ := hf 2 _ rfl
      obtain ⟨b0, e0, _⟩ := DataW.trod_bool Try.underlying4 t0
      obtain ⟨s1, e1, _, hs1⟩ := DataW.trod_string Try.underlying9 t1
      obtain ⟨n2, e2, _, hw2⟩ := DataW.trod_int Try.underlying3 t2
      simp only [List.cons.injEq, and_true] at e0 e1 e2
      subst e0 e1 e2
      exact ⟨⟨b0, s1, n2⟩, c0, c1, c2, hs1, wf_i64_bd hw2⟩)
    refine ⟨l, hl, fun hpos => ?_, by unfold maxLen at hcm; omega, fun i a' ha' => (hp i a' ha').2.2.2⟩
    obtain ⟨b, off, spot⟩ := a
    obtain ⟨a', ha'⟩ : ∃ a', l[0]? = some a' := ⟨_, List.getElem?_eq_getElem hpos⟩
    have hspot : spot = none := by
      have := (hp 0 a' ha').1
      simpa [Addr.add] using World.cell?_spot this
    subst hspot
    have hb : b < W.heap.size := hlt (.cell b off) (by subst hx; refine List.mem_append.2 (.inl (MemPlace.mem_row.2 ⟨0, ?_, by simp⟩)); simp; omega)
    refine ⟨b, off, rfl, hb, fun i a' ha' => ?_⟩
    obtain ⟨h0, h1, h2, _⟩ := hp i a' ha'
    rw [add_at] at h0 h1 h2
    exact ⟨h0, h1, h2⟩

end Go.Proofs.Ytlhogpnfongfmaa
