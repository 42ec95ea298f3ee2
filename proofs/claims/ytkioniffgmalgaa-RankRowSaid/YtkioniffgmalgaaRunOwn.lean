/-
  Runners in a row of the call's own; which one a law picks; the plain laws of RankLess and RankMore at a place.
-/
import Derived.Test.YtkioniffgmalgaaWithout
namespace Go.Proofs.Ytkioniffgmalgaa
open Go.RowKit Go.Sort Sp
set_option linter.unusedVariables false

theorem info46 : (Try.prog.info? 46).map (fun i => (i.zero, i.size, i.bytes)) = some (some (.agg #[.string ByteArray.empty, .int .i64 0]), 2, 24) := by kernel_rfl

theorem IntsAt.imp {w : World} {A : Option Addr} {ns : List Int} {ok ok' : Nat → Prop} (h : IntsAt w A ns ok) (hi : ∀ b, b < w.heap.size → ok b → ok' b) : IntsAt w A ns ok' := fun hp => by
  obtain ⟨b, off, e, ho, hb, hc⟩ := h hp
  exact ⟨b, off, e, hi b hb ho, hb, hc⟩
/-- Which one. -/
def pk (x : Int) (n : Nat) : Nat := (IntKind.u64.wrap x).toNat % n
theorem pk_lt (x : Int) {n : Nat} (h : 0 < n) : pk x n < n := Nat.mod_lt _ h
theorem pk_eq (x : Int) {n : Nat} (h : n ≤ 1000) (h0 : 0 < n) : wrap64 ((IntKind.u64.wrap x).tmod (n : Int)) = (pk x n : Nat) := by
  have h0 : 0 ≤ IntKind.u64.wrap x := by rw [IntKind.wrap_u64]; omega
  have hlt := pk_lt x (n := n) (by omega)
  obtain ⟨q, hq⟩ : ∃ q : Nat, IntKind.u64.wrap x = q := ⟨(IntKind.u64.wrap x).toNat, by omega⟩
  unfold pk at hlt ⊢
  rw [hq] at hlt ⊢
  have h1 : ((q : Int)).tmod (n : Int) = ((q % n : Nat) : Int) := rfl
  rw [h1, Int.toNat_natCast]
  rw [Int.toNat_natCast] at hlt
  exact IntWalk.wrap64_in _ (by omega)

/-- A row of runners, cell by cell. -/
def pcells (l : List (ByteArray × Int)) : List Value := l.flatMap fun r => [.string r.1, .int .i64 r.2]
theorem pcells_append (l m : List (ByteArray × Int)) : pcells (l ++ m) = pcells l ++ pcells m := by simp [pcells]
theorem pcells_len (l : List (ByteArray × Int)) : (pcells l).length = l.length * 2 := by
  induction l with
  | nil => rfl
  | cons x l ih => rw [show pcells (x :: l) = [.string x.1, .int .i64 x.2] ++ pcells l by simp [pcells], List.length_append, ih]; simp; omega
theorem pcells_one (l : List (ByteArray × Int)) : ∀ u ∈ pcells l, u.oneCell' = true := fun u hu => by
  simp only [pcells, List.mem_flatMap] at hu
  obtain ⟨x, _, hx⟩ := hu
  simp at hx
  rcases hx with rfl | rfl <;> rfl
theorem pcells_get : ∀ (l : List (ByteArray × Int)) (k : Nat) (r : ByteArray × Int), l[k]? = some r → (pcells l)[k * 2]? = some (.string r.1) ∧ (pcells l)[k * 2 + 1]? = some (.int .i64 r.2)
  | [], k, r, h => by simp at h
  | x :: l, 0, r, h => by
    simp at h; subst h
    simp [pcells]
  | x :: l, k + 1, r, h => by
    rw [show pcells (x :: l) = [.string x.1, .int .i64 x.2] ++ pcells l by simp [pcells]]
    have := pcells_get l k r (by simpa using h)
    rw [List.getElem?_append_right (by simp; omega), List.getElem?_append_right (by simp; omega)]
    have e1 : (k + 1) * 2 - 2 = k * 2 := by omega
    have e2 : (k + 1) * 2 + 1 - 2 = k * 2 + 1 := by omega
    simp only [List.length_cons, List.length_nil, Nat.zero_add, Nat.reduceAdd, e1, e2]
    exact this
theorem pcells_at {l : List (ByteArray × Int)} {j : Nat} {u : Value} (h : (pcells l)[j]? = some u) : ∃ k r, l[k]? = some r ∧ ((j = k * 2 ∧ u = .string r.1) ∨ (j = k * 2 + 1 ∧ u = .int .i64 r.2)) := by
  have hj : j < l.length * 2 := by
    rw [← pcells_len]
    rcases Nat.lt_or_ge j (pcells l).length with h1 | h1
    · exact h1
    · rw [List.getElem?_eq_none h1] at h; cases h
  have hk : l[j / 2]? = some (l[j / 2]'(by omega)) := List.getElem?_eq_getElem (by omega)
  obtain ⟨h1, h2⟩ := pcells_get l (j / 2) _ hk
  refine ⟨j / 2, _, hk, ?_⟩
  rcases Nat.mod_two_eq_zero_or_one j with h0 | h0
  · have e : j / 2 * 2 = j := by omega
    rw [e, h] at h1
    exact .inl ⟨e.symm, Option.some.inj h1⟩
  · have e : j / 2 * 2 + 1 = j := by omega
    rw [e, h] at h2
    exact .inr ⟨e.symm, Option.some.inj h2⟩

theorem RunsAt.reads {w : World} {A : Option Addr} {l : List (ByteArray × Int)} (h : RunsAt w A l (fun _ => True)) : Reads w w.heap.size 2 A l.length (pcells l) := by
  refine ⟨pcells_len l, fun hn => ?_⟩
  obtain ⟨b, off, rfl, _, hb, hc⟩ := h hn
  refine ⟨_, rfl, hb, fun j u hu => ?_⟩
  obtain ⟨k, r, hk, hju⟩ := pcells_at hu
  obtain ⟨c0, c1⟩ := hc k r hk
  have hadd : (⟨b, off, none⟩ : Addr).add j = ⟨b, off + j, none⟩ := by unfold Addr.add; split <;> simp_all
  rw [hadd]
  rcases hju with ⟨rfl, rfl⟩ | ⟨rfl, rfl⟩
  · exact c0
  · rw [← Nat.add_assoc]; exact c1
/-- A part of the row. -/
theorem RunsAt.part {w : World} {A : Option Addr} {l m : List (ByteArray × Int)} {B : Option Addr} (h : RunsAt w A l (fun _ => True)) {i : Nat} (hm : ∀ k x, m[k]? = some x → l[i + k]? = some x) (hB : ∀ b off, A = some ⟨b, off, none⟩ → 0 < m.length → B = some ⟨b, off + i * 2, none⟩) : RunsAt w B m (fun _ => True) := fun hp => by
  have h0 : l[i + 0]? = some (m[0]'hp) := hm 0 _ (List.getElem?_eq_getElem hp)
  have hl : 0 < l.length := by
    rcases Nat.eq_zero_or_pos l.length with h | h
    · rw [List.eq_nil_of_length_eq_zero h] at h0; simp at h0
    · exact h
  obtain ⟨b, off, e, _, hb, hc⟩ := h hl
  refine ⟨b, off + i * 2, hB b off e hp, trivial, hb, fun k x hk => ?_⟩
  obtain ⟨c0, c1⟩ := hc (i + k) x (hm k x hk)
  have e1 : off + i * 2 + k * 2 = off + (i + k) * 2 := by omega
  rw [e1]
  exact ⟨c0, c1⟩

/-- A block whose first cells are runners'. -/
def RunB (w : World) (g : Nat) (l : List (ByteArray × Int)) : Prop := ∃ cur, Blk w g 46 cur ∧ l.length * 2 ≤ cur.size ∧ ∀ (k : Nat) (r : ByteArray × Int), l[k]? = some r → cur[k * 2]? = some (.string r.1) ∧ cur[k * 2 + 1]? = some (.int .i64 r.2)
theorem RunB.cell {w : World} {g : Nat} {l : List (ByteArray × Int)} (h : RunB w g l) {k : Nat} {r : ByteArray × Int} (hk : l[k]? = some r) : w.cell? ⟨g, k * 2, none⟩ = some (.string r.1) ∧ w.cell? ⟨g, k * 2 + 1, none⟩ = some (.int .i64 r.2) := by
  obtain ⟨cur, hB, _, hc⟩ := h
  exact ⟨(hB.cell _).trans (hc k r hk).1, (hB.cell _).trans (hc k r hk).2⟩
theorem RunB.lt {w : World} {g : Nat} {l : List (ByteArray × Int)} (h : RunB w g l) : g < w.heap.size := by
  obtain ⟨cur, hB, _⟩ := h; exact hB.lt
theorem RunB.frozen {w : World} {g : Nat} {l : List (ByteArray × Int)} (h : RunB w g l) (i : Nat) : w.frozen? ⟨g, i, none⟩ = false := by
  obtain ⟨cur, hB, _⟩ := h; exact hB.frozen i
theorem RunB.runs {w : World} {g : Nat} {l : List (ByteArray × Int)} (h : RunB w g l) : RunsAt w (some ⟨g, 0, none⟩) l (fun _ => True) := fun _ => ⟨g, 0, rfl, trivial, h.lt, fun k r hk => by rw [Nat.zero_add]; exact h.cell hk⟩
theorem RunB.set_ {w : World} {g : Nat} {l : List (ByteArray × Int)} (h : RunB w g l) {p : Nat} {s : ByteArray} {x y : Int} (hp : l[p]? = some (s, x)) : RunB (w.setCell ⟨g, p * 2 + 1, none⟩ (.int .i64 y)) g (l.set p (s, y)) := by
  obtain ⟨cur, hB, hs, hc⟩ := h
  have hpl : p < l.length := by
    rcases Nat.lt_or_ge p l.length with h1 | h1
    · exact h1
    · rw [List.getElem?_eq_none h1] at hp; cases hp
  refine ⟨_, hB.set_ _ _, by simpa using hs, fun k r hk => ?_⟩
  rw [List.getElem?_set] at hk
  by_cases e : p = k
  · subst e
    rw [if_pos rfl, if_pos hpl] at hk
    cases hk
    obtain ⟨c0, c1⟩ := hc p _ hp
    refine ⟨?_, ?_⟩
    · rw [Array.getElem?_setIfInBounds, if_neg (by omega)]; exact c0
    · rw [Array.getElem?_setIfInBounds, if_pos rfl, if_pos (by omega)]
  · rw [if_neg e] at hk
    obtain ⟨c0, c1⟩ := hc k r hk
    refine ⟨?_, ?_⟩
    · rw [Array.getElem?_setIfInBounds, if_neg (by omega)]; exact c0
    · rw [Array.getElem?_setIfInBounds, if_neg (by omega)]; exact c1

theorem runB_of_own {w : World} {base : Nat} {v : Value} {l : List (ByteArray × Int)} (h : w.ownsRow base 46 2 v l.length (pcells l)) (hn : 0 < l.length) : ∃ g c, v = .slice (some ⟨g, 0, none⟩) l.length c ∧ base ≤ g ∧ RunB w g l := by
  rcases h.2 with ⟨_, h0⟩ | ⟨g, cap, cur, rfl, hb, hblk, hnc, _, hsz, htk⟩
  · omega
  · have hB : Blk w g 46 cur := hblk
    have hlen : l.length * 2 ≤ cur.size := by
      have h1 := congrArg List.length htk
      rw [List.length_take, pcells_len] at h1
      simp at h1
      omega
    refine ⟨g, cap, rfl, hb, cur, hB, hlen, fun k r hk => ?_⟩
    have hkl : k < l.length := by
      rcases Nat.lt_or_ge k l.length with h1 | h1
      · exact h1
      · rw [List.getElem?_eq_none h1] at hk; cases hk
    obtain ⟨c0, c1⟩ := pcells_get l k r hk
    refine ⟨?_, ?_⟩
    · rw [← c0, ← htk, List.getElem?_take_of_lt (by omega)]; simp
    · rw [← c1, ← htk, List.getElem?_take_of_lt (by omega)]; simp
theorem runs_of_own {w : World} {base : Nat} {v : Value} {l : List (ByteArray × Int)} (h : w.ownsRow base 46 2 v l.length (pcells l)) : ∃ A c, v = .slice A l.length c ∧ RunsAt w A l (fun _ => True) := by
  rcases Nat.eq_zero_or_pos l.length with h0 | h0
  · rcases h.2 with ⟨rfl, _⟩ | ⟨g, cap, cur, rfl, _⟩
    · exact ⟨none, 0, by rw [h0], fun hp => by omega⟩
    · exact ⟨_, _, rfl, fun hp => by omega⟩
  · obtain ⟨g, c, rfl, _, hr⟩ := runB_of_own h h0
    exact ⟨_, _, rfl, hr.runs⟩
theorem ownsRow_empty2 (w : World) (e : TypeId) (base : Nat) (h : base ≤ w.heap.size) (size : Nat) : (w.alloc (.cells #[] e)).ownsRow base e size (.slice (some ⟨w.heap.size, 0, none⟩) 0 0) 0 [] := by
  refine ⟨by simp, .inr ⟨w.heap.size, 0, #[], rfl, h, heap_alloc_new w _, ?_⟩⟩
  simp

theorem ordL_bd (key : List Int) (l : List (ByteArray × Int)) (hl : l.length ≤ 1000) : ∀ x ∈ ordL key l, 0 ≤ x ∧ x ≤ 1000 := fun x hx => by
  rw [ordL_eq] at hx
  simp only [List.mem_map] at hx
  obtain ⟨y, hy, rfl⟩ := hx
  obtain ⟨p, r, hr, rfl⟩ := runsL_mem key l ((ordR_perm _).mem_iff.1 hy)
  have : p < l.length := by
    rcases Nat.lt_or_ge p l.length with h1 | h1
    · exact h1
    · rw [List.getElem?_eq_none h1] at hr; cases hr
  simp only
  omega

theorem split_at {α : Type} {l : List α} {p : Nat} {r : α} (h : l[p]? = some r) : l = l.take p ++ r :: l.drop (p + 1) ∧ (l.take p).length = p := by
  have hpl : p < l.length := by
    rcases Nat.lt_or_ge p l.length with h1 | h1
    · exact h1
    · rw [List.getElem?_eq_none h1] at h; cases h
  refine ⟨?_, by simp; omega⟩
  conv => lhs; rw [← List.take_append_drop p l]
  congr 1
  rw [List.drop_eq_getElem_cons hpl]
  congr 1
  rw [List.getElem?_eq_getElem hpl] at h
  exact Option.some.inj h
theorem less_plain (key : List Int) {l : List (ByteArray × Int)} {p : Nat} (hp : p < l.length) : ordL key (l.take p ++ l.drop (p + 1)) = withoutI (ordL key l) p true := by
  obtain ⟨h1, h2⟩ := split_at (List.getElem?_eq_getElem hp)
  have := less_law key (l.take p) (l.drop (p + 1)) l[p]
  rw [← h1, h2] at this
  exact this
theorem more_plain (key : List Int) {l : List (ByteArray × Int)} {p : Nat} {s : ByteArray} {x y : Int} (hp : l[p]? = some (s, x)) (h : x ≤ y) :
    withoutI (ordL key l) p false = withoutI (ordL key (l.set p (s, y))) p false ∧ placeI (ordL key (l.set p (s, y))) p ≤ placeI (ordL key l) p ∧ 0 ≤ placeI (ordL key (l.set p (s, y))) p := by
  obtain ⟨h1, h2⟩ := split_at hp
  have hpl : p < l.length := by
    rcases Nat.lt_or_ge p l.length with h1 | h1
    · exact h1
    · rw [List.getElem?_eq_none h1] at hp; cases hp
  have h3 : l.set p (s, y) = l.take p ++ (s, y) :: l.drop (p + 1) := by rw [List.set_eq_take_append_cons_drop, if_pos hpl]
  have h4 := more_others key (l.take p) (l.drop (p + 1)) (s, x) (s, y)
  have h5 := more_place key (l.take p) (l.drop (p + 1)) s h
  rw [← h1, ← h3, h2] at h4 h5
  exact ⟨h4, h5⟩

end Go.Proofs.Ytkioniffgmalgaa
