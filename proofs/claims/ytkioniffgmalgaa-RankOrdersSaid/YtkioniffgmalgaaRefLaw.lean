/-
  The reference's order: the best one of those that are left, again and again, is the one sorted row: plain laws.
-/
import Derived.Test.YtkioniffgmalgaaSame
namespace Go.Proofs.Ytkioniffgmalgaa
open Go.RowKit Go.Sort Sp
set_option linter.unusedVariables false

theorem leR_refl (x : Rn) : leR x x = true := by
  have := leR_total x x
  cases h : leR x x with
  | true => rfl
  | false => rw [h] at this; simp at this
theorem runs_at (key : List Int) (ns : List ByteArray) (ws : List Int) {k : Nat} (hk : k < (runs key ns ws).length) : (runs key ns ws)[k].place = k := by
  simp [runs]

/-- Whether a later one is better. -/
def better (x y : Rn) : Bool := (x.has && !y.has) || ((x.has == y.has) && decide (y.score < x.score))
theorem better_not {x y : Rn} (h : better x y = false) (hp : y.place ≤ x.place) : leR y x = true := by
  rw [leR_iff]
  obtain ⟨xp, xs, xh⟩ := x
  obtain ⟨yp, ys, yh⟩ := y
  simp only at hp
  cases xh <;> cases yh <;> simp [better] at h ⊢ <;> omega
theorem better_le {x y : Rn} (h : better x y = true) : leR x y = true := by
  rw [leR_iff]
  obtain ⟨xp, xs, xh⟩ := x
  obtain ⟨yp, ys, yh⟩ := y
  cases xh <;> cases yh <;> simp [better] at h ⊢ <;> omega

/-- The best of the first i that are not done. -/
def sel (l : List Rn) (dn : List Nat) : Nat → Option Nat
  | 0 => none
  | i + 1 => if i ∈ dn then sel l dn i else match sel l dn i with
    | none => some i
    | some b => match l[i]?, l[b]? with
      | some x, some y => if better x y then some i else some b
      | _, _ => some b

section
variable {l : List Rn} {dn : List Nat}
theorem sel_done {i : Nat} (h : i ∈ dn) : sel l dn (i + 1) = sel l dn i := by
  rw [sel, if_pos h]
theorem sel_first {i : Nat} (h : i ∉ dn) (hs : sel l dn i = none) : sel l dn (i + 1) = some i := by
  rw [sel, if_neg h, hs]
theorem sel_next {i b : Nat} {x y : Rn} (h : i ∉ dn) (hs : sel l dn i = some b) (hx : l[i]? = some x) (hy : l[b]? = some y) : sel l dn (i + 1) = if better x y then some i else some b := by
  rw [sel, if_neg h, hs]
  simp only [hx, hy]
theorem sel_lt {i b : Nat} (hs : sel l dn i = some b) : b < i ∧ b ∉ dn := by
  induction i generalizing b with
  | zero => cases hs
  | succ i ih =>
    rw [sel] at hs
    split at hs
    · have := ih hs; exact ⟨by omega, this.2⟩
    · next hd =>
      split at hs
      · cases hs; exact ⟨by omega, hd⟩
      · next b' hb' =>
        have := ih hb'
        split at hs
        · split at hs
          · cases hs; exact ⟨by omega, hd⟩
          · cases hs; exact ⟨by omega, this.2⟩
        · cases hs; exact ⟨by omega, this.2⟩
theorem sel_none {i : Nat} (hs : sel l dn i = none) : ∀ q < i, q ∈ dn := by
  induction i with
  | zero => intro q hq; omega
  | succ i ih =>
    rw [sel] at hs
    split at hs
    · next hd =>
      intro q hq
      rcases Nat.lt_or_ge q i with h | h
      · exact ih hs q h
      · obtain rfl : q = i := by omega
        exact hd
    · split at hs
      · cases hs
      · split at hs
        · split at hs <;> cases hs
        · cases hs
theorem sel_best (hp : ∀ (k : Nat) (x : Rn), l[k]? = some x → x.place = k) {i b : Nat} (hi : i ≤ l.length) (hs : sel l dn i = some b) {y : Rn} (hy : l[b]? = some y) :
    ∀ q < i, q ∉ dn → ∀ z, l[q]? = some z → leR y z = true := by
  induction i generalizing b y with
  | zero => cases hs
  | succ i ih =>
    obtain ⟨x, hx⟩ : ∃ x, l[i]? = some x := ⟨_, List.getElem?_eq_getElem (by omega)⟩
    intro q hq hqd z hz
    by_cases hd : i ∈ dn
    · rw [sel_done hd] at hs
      have hqi : q < i := by
        rcases Nat.lt_or_ge q i with h | h
        · exact h
        · obtain rfl : q = i := by omega
          exact absurd hd hqd
      exact ih (by omega) hs hy q hqi hqd z hz
    · cases hb : sel l dn i with
      | none =>
        rw [sel_first hd hb] at hs
        cases hs
        have hqi : q = i := by
          rcases Nat.lt_or_ge q i with h | h
          · exact absurd (sel_none hb q h) hqd
          · omega
        subst hqi
        rw [hy] at hz; cases hz
        exact leR_refl _
      | some b' =>
        obtain ⟨hb'i, _⟩ := sel_lt hb
        obtain ⟨y', hy'⟩ : ∃ y', l[b']? = some y' := ⟨_, List.getElem?_eq_getElem (by omega)⟩
        rw [sel_next hd hb hx hy'] at hs
        have hI := ih (by omega) hb hy'
        by_cases hbt : better x y' = true
        · rw [if_pos hbt] at hs
          cases hs
          rw [hx] at hy; cases hy
          rcases Nat.lt_or_ge q i with h | h
          · exact leR_trans _ _ _ (better_le hbt) (hI q h hqd z hz)
          · obtain rfl : q = i := by omega
            rw [hx] at hz; cases hz
            exact leR_refl _
        · rw [if_neg hbt] at hs
          cases hs
          rw [hy'] at hy; cases hy
          rcases Nat.lt_or_ge q i with h | h
          · exact hI q h hqd z hz
          · obtain rfl : q = i := by omega
            rw [hx] at hz; cases hz
            refine better_not (by simpa using hbt) ?_
            rw [hp _ _ hx, hp _ _ hy']
            omega
end

theorem runs_nodup (key : List Int) (ns : List ByteArray) (ws : List Int) : ((ordR (runs key ns ws)).map (·.place)).Nodup := by
  have e : (runs key ns ws).map (·.place) = List.range (min ns.length ws.length) := by
    simp [runs, List.map_map, Function.comp_def]
  rw [((ordR_perm (runs key ns ws)).map (·.place)).nodup_iff, e]
  exact List.nodup_range

/-- Of those that are not among the first m of the order, the best one is the order's next. -/
theorem sel_order (key : List Int) (ns : List ByteArray) (ws : List Int) {m : Nat} {x : Rn} (hx : (ordR (runs key ns ws))[m]? = some x) :
    sel (runs key ns ws) (((ordR (runs key ns ws)).map (·.place)).take m) (runs key ns ws).length = some x.place := by
  have hmem : ∀ y ∈ ordR (runs key ns ws), (runs key ns ws)[y.place]? = some y := fun y hy => by
    obtain ⟨k, hk, rfl⟩ := List.mem_iff_getElem.1 ((ordR_perm _).mem_iff.1 hy)
    rw [runs_at, List.getElem?_eq_getElem hk]
  have hpl : ∀ (k : Nat) (y : Rn), (runs key ns ws)[k]? = some y → y.place = k := fun k y hy => by
    have hk : k < (runs key ns ws).length := by
      rcases Nat.lt_or_ge k (runs key ns ws).length with h | h
      · exact h
      · rw [List.getElem?_eq_none h] at hy; cases hy
    rw [List.getElem?_eq_getElem hk] at hy
    cases hy
    exact runs_at _ _ _ hk
  have hnd := runs_nodup key ns ws
  have hsort := ordR_sorted (runs key ns ws)
  have hlen : (ordR (runs key ns ws)).length = (runs key ns ws).length := ordR_len _
  have hin : ∀ y, y ∈ runs key ns ws → y ∈ ordR (runs key ns ws) := fun y hy => (ordR_perm _).mem_iff.2 hy
  generalize ordR (runs key ns ws) = o at *
  generalize runs key ns ws = l at *
  have hm : m < o.length := by
    rcases Nat.lt_or_ge m o.length with h | h
    · exact h
    · rw [List.getElem?_eq_none h] at hx; cases hx
  have hxo : x ∈ o := List.mem_of_getElem? hx
  have hxm := hmem x hxo
  have hxl : x.place < l.length := by
    rcases Nat.lt_or_ge x.place l.length with h | h
    · exact h
    · rw [List.getElem?_eq_none h] at hxm; cases hxm
  have hxn : x.place ∉ (o.map (·.place)).take m := by
    intro hin
    obtain ⟨j, hj, he⟩ := List.mem_iff_getElem.1 hin
    have hjm : j < m := by simp at hj; omega
    rw [List.getElem_take] at he
    have h2 : (o.map (·.place))[m]'(by simpa using hm) = x.place := by
      rw [List.getElem_map]
      rw [List.getElem?_eq_getElem hm] at hx
      rw [Option.some.inj hx]
    have h3 := (List.getElem_inj hnd).1 (he.trans h2.symm)
    omega
  cases hs : sel l ((o.map (·.place)).take m) l.length with
  | none => exact absurd (sel_none hs _ hxl) hxn
  | some b =>
    obtain ⟨hbl, hbn⟩ := sel_lt hs
    obtain ⟨y, hy⟩ : ∃ y, l[b]? = some y := ⟨_, List.getElem?_eq_getElem hbl⟩
    have h1 := sel_best hpl (Nat.le_refl _) hs hy x.place hxl hxn x hxm
    have hyb := hpl b y hy
    -- y stands at m or behind
    obtain ⟨j, hj, hjy⟩ := List.mem_iff_getElem.1 (hin y (List.mem_of_getElem? hy))
    have hjm : m ≤ j := by
      rcases Nat.lt_or_ge j m with h | h
      · exfalso
        apply hbn
        rw [← hyb]
        refine List.mem_iff_getElem.2 ⟨j, by simp; omega, ?_⟩
        rw [List.getElem_take, List.getElem_map, hjy]
      · exact h
    have h2 : leR x y = true := by
      rcases Nat.lt_or_ge m j with h | h
      · have := List.pairwise_iff_getElem.1 hsort m j hm hj h
        rw [List.getElem?_eq_getElem hm] at hx
        rwa [Option.some.inj hx, hjy] at this
      · obtain rfl : j = m := by omega
        rw [List.getElem?_eq_getElem hm] at hx
        rw [hjy] at hx
        cases hx
        exact h1
    have h3 := leR_anti _ _ h2 h1
    rw [h3, hyb]

end Go.Proofs.Ytkioniffgmalgaa
