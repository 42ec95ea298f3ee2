/-
  The order of runners without one of them, with a greater weight, in another row: plain laws.
-/
import Derived.Test.YtkioniffgmalgaaOnceLaw
namespace Go.Proofs.Ytkioniffgmalgaa
open Go.RowKit Go.Sort Sp
set_option linter.unusedVariables false

/-- A runner out of a row. -/
def mkR (key : List Int) (r : ByteArray × Int) (p : Nat) : Rn := ⟨p, scS key r.1 r.2, decide (0 < r.2)⟩
def runsF (key : List Int) (l : List (ByteArray × Int)) (s : Nat) : List Rn := (l.zipIdx s).map fun x => mkR key x.1 x.2
theorem runsL_eq (key : List Int) (l : List (ByteArray × Int)) : runsL key l = runsF key l 0 := by
  apply List.ext_getElem?
  intro k
  rcases Nat.lt_or_ge k l.length with h | h
  · rw [runsL_get key l (List.getElem?_eq_getElem h)]
    simp [runsF, List.getElem?_map, List.getElem?_zipIdx, List.getElem?_eq_getElem h, mkR]
  · rw [List.getElem?_eq_none (by rw [runsL_len]; exact h), List.getElem?_eq_none (by simp [runsF]; exact h)]
theorem runsF_append (key : List Int) (a b : List (ByteArray × Int)) (s : Nat) : runsF key (a ++ b) s = runsF key a s ++ runsF key b (s + a.length) := by
  simp [runsF, List.zipIdx_append]
theorem runsF_cons (key : List Int) (r : ByteArray × Int) (b : List (ByteArray × Int)) (s : Nat) : runsF key (r :: b) s = mkR key r s :: runsF key b (s + 1) := by
  simp [runsF]
theorem runsF_mem {key : List Int} {l : List (ByteArray × Int)} {s : Nat} {x : Rn} (h : x ∈ runsF key l s) : s ≤ x.place ∧ x.place < s + l.length := by
  simp only [runsF, List.mem_map] at h
  obtain ⟨⟨r, p⟩, hm, rfl⟩ := h
  have := List.mem_zipIdx hm
  exact ⟨this.1, by have := this.2.1; simpa [mkR, Nat.add_comm] using this⟩
theorem runsF_split (key : List Int) (a b : List (ByteArray × Int)) (r : ByteArray × Int) : runsL key (a ++ r :: b) = runsF key a 0 ++ mkR key r a.length :: runsF key b (a.length + 1) := by
  rw [runsL_eq, runsF_append, runsF_cons, Nat.zero_add]
theorem runsF_filter (key : List Int) (a b : List (ByteArray × Int)) (r : ByteArray × Int) : (runsL key (a ++ r :: b)).filter (fun x => decide (x.place ≠ a.length)) = runsF key a 0 ++ runsF key b (a.length + 1) := by
  rw [runsF_split, List.filter_append, List.filter_cons]
  have h0 : decide ((mkR key r a.length).place ≠ a.length) = false := by simp [mkR]
  rw [h0]
  have h1 : (runsF key a 0).filter (fun x => decide (x.place ≠ a.length)) = runsF key a 0 := List.filter_eq_self.2 fun x hx => by
    have := runsF_mem hx
    simp; omega
  have h2 : (runsF key b (a.length + 1)).filter (fun x => decide (x.place ≠ a.length)) = runsF key b (a.length + 1) := List.filter_eq_self.2 fun x hx => by
    have := runsF_mem hx
    simp; omega
  rw [h1, h2]
  simp
/-- Places above w one less. -/
def mvP (w : Nat) (r : Rn) : Rn := ⟨if w < r.place then r.place - 1 else r.place, r.score, r.has⟩
theorem runsF_move (key : List Int) (b : List (ByteArray × Int)) (w : Nat) : ∀ s, w ≤ s → (runsF key b (s + 1)).map (mvP w) = runsF key b s := by
  induction b with
  | nil => intro s _; rfl
  | cons r b ih =>
    intro s hs
    rw [runsF_cons, runsF_cons, List.map_cons, ih (s + 1) (by omega)]
    congr 1
    have h : w < (mkR key r (s + 1)).place := by show w < s + 1; omega
    simp only [mvP, if_pos h]
    rfl
theorem runsF_stay (key : List Int) (a : List (ByteArray × Int)) : (runsF key a 0).map (mvP a.length) = runsF key a 0 := by
  refine (List.map_congr_left (g := id) fun x hx => ?_).trans (List.map_id _)
  have := runsF_mem hx
  simp only [mvP, id]
  rw [if_neg (by omega)]

theorem ordR_filter (l : List Rn) (p : Rn → Bool) : (ordR l).filter p = ordR (l.filter p) :=
  (ordR_one ((ordR_perm l).filter p) ((ordR_sorted l).filter p)).symm
theorem leR_move (w : Nat) {a b : Rn} (h : leR a b = true) : leR (mvP w a) (mvP w b) = true := by
  rw [leR_iff] at h ⊢
  intro h2
  apply h
  rcases h2 with h2 | ⟨h2, h3⟩
  · exact .inl h2
  · refine .inr ⟨h2, ?_⟩
    rcases h3 with h3 | ⟨h3, h4⟩
    · exact .inl h3
    · refine .inr ⟨h3, ?_⟩
      simp only [mvP] at h4
      split at h4 <;> split at h4 <;> omega
theorem ordR_move (l : List Rn) (w : Nat) : (ordR l).map (mvP w) = ordR (l.map (mvP w)) :=
  (ordR_one ((ordR_perm l).map _) (List.pairwise_map.2 ((ordR_sorted l).imp fun h => leR_move w h))).symm

/-- 'without': numbers without one; those above it one less, if that is asked for. -/
def withoutI (l : List Int) (n : Int) (less : Bool) : List Int := (l.filter (fun x => decide (x ≠ n))).map fun x => if less && decide (n < x) then x - 1 else x
theorem withoutI_snoc (l : List Int) (n : Int) (less : Bool) (x : Int) : withoutI (l ++ [x]) n less = withoutI l n less ++ (if x = n then [] else [if less && decide (n < x) then x - 1 else x]) := by
  unfold withoutI
  rw [List.filter_append, List.map_append]
  congr 1
  by_cases h : x = n <;> simp [h]
theorem withoutI_len (l : List Int) (n : Int) (less : Bool) : (withoutI l n less).length ≤ l.length := by
  unfold withoutI
  rw [List.length_map]
  exact List.length_filter_le _ _
theorem withoutI_ord (l : List Rn) (w : Nat) (less : Bool) : withoutI ((ordR l).map fun r => (r.place : Int)) w less = (ordR (l.filter (fun x => decide (x.place ≠ w)))).map fun r => (if less && decide (w < r.place) then (r.place : Int) - 1 else (r.place : Int)) := by
  rw [← ordR_filter]
  unfold withoutI
  rw [List.filter_map, List.map_map]
  have e1 : ((fun x : Int => decide (x ≠ (w : Int))) ∘ fun r : Rn => (r.place : Int)) = fun x : Rn => decide (x.place ≠ w) := by
    funext r
    exact decide_eq_decide.2 (by show (r.place : Int) ≠ (w : Int) ↔ r.place ≠ w; omega)
  rw [e1]
  refine List.map_congr_left fun r _ => ?_
  simp

/-- Without one the others' order is what it was. -/
theorem less_law (key : List Int) (a b : List (ByteArray × Int)) (r : ByteArray × Int) : ordL key (a ++ b) = withoutI (ordL key (a ++ r :: b)) a.length true := by
  rw [ordL_eq, ordL_eq, withoutI_ord, runsF_filter]
  have h1 : runsL key (a ++ b) = (runsF key a 0 ++ runsF key b (a.length + 1)).map (mvP a.length) := by
    rw [runsL_eq, runsF_append, List.map_append, runsF_stay, runsF_move _ _ _ _ (Nat.le_refl _), Nat.zero_add]
  rw [h1, ← ordR_move, List.map_map]
  refine List.map_congr_left fun x _ => ?_
  simp only [Function.comp, mvP, Bool.true_and, decide_eq_true_eq]
  split <;> omega
/-- With another weight the others stand as they did. -/
theorem more_others (key : List Int) (a b : List (ByteArray × Int)) (r r' : ByteArray × Int) : withoutI (ordL key (a ++ r :: b)) a.length false = withoutI (ordL key (a ++ r' :: b)) a.length false := by
  rw [ordL_eq, ordL_eq, withoutI_ord, withoutI_ord, runsF_filter, runsF_filter]

/-- 'place': where a number stands; -1: nowhere. -/
def placeI (l : List Int) (n : Int) : Int := if n ∈ l then (l.idxOf n : Int) else -1
theorem placeI_at {l : List Int} {n : Int} {k : Nat} (hn : n ∉ l.take k) (hk : l[k]? = some n) : placeI l n = k := by
  have hkl : k < l.length := by
    rcases Nat.lt_or_ge k l.length with h | h
    · exact h
    · rw [List.getElem?_eq_none h] at hk; cases hk
  have hm : n ∈ l := List.mem_of_getElem? hk
  unfold placeI
  rw [if_pos hm]
  have e : l = l.take k ++ n :: l.drop (k + 1) := by
    conv => lhs; rw [← List.take_append_drop k l]
    congr 1
    rw [List.drop_eq_getElem_cons hkl]
    congr 1
    rw [List.getElem?_eq_getElem hkl] at hk
    exact Option.some.inj hk
  have h2 : l.idxOf n = k := by
    rw [e, List.idxOf_append, if_neg hn]
    simp
    omega
  rw [h2]
theorem placeI_no {l : List Int} {n : Int} (hn : n ∉ l) : placeI l n = -1 := by unfold placeI; rw [if_neg hn]

theorem place_split {l : List Rn} {w : Nat} {r : Rn} {a b : List Rn} (h : l = a ++ r :: b) (hw : r.place = w) (ha : ∀ x ∈ a, x.place ≠ w) : placeI (l.map fun r => (r.place : Int)) w = a.length := by
  apply placeI_at
  · rw [h]
    simp only [List.map_append, List.map_cons]
    rw [List.take_append_of_le_length (by simp)]
    rw [List.take_of_length_le (by simp)]
    simp only [List.mem_map, not_exists, not_and]
    intro x hx
    have := ha x hx
    omega
  · rw [h]
    simp [hw]

theorem tries_mono {x y : Int} (h : x ≤ y) : tries x ≤ tries y := by unfold tries; omega
theorem bestTo_mono (key : List Int) (s : ByteArray) {m n : Nat} (h : m ≤ n) : bestTo key s m ≤ bestTo key s n := by
  induction n with
  | zero => obtain rfl : m = 0 := by omega
            exact Int.le_refl _
  | succ n ih =>
    rcases Nat.lt_or_ge m (n + 1) with h1 | h1
    · have h2 := ih (by omega)
      have h3 : bestTo key s (n + 1) = max (bestTo key s n) (chS key s (n : Int)) := rfl
      omega
    · obtain rfl : m = n + 1 := by omega
      exact Int.le_refl _
theorem scS_mono (key : List Int) (s : ByteArray) {x y : Int} (h : x ≤ y) : scS key s x ≤ scS key s y := bestTo_mono key s (tries_mono h)

/-- With a greater weight one stands no farther back. -/
theorem more_place (key : List Int) (a b : List (ByteArray × Int)) (s : ByteArray) {x y : Int} (h : x ≤ y) : placeI (ordL key (a ++ (s, y) :: b)) a.length ≤ placeI (ordL key (a ++ (s, x) :: b)) a.length ∧ 0 ≤ placeI (ordL key (a ++ (s, y) :: b)) a.length := by
  rw [ordL_eq, ordL_eq]
  have hf1 := runsF_filter key a b (s, x)
  have hf2 := runsF_filter key a b (s, y)
  have hm1 : mkR key (s, x) a.length ∈ ordR (runsL key (a ++ (s, x) :: b)) := (ordR_perm _).mem_iff.2 (by rw [runsF_split]; simp)
  have hm2 : mkR key (s, y) a.length ∈ ordR (runsL key (a ++ (s, y) :: b)) := (ordR_perm _).mem_iff.2 (by rw [runsF_split]; simp)
  have hn1 := once_nodup key (a ++ (s, x) :: b)
  have hn2 := once_nodup key (a ++ (s, y) :: b)
  have hg1 := ordR_filter (runsL key (a ++ (s, x) :: b)) (fun x => decide (x.place ≠ a.length))
  have hg2 := ordR_filter (runsL key (a ++ (s, y) :: b)) (fun x => decide (x.place ≠ a.length))
  rw [hf1] at hg1
  rw [hf2, ← hg1] at hg2
  have hs1 := ordR_sorted (runsL key (a ++ (s, x) :: b))
  have hs2 := ordR_sorted (runsL key (a ++ (s, y) :: b))
  have hle : leR (mkR key (s, y) a.length) (mkR key (s, x) a.length) = true := by
    rw [leR_iff]
    have hm := scS_mono key s h
    simp only [mkR, decide_eq_true_eq, decide_eq_false_iff_not]
    rintro (⟨h1, h2⟩ | ⟨h1, h2 | ⟨h2, h3⟩⟩) <;> omega
  have hp1 : (mkR key (s, x) a.length).place = a.length := rfl
  have hp2 : (mkR key (s, y) a.length).place = a.length := rfl
  generalize mkR key (s, x) a.length = r1 at *
  generalize mkR key (s, y) a.length = r2 at *
  generalize ordR (runsL key (a ++ (s, x) :: b)) = o1 at *
  generalize ordR (runsL key (a ++ (s, y) :: b)) = o2 at *
  generalize a.length = w at *
  obtain ⟨a1, a2, rfl⟩ := List.append_of_mem hm1
  obtain ⟨b1, b2, rfl⟩ := List.append_of_mem hm2
  have split : ∀ (u v : List Rn) (r : Rn), r.place = w → ((u ++ r :: v).map (·.place)).Nodup → (∀ x ∈ u, x.place ≠ w) ∧ (∀ x ∈ v, x.place ≠ w) := fun u v r hr hn => by
    rw [List.map_append, List.map_cons, List.nodup_append] at hn
    obtain ⟨_, h2, h3⟩ := hn
    rw [List.nodup_cons] at h2
    refine ⟨fun x hx e => h3 x.place (List.mem_map_of_mem hx) r.place (by simp) (e.trans hr.symm), fun x hx e => h2.1 ?_⟩
    rw [hr, ← e]
    exact List.mem_map_of_mem hx
  obtain ⟨ha1, ha2⟩ := split a1 a2 r1 hp1 hn1
  obtain ⟨hb1, hb2⟩ := split b1 b2 r2 hp2 hn2
  have filt : ∀ (u v : List Rn) (r : Rn), r.place = w → (∀ x ∈ u, x.place ≠ w) → (∀ x ∈ v, x.place ≠ w) → (u ++ r :: v).filter (fun x => decide (x.place ≠ w)) = u ++ v := fun u v r hr hu hv => by
    rw [List.filter_append, List.filter_cons]
    have h0 : decide (r.place ≠ w) = false := by simp [hr]
    rw [h0, List.filter_eq_self.2 (fun x hx => by simpa using hu x hx), List.filter_eq_self.2 (fun x hx => by simpa using hv x hx)]
    simp
  rw [filt b1 b2 r2 hp2 hb1 hb2, filt a1 a2 r1 hp1 ha1 ha2] at hg2
  rw [place_split rfl hp2 hb1, place_split rfl hp1 ha1]
  refine ⟨?_, by omega⟩
  rcases Nat.lt_or_ge a1.length b1.length with hlt | hge
  · exfalso
    have hx1 : (b1 ++ b2)[a1.length]? = some (b1[a1.length]) := by rw [List.getElem?_append_left hlt, List.getElem?_eq_getElem hlt]
    rw [hg2, List.getElem?_append_right (Nat.le_refl _), Nat.sub_self] at hx1
    have hxa : b1[a1.length] ∈ a2 := List.mem_of_getElem? hx1
    have hxb : b1[a1.length] ∈ b1 := List.getElem_mem hlt
    generalize b1[a1.length] = x at *
    rw [List.pairwise_append] at hs1 hs2
    have h1 := (List.pairwise_cons.1 hs1.2.1).1 x hxa
    have h2 := hs2.2.2 x hxb r2 (by simp)
    have h3 := leR_anti _ _ h1 (leR_trans _ _ _ h2 hle)
    exact ha2 x hxa (h3 ▸ hp1)
  · omega

/-- Rows that have no two alike, in another row: the same order. -/
theorem row_law (key : List Int) (l t : List (ByteArray × Int)) (hp : t.Perm l) (hd : ∀ a ∈ l, ∀ b ∈ l, scS key a.1 a.2 = scS key b.1 b.2 → decide (0 < a.2) = decide (0 < b.2) → a = b) {i : Nat} {x y : Rn}
    (hx : (ordR (runsL key l))[i]? = some x) (hy : (ordR (runsL key t))[i]? = some y) : l[x.place]? = t[y.place]? := by
  let lk : List (ByteArray × Int) → Rn → ByteArray × Int := fun l x => l.getD x.place (ByteArray.empty, 0)
  let le : ByteArray × Int → ByteArray × Int → Prop := fun a b => leR (mkR key a 0) (mkR key b 0) = true
  have hmap : ∀ l, ((ordR (runsL key l)).map (lk l)).Perm l := fun l => by
    refine ((ordR_perm _).map _).trans ?_
    have : (runsL key l).map (lk l) = l := by
      apply List.ext_getElem?
      intro k
      rw [List.getElem?_map]
      rcases Nat.lt_or_ge k l.length with h | h
      · rw [runsL_get key l (List.getElem?_eq_getElem h)]
        simp [lk, List.getD_eq_getElem?_getD, List.getElem?_eq_getElem h]
      · rw [List.getElem?_eq_none (by rw [runsL_len]; exact h), List.getElem?_eq_none h]; rfl
    rw [this]
  have hsort : ∀ l, ((ordR (runsL key l)).map (lk l)).Pairwise le := fun l => by
    refine List.pairwise_map.2 (List.Pairwise.imp_of_mem (fun {a b} ha hb h => ?_) (ordR_sorted (runsL key l)))
    obtain ⟨p, r, hr, rfl⟩ := runsL_mem key l ((ordR_perm _).mem_iff.1 ha)
    obtain ⟨p', r', hr', rfl⟩ := runsL_mem key l ((ordR_perm _).mem_iff.1 hb)
    show leR (mkR key (lk l _) 0) (mkR key (lk l _) 0) = true
    simp only [lk, List.getD_eq_getElem?_getD, hr, hr', Option.getD_some]
    rw [leR_iff] at h ⊢
    intro h2
    apply h
    simp only [mkR] at h2
    rcases h2 with h2 | ⟨h2, h3 | ⟨_, h4⟩⟩
    · exact .inl h2
    · exact .inr ⟨h2, .inl h3⟩
    · omega
  have heq : (ordR (runsL key l)).map (lk l) = (ordR (runsL key t)).map (lk t) := by
    refine List.Perm.eq_of_pairwise (le := le) (fun a b ha hb h1 h2 => ?_) (hsort l) (hsort t) ((hmap l).trans (hp.symm.trans (hmap t).symm))
    have ha' := (hmap l).mem_iff.1 ha
    have hb' := hp.mem_iff.1 ((hmap t).mem_iff.1 hb)
    have h3 := leR_anti _ _ h1 h2
    simp only [mkR, Rn.mk.injEq, true_and] at h3
    exact hd a ha' b hb' h3.1 h3.2
  have h5 : ((ordR (runsL key l)).map (lk l))[i]? = ((ordR (runsL key t)).map (lk t))[i]? := by rw [heq]
  rw [List.getElem?_map, List.getElem?_map, hx, hy] at h5
  obtain ⟨p, r, hr, rfl⟩ := runsL_mem key l ((ordR_perm _).mem_iff.1 (List.mem_of_getElem? hx))
  obtain ⟨p', r', hr', rfl⟩ := runsL_mem key t ((ordR_perm _).mem_iff.1 (List.mem_of_getElem? hy))
  simp only [lk, Option.map_some, Option.some.injEq, List.getD_eq_getElem?_getD, hr, hr', Option.getD_some] at h5
  rw [hr, hr', h5]

end Go.Proofs.Ytkioniffgmalgaa
