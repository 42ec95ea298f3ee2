/-
  The quota and the reference's quota side by side: what holds between acts.
-/
import Derived.Test.YtlhogpnfongfmaaNames27
namespace Go.Proofs.Ytlhogpnfongfmaa
open Go.RowKit Go.Maps
set_option linter.unusedVariables false

theorem cnt_cons (a : ByteArray) (l : List ByteArray) (s : ByteArray) : cnt (a :: l) s = cnt l s + if (a.toList == s.toList) = true then 1 else 0 := by
  unfold cnt
  rw [List.countP_cons]
theorem cnt_del1 (l : List ByteArray) (s t : ByteArray) : cnt (del1 l s) t = if t = s then cnt l s - 1 else cnt l t := by
  induction l with
  | nil => simp [cnt, del1]
  | cons a l ih =>
    by_cases ha : (a.toList == s.toList) = true
    · have e : del1 (a :: l) s = l := by unfold del1; rw [List.eraseP_cons, ha]; rfl
      rw [e]
      have ha2 := (bytes_beq_iff _ _).1 ha
      subst ha2
      by_cases ht : t = a
      · subst ht
        rw [if_pos rfl, cnt_cons, if_pos ha]; omega
      · rw [if_neg ht, cnt_cons, if_neg (fun h => ht ((bytes_beq_iff _ _).1 h).symm)]; omega
    · have e : del1 (a :: l) s = a :: del1 l s := by unfold del1; rw [List.eraseP_cons]; cases hx : (a.toList == s.toList) with | true => exact absurd hx ha | false => rfl
      rw [e, cnt_cons, ih, cnt_cons, cnt_cons, if_neg ha]
      by_cases ht : t = s
      · subst ht
        rw [if_pos rfl, if_neg ha, if_pos rfl]
        omega
      · rw [if_neg ht, if_neg ht]

/-- The quota at q counts what the reference's quota at ob + 1 holds; the quota at ob nobody made. -/
structure St (W : World) (q m ob k : Nat) (f : Bs → Nat) (l : List ByteArray) (v : Value) : Prop where
  qa : QAt W q m k f
  odd : Blk W ob 36 #[.map none]
  ref : RefAt W (ob + 2) (ob + 1) v l
  cn : ∀ s : ByteArray, f s.data.toList = cnt l s
  len : l.length ≤ k
  lo : q < ob ∧ m < ob ∧ q ≠ m ∧ ob + 2 ≤ W.heap.size

section
variable {W W' : World} {q m ob k : Nat} {f : Bs → Nat} {l : List ByteArray} {v : Value}
theorem St.own_ge (h : St W q m ob k f l v) {g : Nat} (hg : v.ownBlock = some g) : ob + 2 ≤ g := Ytlhogpnfongfmaa.own_ge h.ref.own hg
theorem St.own_lt (h : St W q m ob k f l v) {g : Nat} (hg : v.ownBlock = some g) : g < W.heap.size := Ytlhogpnfongfmaa.own_lt h.ref.own hg
/-- What is written behind T leaves it. -/
theorem St.fr {L : List Nat} (h : St W q m ob k f l v) (hf : Fr L W W') (T : Nat) (hob : ob + 2 ≤ T) (hv : ∀ g, v.ownBlock = some g → g < T) (hL : ∀ x ∈ L, T ≤ x) : St W' q m ob k f l v := by
  have hlo := h.lo
  have hn : ∀ g, g < T → g ∉ L := fun g hg hm => by have := hL g hm; omega
  exact ⟨h.qa.fr hf (hn q (by omega)) (hn m (by omega)), hf.blk h.odd (hn ob (by omega)), h.ref.fr hf (hn (ob + 1) (by omega)) (fun g hg => hn g (hv g hg)), h.cn, h.len, ⟨hlo.1, hlo.2.1, hlo.2.2.1, Nat.le_trans hlo.2.2.2 hf.size⟩⟩
theorem St.fr0 (h : St W q m ob k f l v) (hf : Fr [] W W') : St W' q m ob k f l v := h.fr hf W.heap.size h.lo.2.2.2 (fun g hg => h.own_lt hg) (by simp)
/-- Behind a Give of both. -/
theorem St.give {W1 W2 : World} {v' : Value} {s : ByteArray} (h : St W q m ob k f l v) (hq : QAt W1 q m (k + 1) (giveF f s.data.toList)) (h1 : Fr [m] W W1) (hr : RefAt W2 (ob + 2) (ob + 1) v' (del1 l s)) (h2 : Fr [ob + 1] W1 W2) : St W2 q m ob (k + 1) (giveF f s.data.toList) (del1 l s) v' := by
  have hlo := h.lo
  refine ⟨hq.fr h2 (by simp; omega) (by simp; omega), h2.blk (h1.blk h.odd (by simp; omega)) (by simp), hr, fun t => ?_, Nat.le_trans (del1_len _ _) (by have := h.len; omega), ⟨hlo.1, hlo.2.1, hlo.2.2.1, Nat.le_trans hlo.2.2.2 (Nat.le_trans h1.size h2.size)⟩⟩
  rw [cnt_del1]
  unfold giveF upd
  by_cases ht : t = s
  · subst ht
    rw [if_pos rfl, if_pos rfl, h.cn]
  · rw [if_neg ht, if_neg (fun e => ht (ByteArray.ext (Array.toList_inj.1 e)))]
    exact h.cn t
/-- Behind a Take of both. -/
theorem St.take {W1 W2 : World} {v' : Value} {s : ByteArray} {most : Int} (h : St W q m ob k f l v) (hq : QAt W1 q m (k + 1) (takeF f s.data.toList most)) (h1 : Fr [m] W W1) (hr : RefAt W2 (ob + 2) (ob + 1) v' (if (cnt l s : Int) < most then l ++ [s] else l)) (h2 : Fr ((ob + 1) :: v.ownBlock.toList) W1 W2) : St W2 q m ob (k + 1) (takeF f s.data.toList most) (if (cnt l s : Int) < most then l ++ [s] else l) v' := by
  have hlo := h.lo
  have hn : ∀ g, g ≤ ob → g ∉ (ob + 1) :: v.ownBlock.toList := fun g hg hm => by
    simp at hm
    rcases hm with hm | hm
    · omega
    · have := h.own_ge hm; omega
  refine ⟨hq.fr h2 (hn q (by omega)) (hn m (by omega)), h2.blk (h1.blk h.odd (by simp; omega)) (hn ob (Nat.le_refl _)), hr, fun t => ?_, ?_, ⟨hlo.1, hlo.2.1, hlo.2.2.1, Nat.le_trans hlo.2.2.2 (Nat.le_trans h1.size h2.size)⟩⟩
  · unfold takeF
    rw [h.cn s]
    by_cases hlt : (cnt l s : Int) < most
    · rw [if_pos hlt, if_pos hlt, cnt_snoc]
      unfold upd
      by_cases ht : t = s
      · subst ht
        rw [if_pos rfl, if_pos ((bytes_beq_iff _ _).2 rfl)]
      · rw [if_neg (fun e => ht (ByteArray.ext (Array.toList_inj.1 e))), if_neg (fun e => ht ((bytes_beq_iff _ _).1 e).symm), h.cn]
        rfl
    · rw [if_neg hlt, if_neg hlt]
      exact h.cn t
  · have := h.len
    split
    · rw [List.length_append]; simp; omega
    · omega
end

end Go.Proofs.Ytlhogpnfongfmaa
