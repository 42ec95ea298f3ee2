/-
  The plain mathematics of the sums: the last word, and what is told.
-/
import Derived.Test.YtkioniffgmalgaaPlain2
namespace Go.Proofs.Ytkioniffgmalgaa.Sp

/-- The bytes of the last word: those that are left, zeros, the length. -/
def lastL (L : List Int) (n : Nat) : List Int := (L.take (n % 8) ++ List.replicate (8 - n % 8) 0).set 7 ((n : Int) % 256)
theorem lastL_byts {L : List Int} (h : Byts L) (n : Nat) : Byts (lastL L n) := by
  unfold lastL
  refine byts_set (fun i => ?_) ⟨by omega, by omega⟩ 7
  have := h i
  simp only [List.getD_eq_getElem?_getD, List.getElem?_append, List.getElem?_take, List.getElem?_replicate] at this ⊢
  split
  · split
    · exact this
    · simp
  · split <;> simp
theorem lastL_congr {L M : List Int} {n : Nat} (h : L.take (n % 8) = M.take (n % 8)) : lastL L n = lastL M n := by unfold lastL; rw [h]
/-- The last word's number. -/
def lastW (bs : List Int) : Int := numTo (lastL (bs.drop (8 * (bs.length / 8))) bs.length) 8
theorem lastL_tail {bs L : List Int} (hT : Tail bs L) : lastL L bs.length = lastL (bs.drop (8 * (bs.length / 8))) bs.length := by
  refine lastL_congr (List.ext_getElem? fun i => ?_)
  rw [List.getElem?_take, List.getElem?_take]
  by_cases hi : i < bs.length % 8
  · rw [if_pos hi, if_pos hi]
    have := hT.2.2 i hi
    rw [List.getElem?_drop]
    simp only [List.getD_eq_getElem?_getD] at this
    have h1 : i < L.length := by rw [hT.1]; omega
    have h2 : 8 * (bs.length / 8) + i < bs.length := by omega
    rw [List.getElem?_eq_getElem h1, List.getElem?_eq_getElem h2] at this ⊢
    simpa using this
  · rw [if_neg hi, if_neg hi]
/-- What is told of a state behind its last word. -/
def endS (u : St) : Int :=
  let v := rnds 4 ⟨u.a, u.b, xo u.c 255, u.d⟩
  xo (xo (xo v.a v.b) v.c) v.d
/-- The sum of bytes. -/
def sumS (k0 k1 : Int) (bs : List Int) : Int := endS (wordS (stOf k0 k1 bs (bs.length / 8)) (lastW bs))
theorem endS_W {u : St} (h : u.W) : W (endS u) := by
  have := rnds_W (s := ⟨u.a, u.b, xo u.c 255, u.d⟩) ⟨h.a, h.b, W.xo h.c (by unfold W; omega), h.d⟩ 4
  exact W.xo (W.xo (W.xo this.a this.b) this.c) this.d

end Go.Proofs.Ytkioniffgmalgaa.Sp
