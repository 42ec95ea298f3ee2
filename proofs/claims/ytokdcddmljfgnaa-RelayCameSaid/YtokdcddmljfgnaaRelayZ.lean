/-
  The two relays at whatever side.
-/
import Derived.Test.YtokdcddmljfgnaaRfP
namespace Go.Proofs.Ytokdcddmljfgnaa
open Go.RowKit Go.Shelf
set_option linter.unusedVariables false

def wantsZ (N : Nat) (S : Sta) (s : Int) : Nat := if s = 0 ∨ s = 1 then wn N S s.toNat else 0
def waitsZ (S : Sta) (s : Int) : Nat := if s = 0 ∨ s = 1 then (S.x (1 - s.toNat)).length else 0
def putSZ (N : Nat) (S : Sta) (s : Int) (bs : List Int) : Sta := if s = 0 ∨ s = 1 then putS N S s.toNat bs else S
def endZ (S : Sta) (s : Int) : Int := if s = 0 ∨ s = 1 then endR S s.toNat else 2
def endSZ (S : Sta) (s : Int) : Sta := if s = 0 ∨ s = 1 then endS S s.toNat else S
def takeNZ (S : Sta) (s k : Int) : Nat := if s = 0 ∨ s = 1 then takeN S s.toNat k else 0
def takeXZ (S : Sta) (s k : Int) : List Int := if s = 0 ∨ s = 1 then (S.x (1 - s.toNat)).take (takeN S s.toNat k) else []
def takeSZ (S : Sta) (s k : Int) : Sta := if s = 0 ∨ s = 1 then takeS S s.toNat k else S
def shutZ (S : Sta) (s : Int) : Bool := if s = 0 ∨ s = 1 then shutB S s.toNat else false
def shutSZ (S : Sta) (s : Int) : Sta := if s = 0 ∨ s = 1 then shutS S s.toNat else S

theorem sd_of {s : Int} (h : s = 0 ∨ s = 1) : Sd s s.toNat := by
  rcases h with rfl | rfl
  · exact .inl ⟨rfl, rfl⟩
  · exact .inr ⟨rfl, rfl⟩
theorem off_of {s : Int} (h : ¬ (s = 0 ∨ s = 1)) : s < 0 ∨ 2 ≤ s := by omega
theorem takeXZ_len (S : Sta) (s k : Int) : (takeXZ S s k).length = takeNZ S s k := by
  unfold takeXZ takeNZ
  split
  · simp [takeN]
  · rfl

/-- The relay's own blocks. -/
def RL (p : Nat) (r b : Nat → Nat) : List Nat := [p, r 0, b 0, r 1, b 1]
/-- The reference relay's blocks. -/
def VL (q : Nat) (v : Nat → Value) : List Nat := q :: ((v 0).ownBlock.toList ++ (v 1).ownBlock.toList)
def NewV (w : World) (v v' : Nat → Value) : Prop := ∀ j g, j = 0 ∨ j = 1 → (v' j).ownBlock = some g → (v j).ownBlock = some g ∨ w.heap.size ≤ g
theorem NewV.refl (w : World) (v : Nat → Value) : NewV w v v := fun j g _ h => .inl h
theorem mem_VL {q : Nat} {v : Nat → Value} {x : Nat} : x ∈ VL q v ↔ x = q ∨ (v 0).ownBlock = some x ∨ (v 1).ownBlock = some x := by simp [VL]
theorem mem_VL_i {q i : Nat} {v : Nat → Value} {x : Nat} (hi : i = 0 ∨ i = 1) (h : x ∈ q :: (v i).ownBlock.toList) : x ∈ VL q v := by
  rw [mem_VL]
  simp at h
  rcases hi with rfl | rfl
  · rcases h with h | h <;> simp [h]
  · rcases h with h | h <;> simp [h]
theorem newV_upd {w : World} {v : Nat → Value} {i : Nat} {u : Value} (h : u.ownBlock = (v i).ownBlock ∨ ∃ g, u.ownBlock = some g ∧ w.heap.size ≤ g) : NewV w v (upd v i u) := fun j g hj hg => by
  by_cases e : j = i
  · subst e
    rw [upd_same] at hg
    rcases h with h | ⟨g', h, h2⟩
    · rw [h] at hg; exact .inl hg
    · rw [h] at hg; cases hg; exact .inr h2
  · rw [upd_other _ _ e] at hg; exact .inl hg
theorem rl_sub {p i : Nat} {r b : Nat → Nat} (hi : i = 0 ∨ i = 1) : (∀ x ∈ [r i, b i], x ∈ RL p r b) ∧ (∀ x ∈ [r i], x ∈ RL p r b) := by
  rcases hi with rfl | rfl <;> simp [RL]
theorem Fr.sub {L M : List Nat} {a b : World} (h : Fr M a b) (hs : ∀ x ∈ M, x ∈ L) : Fr L a b := h.mono (fun x hx => .inl (hs x hx))

section
variable (p q B N : Nat) (r b : Nat → Nat) (v : Nat → Value) (S : Sta) (w : World) (s : Int)

theorem iz_wants (h : RelS w p r b N S) : Calls Try.prog 30 #[.pointer (some ⟨p, 0, none⟩), .int .i64 s] w fun e w' => e = .returned (.int .i64 (wantsZ N S s)) ∧ w = w' := by
  by_cases hs : s = 0 ∨ s = 1
  · rw [wantsZ, if_pos hs]; exact rwants_calls p N r b S w s _ h (sd_of hs)
  · rw [wantsZ, if_neg hs]; exact rwants_off p N r b S w s h (off_of hs)
theorem iz_waits (h : RelS w p r b N S) (h1 : -9223372036854775808 ≤ s ∧ s ≤ 9223372036854775807) : Calls Try.prog 33 #[.pointer (some ⟨p, 0, none⟩), .int .i64 s] w fun e w' => e = .returned (.int .i64 (waitsZ S s)) ∧ w = w' := by
  by_cases hs : s = 0 ∨ s = 1
  · rw [waitsZ, if_pos hs]; exact rwaits_calls p N r b S w s _ h (sd_of hs)
  · rw [waitsZ, if_neg hs]; exact rwaits_off p N r b S w s h h1 (off_of hs)
theorem iz_put (bs : List Int) (A : Option Addr) (c : Nat) (h : RelS w p r b N S) (hX : BytesAt w A bs (· ∉ RL p r b)) (hb : Byts bs) (hl : bs.length ≤ c) (hc : c ≤ 9223372036854775807) :
    Calls Try.prog 31 #[.pointer (some ⟨p, 0, none⟩), .int .i64 s, .slice A bs.length c] w fun e w' => e = .returned (.int .i64 (min bs.length (wantsZ N S s) : Nat)) ∧ RelS w' p r b N (putSZ N S s bs) ∧ Fr (RL p r b) w w' := by
  by_cases hs : s = 0 ∨ s = 1
  · rw [wantsZ, if_pos hs, putSZ, if_pos hs]
    have hsd := (sd_of hs).side
    refine (rlput_calls p N r b S w s _ bs A c h (sd_of hs) (hX.imp (fun g _ hg => ?_)) hb hl hc).mono ?_
    · rcases hsd with e | e <;> rw [e] <;> simp [RL] at hg ⊢ <;> omega
    · rintro e w' ⟨rfl, hr, hf⟩
      exact ⟨rfl, hr, hf.sub (rl_sub hsd).1⟩
  · rw [wantsZ, if_neg hs, putSZ, if_neg hs]
    refine (rput_off p N r b S w s A bs.length c h (off_of hs) (by omega)).mono ?_
    rintro e w' ⟨rfl, rfl⟩
    exact ⟨by simp, h, Fr.refl _ _⟩
theorem iz_end (h : RelS w p r b N S) : Calls Try.prog 32 #[.pointer (some ⟨p, 0, none⟩), .int .i64 s] w fun e w' => e = .returned (.int .i64 (endZ S s)) ∧ RelS w' p r b N (endSZ S s) ∧ Fr (RL p r b) w w' := by
  by_cases hs : s = 0 ∨ s = 1
  · rw [endZ, if_pos hs, endSZ, if_pos hs]
    refine (rend_calls p N r b S w s _ h (sd_of hs)).mono ?_
    rintro e w' ⟨rfl, hr, hf⟩
    exact ⟨rfl, hr, hf.sub (by simp [RL])⟩
  · rw [endZ, if_neg hs, endSZ, if_neg hs]
    refine (rend_off p N r b S w s h (off_of hs)).mono ?_
    rintro e w' ⟨rfl, rfl⟩
    exact ⟨rfl, h, Fr.refl _ _⟩
theorem iz_take (k : Int) (h : RelS w p r b N S) (h1 : -9223372036854775808 ≤ s ∧ s ≤ 9223372036854775807) (hk : -9223372036854775808 ≤ k ∧ k ≤ 9223372036854775807) :
    Calls Try.prog 34 #[.pointer (some ⟨p, 0, none⟩), .int .i64 s, .int .i64 k] w fun e w' => ∃ u, e = .returned u ∧ w'.ownsRow w.heap.size 5 1 u (takeNZ S s k) (bcells (takeXZ S s k)) ∧ RelS w' p r b N (takeSZ S s k) ∧ Fr (RL p r b) w w' := by
  by_cases hs : s = 0 ∨ s = 1
  · rw [takeNZ, if_pos hs, takeXZ, if_pos hs, takeSZ, if_pos hs]
    refine (rltake_calls p N r b S w s k _ h (sd_of hs) hk).mono ?_
    rintro e w' ⟨u, rfl, hu, hr, hf⟩
    exact ⟨u, rfl, hu, hr, hf.sub (rl_sub (by have := (sd_of hs).side; omega)).2⟩
  · rw [takeNZ, if_neg hs, takeXZ, if_neg hs, takeSZ, if_neg hs]
    refine (rtake_off p N r b S w s k h h1 (off_of hs)).mono ?_
    rintro e w' ⟨rfl, rfl⟩
    exact ⟨_, rfl, World.ownsRow_nil _ _ _ _, h, Fr.refl _ _⟩
theorem iz_shut (h : RelS w p r b N S) (h1 : -9223372036854775808 ≤ s ∧ s ≤ 9223372036854775807) : Calls Try.prog 35 #[.pointer (some ⟨p, 0, none⟩), .int .i64 s] w fun e w' => e = .returned (.bool (shutZ S s)) ∧ RelS w' p r b N (shutSZ S s) ∧ Fr (RL p r b) w w' := by
  by_cases hs : s = 0 ∨ s = 1
  · rw [shutZ, if_pos hs, shutSZ, if_pos hs]
    refine (rshut_calls p N r b S w s _ h (sd_of hs)).mono ?_
    rintro e w' ⟨rfl, hr, hf⟩
    exact ⟨rfl, hr, hf.sub (by simp [RL])⟩
  · rw [shutZ, if_neg hs, shutSZ, if_neg hs]
    refine (rshut_off p N r b S w s h h1 (off_of hs)).mono ?_
    rintro e w' ⟨rfl, rfl⟩
    exact ⟨rfl, h, Fr.refl _ _⟩

theorem fz_wants (h : RfS w q B N v S) (hN : N ≤ 4096) : Calls Try.prog 43 #[.pointer (some ⟨q, 0, none⟩), .int .i64 s] w fun e w' => e = .returned (.int .i64 (wantsZ N S s)) ∧ Fr [] w w' := by
  by_cases hs : s = 0 ∨ s = 1
  · rw [wantsZ, if_pos hs]; exact rfwants_calls q B N v S w s _ h (sd_of hs) hN
  · rw [wantsZ, if_neg hs]
    refine (rfwants_off q w s (off_of hs)).mono ?_
    rintro e w' ⟨rfl, rfl⟩
    exact ⟨rfl, Fr.refl _ _⟩
theorem fz_waits (h : RfS w q B N v S) (hN : N ≤ 4096) : Calls Try.prog 44 #[.pointer (some ⟨q, 0, none⟩), .int .i64 s] w fun e w' => e = .returned (.int .i64 (waitsZ S s)) ∧ w = w' := by
  by_cases hs : s = 0 ∨ s = 1
  · rw [waitsZ, if_pos hs]; exact rfwaits_calls q B N v S w s _ h (sd_of hs) hN
  · rw [waitsZ, if_neg hs]; exact rfwaits_off q w s (off_of hs)
theorem fz_put (bs : List Int) (A : Option Addr) (c : Nat) (h : RfS w q B N v S) (hN : N ≤ 4096) (hX : BytesAt w A bs (· ∉ VL q v)) (hl : bs.length ≤ 9223372036854775807) :
    Calls Try.prog 39 #[.pointer (some ⟨q, 0, none⟩), .int .i64 s, .slice A bs.length c] w fun e w' => e = .returned (.int .i64 (min bs.length (wantsZ N S s) : Nat)) ∧ ∃ v', RfS w' q B N v' (putSZ N S s bs) ∧ NewV w v v' ∧ Fr (VL q v) w w' := by
  by_cases hs : s = 0 ∨ s = 1
  · rw [wantsZ, if_pos hs, putSZ, if_pos hs]
    have hsd := (sd_of hs).side
    refine (rfput_calls q B N v S w s _ bs A c h (sd_of hs) hN (hX.imp (fun g _ hg => ?_)) hl).mono ?_
    · rw [mem_VL] at hg
      rcases hsd with e | e <;> rw [e] <;> exact ⟨fun h => hg (.inl h), fun h => hg (by simp [h])⟩
    · rintro e w' ⟨rfl, u, hr, hu, hf⟩
      exact ⟨rfl, _, hr, newV_upd hu, hf.sub (fun x hx => mem_VL_i hsd hx)⟩
  · rw [wantsZ, if_neg hs, putSZ, if_neg hs]
    refine (rfput_off q w s A bs.length c (off_of hs) hl).mono ?_
    rintro e w' ⟨rfl, rfl⟩
    exact ⟨by simp, v, h, NewV.refl _ _, Fr.refl _ _⟩
theorem fz_end (h : RfS w q B N v S) : Calls Try.prog 41 #[.pointer (some ⟨q, 0, none⟩), .int .i64 s] w fun e w' => e = .returned (.int .i64 (endZ S s)) ∧ ∃ v', RfS w' q B N v' (endSZ S s) ∧ NewV w v v' ∧ Fr (VL q v) w w' := by
  by_cases hs : s = 0 ∨ s = 1
  · rw [endZ, if_pos hs, endSZ, if_pos hs]
    refine (rfend_calls q B N v S w s _ h (sd_of hs)).mono ?_
    rintro e w' ⟨rfl, hr, hf⟩
    exact ⟨rfl, v, hr, NewV.refl _ _, hf.sub (by simp [mem_VL])⟩
  · rw [endZ, if_neg hs, endSZ, if_neg hs]
    refine (rfend_off q w s (off_of hs)).mono ?_
    rintro e w' ⟨rfl, rfl⟩
    exact ⟨rfl, v, h, NewV.refl _ _, Fr.refl _ _⟩
theorem fz_take (k : Int) (h : RfS w q B N v S) (hN : N ≤ 4096) (hk : -9223372036854775808 ≤ k ∧ k ≤ 9223372036854775807) :
    Calls Try.prog 40 #[.pointer (some ⟨q, 0, none⟩), .int .i64 s, .int .i64 k] w fun e w' => ∃ u, e = .returned u ∧ w'.ownsRow w.heap.size 5 1 u (takeNZ S s k) (bcells (takeXZ S s k)) ∧ ∃ v', RfS w' q B N v' (takeSZ S s k) ∧ NewV w v v' ∧ Fr (VL q v) w w' := by
  by_cases hs : s = 0 ∨ s = 1
  · rw [takeNZ, if_pos hs, takeXZ, if_pos hs, takeSZ, if_pos hs]
    refine (rftake_calls q B N v S w s k _ h (sd_of hs) hN hk).mono ?_
    rintro e w' ⟨u, rfl, hu, v', hr, hn, hf⟩
    exact ⟨u, rfl, hu, v', hr, hn, hf.sub (by simp [mem_VL])⟩
  · rw [takeNZ, if_neg hs, takeXZ, if_neg hs, takeSZ, if_neg hs]
    refine (rftake_off q w s k (off_of hs)).mono ?_
    rintro e w' ⟨rfl, rfl⟩
    exact ⟨_, rfl, World.ownsRow_nil _ _ _ _, v, h, NewV.refl _ _, Fr.refl _ _⟩
theorem fz_shut (h : RfS w q B N v S) (hN : N ≤ 4096) : Calls Try.prog 42 #[.pointer (some ⟨q, 0, none⟩), .int .i64 s] w fun e w' => e = .returned (.bool (shutZ S s)) ∧ ∃ v', RfS w' q B N v' (shutSZ S s) ∧ NewV w v v' ∧ Fr (VL q v) w w' := by
  by_cases hs : s = 0 ∨ s = 1
  · rw [shutZ, if_pos hs, shutSZ, if_pos hs]
    refine (rfshut_calls q B N v S w s _ h (sd_of hs) hN).mono ?_
    rintro e w' ⟨rfl, hr, hf⟩
    exact ⟨rfl, v, hr, NewV.refl _ _, hf.sub (by simp [mem_VL])⟩
  · rw [shutZ, if_neg hs, shutSZ, if_neg hs]
    refine (rfshut_off q w s (off_of hs)).mono ?_
    rintro e w' ⟨rfl, rfl⟩
    exact ⟨rfl, v, h, NewV.refl _ _, Fr.refl _ _⟩

end
end Go.Proofs.Ytokdcddmljfgnaa
