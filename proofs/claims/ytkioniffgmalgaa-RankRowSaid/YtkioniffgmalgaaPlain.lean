/-
  The plain mathematics of the sums: words of 64 bits as integers.
-/
import Derived.Laws.BitsAllLaws
import Derived.Laws.BitsLemmas
namespace Go.Proofs.Ytkioniffgmalgaa.Sp

/-- A word of 64 bits. -/
def W (x : Int) : Prop := 0 ≤ x ∧ x < 18446744073709551616
/-- The exclusive or. -/
def xo (a b : Int) : Int := bits .xor .u64 a b
/-- The sum of two words. -/
def ad (a b : Int) : Int := IntKind.u64.wrap (a + b)
/-- A word turned left. -/
def rot (k : Nat) (x : Int) : Int := (x * 2 ^ k) % 18446744073709551616 + x / 2 ^ (64 - k)

theorem W.ad (a b : Int) : W (Sp.ad a b) := by unfold Sp.ad; rw [IntKind.wrap_u64]; unfold W; omega
theorem W.xo {a b : Int} (ha : W a) (hb : W b) : W (Sp.xo a b) := by
  unfold Sp.xo
  rw [u64_xor a b ha.1 ha.2 hb.1 hb.2]
  have : a.toNat ^^^ b.toNat < 2 ^ 64 := Nat.xor_lt_two_pow (by have := ha.2; have := ha.1; omega) (by have := hb.2; have := hb.1; omega)
  unfold W
  omega
theorem xo_comm {a b : Int} (ha : W a) (hb : W b) : Sp.xo a b = Sp.xo b a := by
  unfold Sp.xo
  rw [u64_xor a b ha.1 ha.2 hb.1 hb.2, u64_xor b a hb.1 hb.2 ha.1 ha.2, Nat.xor_comm]

theorem wraps_u64 (n : Int) (h0 : 0 ≤ n) (h1 : n < 2 ^ 64) : IntKind.u64.wrap n = n := by rw [IntKind.wrap_u64]; omega
theorem or_join (i : Nat) (x y : Int) (hx0 : 0 ≤ x) (hx : x % 2 ^ i = 0) (hx1 : x < 18446744073709551616) (hy0 : 0 ≤ y) (hy : y < 2 ^ i) (hy1 : y < 18446744073709551616) : bits .or .u64 x y = x + y :=
  bits_join .u64 64 (by decide) wraps_u64 i x y hx0 hx (by omega) hy0 hy (by omega)
theorem or_13 {x : Int} (h : W x) : bits .or .u64 (IntKind.u64.wrap (x * 8192)) (x / 2251799813685248) = rot 13 x := by
  unfold W at h
  rw [IntKind.wrap_u64, or_join 13 _ _ (by omega) (by omega) (by omega) (by omega) (by omega) (by omega)]
  rfl
theorem W.rot_13 {x : Int} (h : W x) : W (rot 13 x) := by
  unfold W at h ⊢
  rw [show rot 13 x = (x * 8192) % 18446744073709551616 + x / 2251799813685248 from rfl]
  omega
theorem or_16 {x : Int} (h : W x) : bits .or .u64 (IntKind.u64.wrap (x * 65536)) (x / 281474976710656) = rot 16 x := by
  unfold W at h
  rw [IntKind.wrap_u64, or_join 16 _ _ (by omega) (by omega) (by omega) (by omega) (by omega) (by omega)]
  rfl
theorem W.rot_16 {x : Int} (h : W x) : W (rot 16 x) := by
  unfold W at h ⊢
  rw [show rot 16 x = (x * 65536) % 18446744073709551616 + x / 281474976710656 from rfl]
  omega
theorem or_17 {x : Int} (h : W x) : bits .or .u64 (IntKind.u64.wrap (x * 131072)) (x / 140737488355328) = rot 17 x := by
  unfold W at h
  rw [IntKind.wrap_u64, or_join 17 _ _ (by omega) (by omega) (by omega) (by omega) (by omega) (by omega)]
  rfl
theorem W.rot_17 {x : Int} (h : W x) : W (rot 17 x) := by
  unfold W at h ⊢
  rw [show rot 17 x = (x * 131072) % 18446744073709551616 + x / 140737488355328 from rfl]
  omega
theorem or_21 {x : Int} (h : W x) : bits .or .u64 (IntKind.u64.wrap (x * 2097152)) (x / 8796093022208) = rot 21 x := by
  unfold W at h
  rw [IntKind.wrap_u64, or_join 21 _ _ (by omega) (by omega) (by omega) (by omega) (by omega) (by omega)]
  rfl
theorem W.rot_21 {x : Int} (h : W x) : W (rot 21 x) := by
  unfold W at h ⊢
  rw [show rot 21 x = (x * 2097152) % 18446744073709551616 + x / 8796093022208 from rfl]
  omega
theorem or_32 {x : Int} (h : W x) : bits .or .u64 (IntKind.u64.wrap (x * 4294967296)) (x / 4294967296) = rot 32 x := by
  unfold W at h
  rw [IntKind.wrap_u64, or_join 32 _ _ (by omega) (by omega) (by omega) (by omega) (by omega) (by omega)]
  rfl
theorem W.rot_32 {x : Int} (h : W x) : W (rot 32 x) := by
  unfold W at h ⊢
  rw [show rot 32 x = (x * 4294967296) % 18446744073709551616 + x / 4294967296 from rfl]
  omega

/-- The four numbers. -/
structure St where
  a : Int
  b : Int
  c : Int
  d : Int
structure St.W (s : St) : Prop where
  a : Sp.W s.a
  b : Sp.W s.b
  c : Sp.W s.c
  d : Sp.W s.d
/-- A round's first half, and its second one. -/
def half1 (s : St) : St := ⟨rot 32 (ad s.a s.b), xo (rot 13 s.b) (ad s.a s.b), ad s.c s.d, xo (rot 16 s.d) (ad s.c s.d)⟩
def half2 (s : St) : St := ⟨ad s.a s.d, xo (rot 17 s.b) (ad s.c s.b), rot 32 (ad s.c s.b), xo (rot 21 s.d) (ad s.a s.d)⟩
theorem half1_W {s : St} (h : s.W) : (half1 s).W := ⟨(W.ad _ _).rot_32, W.xo h.b.rot_13 (W.ad _ _), W.ad _ _, W.xo h.d.rot_16 (W.ad _ _)⟩
theorem half2_W {s : St} (h : s.W) : (half2 s).W := ⟨W.ad _ _, W.xo h.b.rot_17 (W.ad _ _), (W.ad _ _).rot_32, W.xo h.d.rot_21 (W.ad _ _)⟩
/-- Some rounds. -/
def rnds : Nat → St → St
  | 0, s => s
  | k + 1, s => half2 (half1 (rnds k s))
theorem rnds_W {s : St} (h : s.W) : ∀ k, (rnds k s).W
  | 0 => h
  | k + 1 => half2_W (half1_W (rnds_W h k))
/-- A word is taken in. -/
def wordS (s : St) (m : Int) : St :=
  let t := rnds 2 ⟨s.a, s.b, s.c, xo s.d m⟩
  ⟨xo t.a m, t.b, t.c, t.d⟩
theorem wordS_W {s : St} (h : s.W) {m : Int} (hm : W m) : (wordS s m).W := by
  have := rnds_W (s := ⟨s.a, s.b, s.c, xo s.d m⟩) ⟨h.a, h.b, h.c, W.xo h.d hm⟩ 2
  exact ⟨W.xo this.a hm, this.b, this.c, this.d⟩
theorem or_comm {x y : Int} (hx0 : 0 ≤ x) (hx1 : x < 18446744073709551616) (hy0 : 0 ≤ y) (hy1 : y < 18446744073709551616) : bits .or .u64 x y = bits .or .u64 y x := by
  rw [u64_or x y hx0 hx1 hy0 hy1, u64_or y x hy0 hy1 hx0 hx1, Nat.or_comm]
/-- The number of the first k bytes. -/
def numTo (bs : List Int) : Nat → Int
  | 0 => 0
  | k + 1 => numTo bs k + bs.getD k 0 * 256 ^ k
theorem numTo_bd {bs : List Int} (h : ∀ i, 0 ≤ bs.getD i 0 ∧ bs.getD i 0 < 256) : ∀ k, 0 ≤ numTo bs k ∧ numTo bs k < 256 ^ k
  | 0 => by simp [numTo]
  | k + 1 => by
    have ih := numTo_bd h k
    have hb := h k
    have hp : (0 : Int) < 256 ^ k := Int.pow_pos (by decide)
    have h1 : bs.getD k 0 * 256 ^ k ≤ 255 * 256 ^ k := Int.mul_le_mul_of_nonneg_right (by omega) (by omega)
    have h2 : 0 ≤ bs.getD k 0 * 256 ^ k := Int.mul_nonneg (by omega) (by omega)
    simp only [numTo]
    rw [Int.pow_succ]
    omega
theorem numTo_or {bs : List Int} (h : ∀ i, 0 ≤ bs.getD i 0 ∧ bs.getD i 0 < 256) (k : Nat) (hk : k < 8) :
    bits .or .u64 (numTo bs k) (IntKind.u64.wrap (bs.getD k 0 * 2 ^ min (8 * k) 64)) = numTo bs (k + 1) := by
  have ih := numTo_bd h k
  have hb := h k
  simp only [numTo]
  generalize numTo bs k = x at *
  generalize bs.getD k 0 = b at *
  have hx : 0 ≤ x ∧ x < 18446744073709551616 := by
    rcases (by omega : k = 0 ∨ k = 1 ∨ k = 2 ∨ k = 3 ∨ k = 4 ∨ k = 5 ∨ k = 6 ∨ k = 7) with rfl | rfl | rfl | rfl | rfl | rfl | rfl | rfl <;> omega
  have hy : IntKind.u64.wrap (b * 2 ^ min (8 * k) 64) = b * 256 ^ k := by
    rw [IntKind.wrap_u64]
    rcases (by omega : k = 0 ∨ k = 1 ∨ k = 2 ∨ k = 3 ∨ k = 4 ∨ k = 5 ∨ k = 6 ∨ k = 7) with rfl | rfl | rfl | rfl | rfl | rfl | rfl | rfl <;> (simp; try omega)
  rw [hy, or_comm (x := x) (y := b * 256 ^ k) hx.1 hx.2 (Int.mul_nonneg hb.1 (Int.le_of_lt (Int.pow_pos (by decide)))) (by
    rcases (by omega : k = 0 ∨ k = 1 ∨ k = 2 ∨ k = 3 ∨ k = 4 ∨ k = 5 ∨ k = 6 ∨ k = 7) with rfl | rfl | rfl | rfl | rfl | rfl | rfl | rfl <;> omega), Int.add_comm]
  rcases (by omega : k = 0 ∨ k = 1 ∨ k = 2 ∨ k = 3 ∨ k = 4 ∨ k = 5 ∨ k = 6 ∨ k = 7) with rfl | rfl | rfl | rfl | rfl | rfl | rfl | rfl
  · exact or_join 0 _ _ (by omega) (by omega) (by omega) ih.1 (by omega) hx.2
  · exact or_join 8 _ _ (by omega) (by omega) (by omega) ih.1 (by omega) hx.2
  · exact or_join 16 _ _ (by omega) (by omega) (by omega) ih.1 (by omega) hx.2
  · exact or_join 24 _ _ (by omega) (by omega) (by omega) ih.1 (by omega) hx.2
  · exact or_join 32 _ _ (by omega) (by omega) (by omega) ih.1 (by omega) hx.2
  · exact or_join 40 _ _ (by omega) (by omega) (by omega) ih.1 (by omega) hx.2
  · exact or_join 48 _ _ (by omega) (by omega) (by omega) ih.1 (by omega) hx.2
  · exact or_join 56 _ _ (by omega) (by omega) (by omega) ih.1 (by omega) hx.2

end Go.Proofs.Ytkioniffgmalgaa.Sp
