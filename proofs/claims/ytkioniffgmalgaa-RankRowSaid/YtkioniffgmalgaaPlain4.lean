/-
  A word turned left by one more bit; the reference's round is the program's.
-/
import Derived.Test.YtkioniffgmalgaaPlain3
namespace Go.Proofs.Ytkioniffgmalgaa.Sp

/-- One turn of the reference's. -/
def lft (x : Int) : Int := IntKind.u64.wrap (2 * x + x / 9223372036854775808)
def lfts (x : Int) : Nat → Int
  | 0 => x
  | k + 1 => lft (lfts x k)
theorem rot_zero {x : Int} (h : W x) : rot 0 x = x := by
  unfold W at h
  unfold rot
  rw [show (2 : Int) ^ 0 = 1 from rfl, show (2 : Int) ^ (64 - 0) = 18446744073709551616 from rfl]
  omega
theorem rot_s0 {x : Int} (h : W x) : lft (rot 0 x) = rot 1 x := by
  unfold W at h
  unfold lft
  obtain ⟨q, b, r, hx, hb, hq0, hq1, hr0, hr1⟩ : ∃ q b r : Int, x = q * 18446744073709551616 + b * 9223372036854775808 + r ∧ (b = 0 ∨ b = 1) ∧ 0 ≤ q ∧ q < 1 ∧ 0 ≤ r ∧ r < 9223372036854775808 := ⟨x / 18446744073709551616, x / 9223372036854775808 - 2 * (x / 18446744073709551616), x % 9223372036854775808, by omega, by omega, by omega, by omega, by omega, by omega⟩
  have e1 : (x * 1) % 18446744073709551616 = b * 9223372036854775808 + r * 1 := by rcases hb with rfl | rfl <;> omega
  have e2 : x / 18446744073709551616 = q := by rcases hb with rfl | rfl <;> omega
  have e3 : (x * 2) % 18446744073709551616 = r * 2 := by rcases hb with rfl | rfl <;> omega
  have e4 : x / 9223372036854775808 = 2 * q + b := by rcases hb with rfl | rfl <;> omega
  rw [IntKind.wrap_u64, show rot 0 x = (x * 1) % 18446744073709551616 + x / 18446744073709551616 from rfl, show rot 1 x = (x * 2) % 18446744073709551616 + x / 9223372036854775808 from rfl, e1, e2, e3, e4]
  have e5 : (b * 9223372036854775808 + r * 1 + q) / 9223372036854775808 = b := by rcases hb with rfl | rfl <;> omega
  rw [e5]
  rcases hb with rfl | rfl <;> omega
theorem rot_s1 {x : Int} (h : W x) : lft (rot 1 x) = rot 2 x := by
  unfold W at h
  unfold lft
  obtain ⟨q, b, r, hx, hb, hq0, hq1, hr0, hr1⟩ : ∃ q b r : Int, x = q * 9223372036854775808 + b * 4611686018427387904 + r ∧ (b = 0 ∨ b = 1) ∧ 0 ≤ q ∧ q < 2 ∧ 0 ≤ r ∧ r < 4611686018427387904 := ⟨x / 9223372036854775808, x / 4611686018427387904 - 2 * (x / 9223372036854775808), x % 4611686018427387904, by omega, by omega, by omega, by omega, by omega, by omega⟩
  have e1 : (x * 2) % 18446744073709551616 = b * 9223372036854775808 + r * 2 := by rcases hb with rfl | rfl <;> omega
  have e2 : x / 9223372036854775808 = q := by rcases hb with rfl | rfl <;> omega
  have e3 : (x * 4) % 18446744073709551616 = r * 4 := by rcases hb with rfl | rfl <;> omega
  have e4 : x / 4611686018427387904 = 2 * q + b := by rcases hb with rfl | rfl <;> omega
  rw [IntKind.wrap_u64, show rot 1 x = (x * 2) % 18446744073709551616 + x / 9223372036854775808 from rfl, show rot 2 x = (x * 4) % 18446744073709551616 + x / 4611686018427387904 from rfl, e1, e2, e3, e4]
  have e5 : (b * 9223372036854775808 + r * 2 + q) / 9223372036854775808 = b := by rcases hb with rfl | rfl <;> omega
  rw [e5]
  rcases hb with rfl | rfl <;> omega
theorem rot_s2 {x : Int} (h : W x) : lft (rot 2 x) = rot 3 x := by
  unfold W at h
  unfold lft
  obtain ⟨q, b, r, hx, hb, hq0, hq1, hr0, hr1⟩ : ∃ q b r : Int, x = q * 4611686018427387904 + b * 2305843009213693952 + r ∧ (b = 0 ∨ b = 1) ∧ 0 ≤ q ∧ q < 4 ∧ 0 ≤ r ∧ r < 2305843009213693952 := ⟨x / 4611686018427387904, x / 2305843009213693952 - 2 * (x / 4611686018427387904), x % 2305843009213693952, by omega, by omega, by omega, by omega, by omega, by omega⟩
  have e1 : (x * 4) % 18446744073709551616 = b * 9223372036854775808 + r * 4 := by rcases hb with rfl | rfl <;> omega
  have e2 : x / 4611686018427387904 = q := by rcases hb with rfl | rfl <;> omega
  have e3 : (x * 8) % 18446744073709551616 = r * 8 := by rcases hb with rfl | rfl <;> omega
  have e4 : x / 2305843009213693952 = 2 * q + b := by rcases hb with rfl | rfl <;> omega
  rw [IntKind.wrap_u64, show rot 2 x = (x * 4) % 18446744073709551616 + x / 4611686018427387904 from rfl, show rot 3 x = (x * 8) % 18446744073709551616 + x / 2305843009213693952 from rfl, e1, e2, e3, e4]
  have e5 : (b * 9223372036854775808 + r * 4 + q) / 9223372036854775808 = b := by rcases hb with rfl | rfl <;> omega
  rw [e5]
  rcases hb with rfl | rfl <;> omega
theorem rot_s3 {x : Int} (h : W x) : lft (rot 3 x) = rot 4 x := by
  unfold W at h
  unfold lft
  obtain ⟨q, b, r, hx, hb, hq0, hq1, hr0, hr1⟩ : ∃ q b r : Int, x = q * 2305843009213693952 + b * 1152921504606846976 + r ∧ (b = 0 ∨ b = 1) ∧ 0 ≤ q ∧ q < 8 ∧ 0 ≤ r ∧ r < 1152921504606846976 := ⟨x / 2305843009213693952, x / 1152921504606846976 - 2 * (x / 2305843009213693952), x % 1152921504606846976, by omega, by omega, by omega, by omega, by omega, by omega⟩
  have e1 : (x * 8) % 18446744073709551616 = b * 9223372036854775808 + r * 8 := by rcases hb with rfl | rfl <;> omega
  have e2 : x / 2305843009213693952 = q := by rcases hb with rfl | rfl <;> omega
  have e3 : (x * 16) % 18446744073709551616 = r * 16 := by rcases hb with rfl | rfl <;> omega
  have e4 : x / 1152921504606846976 = 2 * q + b := by rcases hb with rfl | rfl <;> omega
  rw [IntKind.wrap_u64, show rot 3 x = (x * 8) % 18446744073709551616 + x / 2305843009213693952 from rfl, show rot 4 x = (x * 16) % 18446744073709551616 + x / 1152921504606846976 from rfl, e1, e2, e3, e4]
  have e5 : (b * 9223372036854775808 + r * 8 + q) / 9223372036854775808 = b := by rcases hb with rfl | rfl <;> omega
  rw [e5]
  rcases hb with rfl | rfl <;> omega
theorem rot_s4 {x : Int} (h : W x) : lft (rot 4 x) = rot 5 x := by
  unfold W at h
  unfold lft
  obtain ⟨q, b, r, hx, hb, hq0, hq1, hr0, hr1⟩ : ∃ q b r : Int, x = q * 1152921504606846976 + b * 576460752303423488 + r ∧ (b = 0 ∨ b = 1) ∧ 0 ≤ q ∧ q < 16 ∧ 0 ≤ r ∧ r < 576460752303423488 := ⟨x / 1152921504606846976, x / 576460752303423488 - 2 * (x / 1152921504606846976), x % 576460752303423488, by omega, by omega, by omega, by omega, by omega, by omega⟩
  have e1 : (x * 16) % 18446744073709551616 = b * 9223372036854775808 + r * 16 := by rcases hb with rfl | rfl <;> omega
  have e2 : x / 1152921504606846976 = q := by rcases hb with rfl | rfl <;> omega
  have e3 : (x * 32) % 18446744073709551616 = r * 32 := by rcases hb with rfl | rfl <;> omega
  have e4 : x / 576460752303423488 = 2 * q + b := by rcases hb with rfl | rfl <;> omega
  rw [IntKind.wrap_u64, show rot 4 x = (x * 16) % 18446744073709551616 + x / 1152921504606846976 from rfl, show rot 5 x = (x * 32) % 18446744073709551616 + x / 576460752303423488 from rfl, e1, e2, e3, e4]
  have e5 : (b * 9223372036854775808 + r * 16 + q) / 9223372036854775808 = b := by rcases hb with rfl | rfl <;> omega
  rw [e5]
  rcases hb with rfl | rfl <;> omega
theorem rot_s5 {x : Int} (h : W x) : lft (rot 5 x) = rot 6 x := by
  unfold W at h
  unfold lft
  obtain ⟨q, b, r, hx, hb, hq0, hq1, hr0, hr1⟩ : ∃ q b r : Int, x = q * 576460752303423488 + b * 288230376151711744 + r ∧ (b = 0 ∨ b = 1) ∧ 0 ≤ q ∧ q < 32 ∧ 0 ≤ r ∧ r < 288230376151711744 := ⟨x / 576460752303423488, x / 288230376151711744 - 2 * (x / 576460752303423488), x % 288230376151711744, by omega, by omega, by omega, by omega, by omega, by omega⟩
  have e1 : (x * 32) % 18446744073709551616 = b * 9223372036854775808 + r * 32 := by rcases hb with rfl | rfl <;> omega
  have e2 : x / 576460752303423488 = q := by rcases hb with rfl | rfl <;> omega
  have e3 : (x * 64) % 18446744073709551616 = r * 64 := by rcases hb with rfl | rfl <;> omega
  have e4 : x / 288230376151711744 = 2 * q + b := by rcases hb with rfl | rfl <;> omega
  rw [IntKind.wrap_u64, show rot 5 x = (x * 32) % 18446744073709551616 + x / 576460752303423488 from rfl, show rot 6 x = (x * 64) % 18446744073709551616 + x / 288230376151711744 from rfl, e1, e2, e3, e4]
  have e5 : (b * 9223372036854775808 + r * 32 + q) / 9223372036854775808 = b := by rcases hb with rfl | rfl <;> omega
  rw [e5]
  rcases hb with rfl | rfl <;> omega
theorem rot_s6 {x : Int} (h : W x) : lft (rot 6 x) = rot 7 x := by
  unfold W at h
  unfold lft
  obtain ⟨q, b, r, hx, hb, hq0, hq1, hr0, hr1⟩ : ∃ q b r : Int, x = q * 288230376151711744 + b * 144115188075855872 + r ∧ (b = 0 ∨ b = 1) ∧ 0 ≤ q ∧ q < 64 ∧ 0 ≤ r ∧ r < 144115188075855872 := ⟨x / 288230376151711744, x / 144115188075855872 - 2 * (x / 288230376151711744), x % 144115188075855872, by omega, by omega, by omega, by omega, by omega, by omega⟩
  have e1 : (x * 64) % 18446744073709551616 = b * 9223372036854775808 + r * 64 := by rcases hb with rfl | rfl <;> omega
  have e2 : x / 288230376151711744 = q := by rcases hb with rfl | rfl <;> omega
  have e3 : (x * 128) % 18446744073709551616 = r * 128 := by rcases hb with rfl | rfl <;> omega
  have e4 : x / 144115188075855872 = 2 * q + b := by rcases hb with rfl | rfl <;> omega
  rw [IntKind.wrap_u64, show rot 6 x = (x * 64) % 18446744073709551616 + x / 288230376151711744 from rfl, show rot 7 x = (x * 128) % 18446744073709551616 + x / 144115188075855872 from rfl, e1, e2, e3, e4]
  have e5 : (b * 9223372036854775808 + r * 64 + q) / 9223372036854775808 = b := by rcases hb with rfl | rfl <;> omega
  rw [e5]
  rcases hb with rfl | rfl <;> omega
theorem rot_s7 {x : Int} (h : W x) : lft (rot 7 x) = rot 8 x := by
  unfold W at h
  unfold lft
  obtain ⟨q, b, r, hx, hb, hq0, hq1, hr0, hr1⟩ : ∃ q b r : Int, x = q * 144115188075855872 + b * 72057594037927936 + r ∧ (b = 0 ∨ b = 1) ∧ 0 ≤ q ∧ q < 128 ∧ 0 ≤ r ∧ r < 72057594037927936 := ⟨x / 144115188075855872, x / 72057594037927936 - 2 * (x / 144115188075855872), x % 72057594037927936, by omega, by omega, by omega, by omega, by omega, by omega⟩
  have e1 : (x * 128) % 18446744073709551616 = b * 9223372036854775808 + r * 128 := by rcases hb with rfl | rfl <;> omega
  have e2 : x / 144115188075855872 = q := by rcases hb with rfl | rfl <;> omega
  have e3 : (x * 256) % 18446744073709551616 = r * 256 := by rcases hb with rfl | rfl <;> omega
  have e4 : x / 72057594037927936 = 2 * q + b := by rcases hb with rfl | rfl <;> omega
  rw [IntKind.wrap_u64, show rot 7 x = (x * 128) % 18446744073709551616 + x / 144115188075855872 from rfl, show rot 8 x = (x * 256) % 18446744073709551616 + x / 72057594037927936 from rfl, e1, e2, e3, e4]
  have e5 : (b * 9223372036854775808 + r * 128 + q) / 9223372036854775808 = b := by rcases hb with rfl | rfl <;> omega
  rw [e5]
  rcases hb with rfl | rfl <;> omega
theorem rot_s8 {x : Int} (h : W x) : lft (rot 8 x) = rot 9 x := by
  unfold W at h
  unfold lft
  obtain ⟨q, b, r, hx, hb, hq0, hq1, hr0, hr1⟩ : ∃ q b r : Int, x = q * 72057594037927936 + b * 36028797018963968 + r ∧ (b = 0 ∨ b = 1) ∧ 0 ≤ q ∧ q < 256 ∧ 0 ≤ r ∧ r < 36028797018963968 := ⟨x / 72057594037927936, x / 36028797018963968 - 2 * (x / 72057594037927936), x % 36028797018963968, by omega, by omega, by omega, by omega, by omega, by omega⟩
  have e1 : (x * 256) % 18446744073709551616 = b * 9223372036854775808 + r * 256 := by rcases hb with rfl | rfl <;> omega
  have e2 : x / 72057594037927936 = q := by rcases hb with rfl | rfl <;> omega
  have e3 : (x * 512) % 18446744073709551616 = r * 512 := by rcases hb with rfl | rfl <;> omega
  have e4 : x / 36028797018963968 = 2 * q + b := by rcases hb with rfl | rfl <;> omega
  rw [IntKind.wrap_u64, show rot 8 x = (x * 256) % 18446744073709551616 + x / 72057594037927936 from rfl, show rot 9 x = (x * 512) % 18446744073709551616 + x / 36028797018963968 from rfl, e1, e2, e3, e4]
  have e5 : (b * 9223372036854775808 + r * 256 + q) / 9223372036854775808 = b := by rcases hb with rfl | rfl <;> omega
  rw [e5]
  rcases hb with rfl | rfl <;> omega
theorem rot_s9 {x : Int} (h : W x) : lft (rot 9 x) = rot 10 x := by
  unfold W at h
  unfold lft
  obtain ⟨q, b, r, hx, hb, hq0, hq1, hr0, hr1⟩ : ∃ q b r : Int, x = q * 36028797018963968 + b * 18014398509481984 + r ∧ (b = 0 ∨ b = 1) ∧ 0 ≤ q ∧ q < 512 ∧ 0 ≤ r ∧ r < 18014398509481984 := ⟨x / 36028797018963968, x / 18014398509481984 - 2 * (x / 36028797018963968), x % 18014398509481984, by omega, by omega, by omega, by omega, by omega, by omega⟩
  have e1 : (x * 512) % 18446744073709551616 = b * 9223372036854775808 + r * 512 := by rcases hb with rfl | rfl <;> omega
  have e2 : x / 36028797018963968 = q := by rcases hb with rfl | rfl <;> omega
  have e3 : (x * 1024) % 18446744073709551616 = r * 1024 := by rcases hb with rfl | rfl <;> omega
  have e4 : x / 18014398509481984 = 2 * q + b := by rcases hb with rfl | rfl <;> omega
  rw [IntKind.wrap_u64, show rot 9 x = (x * 512) % 18446744073709551616 + x / 36028797018963968 from rfl, show rot 10 x = (x * 1024) % 18446744073709551616 + x / 18014398509481984 from rfl, e1, e2, e3, e4]
  have e5 : (b * 9223372036854775808 + r * 512 + q) / 9223372036854775808 = b := by rcases hb with rfl | rfl <;> omega
  rw [e5]
  rcases hb with rfl | rfl <;> omega
theorem rot_s10 {x : Int} (h : W x) : lft (rot 10 x) = rot 11 x := by
  unfold W at h
  unfold lft
  obtain ⟨q, b, r, hx, hb, hq0, hq1, hr0, hr1⟩ : ∃ q b r : Int, x = q * 18014398509481984 + b * 9007199254740992 + r ∧ (b = 0 ∨ b = 1) ∧ 0 ≤ q ∧ q < 1024 ∧ 0 ≤ r ∧ r < 9007199254740992 := ⟨x / 18014398509481984, x / 9007199254740992 - 2 * (x / 18014398509481984), x % 9007199254740992, by omega, by omega, by omega, by omega, by omega, by omega⟩
  have e1 : (x * 1024) % 18446744073709551616 = b * 9223372036854775808 + r * 1024 := by rcases hb with rfl | rfl <;> omega
  have e2 : x / 18014398509481984 = q := by rcases hb with rfl | rfl <;> omega
  have e3 : (x * 2048) % 18446744073709551616 = r * 2048 := by rcases hb with rfl | rfl <;> omega
  have e4 : x / 9007199254740992 = 2 * q + b := by rcases hb with rfl | rfl <;> omega
  rw [IntKind.wrap_u64, show rot 10 x = (x * 1024) % 18446744073709551616 + x / 18014398509481984 from rfl, show rot 11 x = (x * 2048) % 18446744073709551616 + x / 9007199254740992 from rfl, e1, e2, e3, e4]
  have e5 : (b * 9223372036854775808 + r * 1024 + q) / 9223372036854775808 = b := by rcases hb with rfl | rfl <;> omega
  rw [e5]
  rcases hb with rfl | rfl <;> omega
theorem rot_s11 {x : Int} (h : W x) : lft (rot 11 x) = rot 12 x := by
  unfold W at h
  unfold lft
  obtain ⟨q, b, r, hx, hb, hq0, hq1, hr0, hr1⟩ : ∃ q b r : Int, x = q * 9007199254740992 + b * 4503599627370496 + r ∧ (b = 0 ∨ b = 1) ∧ 0 ≤ q ∧ q < 2048 ∧ 0 ≤ r ∧ r < 4503599627370496 := ⟨x / 9007199254740992, x / 4503599627370496 - 2 * (x / 9007199254740992), x % 4503599627370496, by omega, by omega, by omega, by omega, by omega, by omega⟩
  have e1 : (x * 2048) % 18446744073709551616 = b * 9223372036854775808 + r * 2048 := by rcases hb with rfl | rfl <;> omega
  have e2 : x / 9007199254740992 = q := by rcases hb with rfl | rfl <;> omega
  have e3 : (x * 4096) % 18446744073709551616 = r * 4096 := by rcases hb with rfl | rfl <;> omega
  have e4 : x / 4503599627370496 = 2 * q + b := by rcases hb with rfl | rfl <;> omega
  rw [IntKind.wrap_u64, show rot 11 x = (x * 2048) % 18446744073709551616 + x / 9007199254740992 from rfl, show rot 12 x = (x * 4096) % 18446744073709551616 + x / 4503599627370496 from rfl, e1, e2, e3, e4]
  have e5 : (b * 9223372036854775808 + r * 2048 + q) / 9223372036854775808 = b := by rcases hb with rfl | rfl <;> omega
  rw [e5]
  rcases hb with rfl | rfl <;> omega
theorem rot_s12 {x : Int} (h : W x) : lft (rot 12 x) = rot 13 x := by
  unfold W at h
  unfold lft
  obtain ⟨q, b, r, hx, hb, hq0, hq1, hr0, hr1⟩ : ∃ q b r : Int, x = q * 4503599627370496 + b * 2251799813685248 + r ∧ (b = 0 ∨ b = 1) ∧ 0 ≤ q ∧ q < 4096 ∧ 0 ≤ r ∧ r < 2251799813685248 := ⟨x / 4503599627370496, x / 2251799813685248 - 2 * (x / 4503599627370496), x % 2251799813685248, by omega, by omega, by omega, by omega, by omega, by omega⟩
  have e1 : (x * 4096) % 18446744073709551616 = b * 9223372036854775808 + r * 4096 := by rcases hb with rfl | rfl <;> omega
  have e2 : x / 4503599627370496 = q := by rcases hb with rfl | rfl <;> omega
  have e3 : (x * 8192) % 18446744073709551616 = r * 8192 := by rcases hb with rfl | rfl <;> omega
  have e4 : x / 2251799813685248 = 2 * q + b := by rcases hb with rfl | rfl <;> omega
  rw [IntKind.wrap_u64, show rot 12 x = (x * 4096) % 18446744073709551616 + x / 4503599627370496 from rfl, show rot 13 x = (x * 8192) % 18446744073709551616 + x / 2251799813685248 from rfl, e1, e2, e3, e4]
  have e5 : (b * 9223372036854775808 + r * 4096 + q) / 9223372036854775808 = b := by rcases hb with rfl | rfl <;> omega
  rw [e5]
  rcases hb with rfl | rfl <;> omega
theorem rot_s13 {x : Int} (h : W x) : lft (rot 13 x) = rot 14 x := by
  unfold W at h
  unfold lft
  obtain ⟨q, b, r, hx, hb, hq0, hq1, hr0, hr1⟩ : ∃ q b r : Int, x = q * 2251799813685248 + b * 1125899906842624 + r ∧ (b = 0 ∨ b = 1) ∧ 0 ≤ q ∧ q < 8192 ∧ 0 ≤ r ∧ r < 1125899906842624 := ⟨x / 2251799813685248, x / 1125899906842624 - 2 * (x / 2251799813685248), x % 1125899906842624, by omega, by omega, by omega, by omega, by omega, by omega⟩
  have e1 : (x * 8192) % 18446744073709551616 = b * 9223372036854775808 + r * 8192 := by rcases hb with rfl | rfl <;> omega
  have e2 : x / 2251799813685248 = q := by rcases hb with rfl | rfl <;> omega
  have e3 : (x * 16384) % 18446744073709551616 = r * 16384 := by rcases hb with rfl | rfl <;> omega
  have e4 : x / 1125899906842624 = 2 * q + b := by rcases hb with rfl | rfl <;> omega
  rw [IntKind.wrap_u64, show rot 13 x = (x * 8192) % 18446744073709551616 + x / 2251799813685248 from rfl, show rot 14 x = (x * 16384) % 18446744073709551616 + x / 1125899906842624 from rfl, e1, e2, e3, e4]
  have e5 : (b * 9223372036854775808 + r * 8192 + q) / 9223372036854775808 = b := by rcases hb with rfl | rfl <;> omega
  rw [e5]
  rcases hb with rfl | rfl <;> omega
theorem rot_s14 {x : Int} (h : W x) : lft (rot 14 x) = rot 15 x := by
  unfold W at h
  unfold lft
  obtain ⟨q, b, r, hx, hb, hq0, hq1, hr0, hr1⟩ : ∃ q b r : Int, x = q * 1125899906842624 + b * 562949953421312 + r ∧ (b = 0 ∨ b = 1) ∧ 0 ≤ q ∧ q < 16384 ∧ 0 ≤ r ∧ r < 562949953421312 := ⟨x / 1125899906842624, x / 562949953421312 - 2 * (x / 1125899906842624), x % 562949953421312, by omega, by omega, by omega, by omega, by omega, by omega⟩
  have e1 : (x * 16384) % 18446744073709551616 = b * 9223372036854775808 + r * 16384 := by rcases hb with rfl | rfl <;> omega
  have e2 : x / 1125899906842624 = q := by rcases hb with rfl | rfl <;> omega
  have e3 : (x * 32768) % 18446744073709551616 = r * 32768 := by rcases hb with rfl | rfl <;> omega
  have e4 : x / 562949953421312 = 2 * q + b := by rcases hb with rfl | rfl <;> omega
  rw [IntKind.wrap_u64, show rot 14 x = (x * 16384) % 18446744073709551616 + x / 1125899906842624 from rfl, show rot 15 x = (x * 32768) % 18446744073709551616 + x / 562949953421312 from rfl, e1, e2, e3, e4]
  have e5 : (b * 9223372036854775808 + r * 16384 + q) / 9223372036854775808 = b := by rcases hb with rfl | rfl <;> omega
  rw [e5]
  rcases hb with rfl | rfl <;> omega
theorem rot_s15 {x : Int} (h : W x) : lft (rot 15 x) = rot 16 x := by
  unfold W at h
  unfold lft
  obtain ⟨q, b, r, hx, hb, hq0, hq1, hr0, hr1⟩ : ∃ q b r : Int, x = q * 562949953421312 + b * 281474976710656 + r ∧ (b = 0 ∨ b = 1) ∧ 0 ≤ q ∧ q < 32768 ∧ 0 ≤ r ∧ r < 281474976710656 := ⟨x / 562949953421312, x / 281474976710656 - 2 * (x / 562949953421312), x % 281474976710656, by omega, by omega, by omega, by omega, by omega, by omega⟩
  have e1 : (x * 32768) % 18446744073709551616 = b * 9223372036854775808 + r * 32768 := by rcases hb with rfl | rfl <;> omega
  have e2 : x / 562949953421312 = q := by rcases hb with rfl | rfl <;> omega
  have e3 : (x * 65536) % 18446744073709551616 = r * 65536 := by rcases hb with rfl | rfl <;> omega
  have e4 : x / 281474976710656 = 2 * q + b := by rcases hb with rfl | rfl <;> omega
  rw [IntKind.wrap_u64, show rot 15 x = (x * 32768) % 18446744073709551616 + x / 562949953421312 from rfl, show rot 16 x = (x * 65536) % 18446744073709551616 + x / 281474976710656 from rfl, e1, e2, e3, e4]
  have e5 : (b * 9223372036854775808 + r * 32768 + q) / 9223372036854775808 = b := by rcases hb with rfl | rfl <;> omega
  rw [e5]
  rcases hb with rfl | rfl <;> omega
theorem rot_s16 {x : Int} (h : W x) : lft (rot 16 x) = rot 17 x := by
  unfold W at h
  unfold lft
  obtain ⟨q, b, r, hx, hb, hq0, hq1, hr0, hr1⟩ : ∃ q b r : Int, x = q * 281474976710656 + b * 140737488355328 + r ∧ (b = 0 ∨ b = 1) ∧ 0 ≤ q ∧ q < 65536 ∧ 0 ≤ r ∧ r < 140737488355328 := ⟨x / 281474976710656, x / 140737488355328 - 2 * (x / 281474976710656), x % 140737488355328, by omega, by omega, by omega, by omega, by omega, by omega⟩
  have e1 : (x * 65536) % 18446744073709551616 = b * 9223372036854775808 + r * 65536 := by rcases hb with rfl | rfl <;> omega
  have e2 : x / 281474976710656 = q := by rcases hb with rfl | rfl <;> omega
  have e3 : (x * 131072) % 18446744073709551616 = r * 131072 := by rcases hb with rfl | rfl <;> omega
  have e4 : x / 140737488355328 = 2 * q + b := by rcases hb with rfl | rfl <;> omega
  rw [IntKind.wrap_u64, show rot 16 x = (x * 65536) % 18446744073709551616 + x / 281474976710656 from rfl, show rot 17 x = (x * 131072) % 18446744073709551616 + x / 140737488355328 from rfl, e1, e2, e3, e4]
  have e5 : (b * 9223372036854775808 + r * 65536 + q) / 9223372036854775808 = b := by rcases hb with rfl | rfl <;> omega
  rw [e5]
  rcases hb with rfl | rfl <;> omega
theorem rot_s17 {x : Int} (h : W x) : lft (rot 17 x) = rot 18 x := by
  unfold W at h
  unfold lft
  obtain ⟨q, b, r, hx, hb, hq0, hq1, hr0, hr1⟩ : ∃ q b r : Int, x = q * 140737488355328 + b * 70368744177664 + r ∧ (b = 0 ∨ b = 1) ∧ 0 ≤ q ∧ q < 131072 ∧ 0 ≤ r ∧ r < 70368744177664 := ⟨x / 140737488355328, x / 70368744177664 - 2 * (x / 140737488355328), x % 70368744177664, by omega, by omega, by omega, by omega, by omega, by omega⟩
  have e1 : (x * 131072) % 18446744073709551616 = b * 9223372036854775808 + r * 131072 := by rcases hb with rfl | rfl <;> omega
  have e2 : x / 140737488355328 = q := by rcases hb with rfl | rfl <;> omega
  have e3 : (x * 262144) % 18446744073709551616 = r * 262144 := by rcases hb with rfl | rfl <;> omega
  have e4 : x / 70368744177664 = 2 * q + b := by rcases hb with rfl | rfl <;> omega
  rw [IntKind.wrap_u64, show rot 17 x = (x * 131072) % 18446744073709551616 + x / 140737488355328 from rfl, show rot 18 x = (x * 262144) % 18446744073709551616 + x / 70368744177664 from rfl, e1, e2, e3, e4]
  have e5 : (b * 9223372036854775808 + r * 131072 + q) / 9223372036854775808 = b := by rcases hb with rfl | rfl <;> omega
  rw [e5]
  rcases hb with rfl | rfl <;> omega
theorem rot_s18 {x : Int} (h : W x) : lft (rot 18 x) = rot 19 x := by
  unfold W at h
  unfold lft
  obtain ⟨q, b, r, hx, hb, hq0, hq1, hr0, hr1⟩ : ∃ q b r : Int, x = q * 70368744177664 + b * 35184372088832 + r ∧ (b = 0 ∨ b = 1) ∧ 0 ≤ q ∧ q < 262144 ∧ 0 ≤ r ∧ r < 35184372088832 := ⟨x / 70368744177664, x / 35184372088832 - 2 * (x / 70368744177664), x % 35184372088832, by omega, by omega, by omega, by omega, by omega, by omega⟩
  have e1 : (x * 262144) % 18446744073709551616 = b * 9223372036854775808 + r * 262144 := by rcases hb with rfl | rfl <;> omega
  have e2 : x / 70368744177664 = q := by rcases hb with rfl | rfl <;> omega
  have e3 : (x * 524288) % 18446744073709551616 = r * 524288 := by rcases hb with rfl | rfl <;> omega
  have e4 : x / 35184372088832 = 2 * q + b := by rcases hb with rfl | rfl <;> omega
  rw [IntKind.wrap_u64, show rot 18 x = (x * 262144) % 18446744073709551616 + x / 70368744177664 from rfl, show rot 19 x = (x * 524288) % 18446744073709551616 + x / 35184372088832 from rfl, e1, e2, e3, e4]
  have e5 : (b * 9223372036854775808 + r * 262144 + q) / 9223372036854775808 = b := by rcases hb with rfl | rfl <;> omega
  rw [e5]
  rcases hb with rfl | rfl <;> omega
theorem rot_s19 {x : Int} (h : W x) : lft (rot 19 x) = rot 20 x := by
  unfold W at h
  unfold lft
  obtain ⟨q, b, r, hx, hb, hq0, hq1, hr0, hr1⟩ : ∃ q b r : Int, x = q * 35184372088832 + b * 17592186044416 + r ∧ (b = 0 ∨ b = 1) ∧ 0 ≤ q ∧ q < 524288 ∧ 0 ≤ r ∧ r < 17592186044416 := ⟨x / 35184372088832, x / 17592186044416 - 2 * (x / 35184372088832), x % 17592186044416, by omega, by omega, by omega, by omega, by omega, by omega⟩
  have e1 : (x * 524288) % 18446744073709551616 = b * 9223372036854775808 + r * 524288 := by rcases hb with rfl | rfl <;> omega
  have e2 : x / 35184372088832 = q := by rcases hb with rfl | rfl <;> omega
  have e3 : (x * 1048576) % 18446744073709551616 = r * 1048576 := by rcases hb with rfl | rfl <;> omega
  have e4 : x / 17592186044416 = 2 * q + b := by rcases hb with rfl | rfl <;> omega
  rw [IntKind.wrap_u64, show rot 19 x = (x * 524288) % 18446744073709551616 + x / 35184372088832 from rfl, show rot 20 x = (x * 1048576) % 18446744073709551616 + x / 17592186044416 from rfl, e1, e2, e3, e4]
  have e5 : (b * 9223372036854775808 + r * 524288 + q) / 9223372036854775808 = b := by rcases hb with rfl | rfl <;> omega
  rw [e5]
  rcases hb with rfl | rfl <;> omega
theorem rot_s20 {x : Int} (h : W x) : lft (rot 20 x) = rot 21 x := by
  unfold W at h
  unfold lft
  obtain ⟨q, b, r, hx, hb, hq0, hq1, hr0, hr1⟩ : ∃ q b r : Int, x = q * 17592186044416 + b * 8796093022208 + r ∧ (b = 0 ∨ b = 1) ∧ 0 ≤ q ∧ q < 1048576 ∧ 0 ≤ r ∧ r < 8796093022208 := ⟨x / 17592186044416, x / 8796093022208 - 2 * (x / 17592186044416), x % 8796093022208, by omega, by omega, by omega, by omega, by omega, by omega⟩
  have e1 : (x * 1048576) % 18446744073709551616 = b * 9223372036854775808 + r * 1048576 := by rcases hb with rfl | rfl <;> omega
  have e2 : x / 17592186044416 = q := by rcases hb with rfl | rfl <;> omega
  have e3 : (x * 2097152) % 18446744073709551616 = r * 2097152 := by rcases hb with rfl | rfl <;> omega
  have e4 : x / 8796093022208 = 2 * q + b := by rcases hb with rfl | rfl <;> omega
  rw [IntKind.wrap_u64, show rot 20 x = (x * 1048576) % 18446744073709551616 + x / 17592186044416 from rfl, show rot 21 x = (x * 2097152) % 18446744073709551616 + x / 8796093022208 from rfl, e1, e2, e3, e4]
  have e5 : (b * 9223372036854775808 + r * 1048576 + q) / 9223372036854775808 = b := by rcases hb with rfl | rfl <;> omega
  rw [e5]
  rcases hb with rfl | rfl <;> omega
theorem rot_s21 {x : Int} (h : W x) : lft (rot 21 x) = rot 22 x := by
  unfold W at h
  unfold lft
  obtain ⟨q, b, r, hx, hb, hq0, hq1, hr0, hr1⟩ : ∃ q b r : Int, x = q * 8796093022208 + b * 4398046511104 + r ∧ (b = 0 ∨ b = 1) ∧ 0 ≤ q ∧ q < 2097152 ∧ 0 ≤ r ∧ r < 4398046511104 := ⟨x / 8796093022208, x / 4398046511104 - 2 * (x / 8796093022208), x % 4398046511104, by omega, by omega, by omega, by omega, by omega, by omega⟩
  have e1 : (x * 2097152) % 18446744073709551616 = b * 9223372036854775808 + r * 2097152 := by rcases hb with rfl | rfl <;> omega
  have e2 : x / 8796093022208 = q := by rcases hb with rfl | rfl <;> omega
  have e3 : (x * 4194304) % 18446744073709551616 = r * 4194304 := by rcases hb with rfl | rfl <;> omega
  have e4 : x / 4398046511104 = 2 * q + b := by rcases hb with rfl | rfl <;> omega
  rw [IntKind.wrap_u64, show rot 21 x = (x * 2097152) % 18446744073709551616 + x / 8796093022208 from rfl, show rot 22 x = (x * 4194304) % 18446744073709551616 + x / 4398046511104 from rfl, e1, e2, e3, e4]
  have e5 : (b * 9223372036854775808 + r * 2097152 + q) / 9223372036854775808 = b := by rcases hb with rfl | rfl <;> omega
  rw [e5]
  rcases hb with rfl | rfl <;> omega
theorem rot_s22 {x : Int} (h : W x) : lft (rot 22 x) = rot 23 x := by
  unfold W at h
  unfold lft
  obtain ⟨q, b, r, hx, hb, hq0, hq1, hr0, hr1⟩ : ∃ q b r : Int, x = q * 4398046511104 + b * 2199023255552 + r ∧ (b = 0 ∨ b = 1) ∧ 0 ≤ q ∧ q < 4194304 ∧ 0 ≤ r ∧ r < 2199023255552 := ⟨x / 4398046511104, x / 2199023255552 - 2 * (x / 4398046511104), x % 2199023255552, by omega, by omega, by omega, by omega, by omega, by omega⟩
  have e1 : (x * 4194304) % 18446744073709551616 = b * 9223372036854775808 + r * 4194304 := by rcases hb with rfl | rfl <;> omega
  have e2 : x / 4398046511104 = q := by rcases hb with rfl | rfl <;> omega
  have e3 : (x * 8388608) % 18446744073709551616 = r * 8388608 := by rcases hb with rfl | rfl <;> omega
  have e4 : x / 2199023255552 = 2 * q + b := by rcases hb with rfl | rfl <;> omega
  rw [IntKind.wrap_u64, show rot 22 x = (x * 4194304) % 18446744073709551616 + x / 4398046511104 from rfl, show rot 23 x = (x * 8388608) % 18446744073709551616 + x / 2199023255552 from rfl, e1, e2, e3, e4]
  have e5 : (b * 9223372036854775808 + r * 4194304 + q) / 9223372036854775808 = b := by rcases hb with rfl | rfl <;> omega
  rw [e5]
  rcases hb with rfl | rfl <;> omega
theorem rot_s23 {x : Int} (h : W x) : lft (rot 23 x) = rot 24 x := by
  unfold W at h
  unfold lft
  obtain ⟨q, b, r, hx, hb, hq0, hq1, hr0, hr1⟩ : ∃ q b r : Int, x = q * 2199023255552 + b * 1099511627776 + r ∧ (b = 0 ∨ b = 1) ∧ 0 ≤ q ∧ q < 8388608 ∧ 0 ≤ r ∧ r < 1099511627776 := ⟨x / 2199023255552, x / 1099511627776 - 2 * (x / 2199023255552), x % 1099511627776, by omega, by omega, by omega, by omega, by omega, by omega⟩
  have e1 : (x * 8388608) % 18446744073709551616 = b * 9223372036854775808 + r * 8388608 := by rcases hb with rfl | rfl <;> omega
  have e2 : x / 2199023255552 = q := by rcases hb with rfl | rfl <;> omega
  have e3 : (x * 16777216) % 18446744073709551616 = r * 16777216 := by rcases hb with rfl | rfl <;> omega
  have e4 : x / 1099511627776 = 2 * q + b := by rcases hb with rfl | rfl <;> omega
  rw [IntKind.wrap_u64, show rot 23 x = (x * 8388608) % 18446744073709551616 + x / 2199023255552 from rfl, show rot 24 x = (x * 16777216) % 18446744073709551616 + x / 1099511627776 from rfl, e1, e2, e3, e4]
  have e5 : (b * 9223372036854775808 + r * 8388608 + q) / 9223372036854775808 = b := by rcases hb with rfl | rfl <;> omega
  rw [e5]
  rcases hb with rfl | rfl <;> omega
theorem rot_s24 {x : Int} (h : W x) : lft (rot 24 x) = rot 25 x := by
  unfold W at h
  unfold lft
  obtain ⟨q, b, r, hx, hb, hq0, hq1, hr0, hr1⟩ : ∃ q b r : Int, x = q * 1099511627776 + b * 549755813888 + r ∧ (b = 0 ∨ b = 1) ∧ 0 ≤ q ∧ q < 16777216 ∧ 0 ≤ r ∧ r < 549755813888 := ⟨x / 1099511627776, x / 549755813888 - 2 * (x / 1099511627776), x % 549755813888, by omega, by omega, by omega, by omega, by omega, by omega⟩
  have e1 : (x * 16777216) % 18446744073709551616 = b * 9223372036854775808 + r * 16777216 := by rcases hb with rfl | rfl <;> omega
  have e2 : x / 1099511627776 = q := by rcases hb with rfl | rfl <;> omega
  have e3 : (x * 33554432) % 18446744073709551616 = r * 33554432 := by rcases hb with rfl | rfl <;> omega
  have e4 : x / 549755813888 = 2 * q + b := by rcases hb with rfl | rfl <;> omega
  rw [IntKind.wrap_u64, show rot 24 x = (x * 16777216) % 18446744073709551616 + x / 1099511627776 from rfl, show rot 25 x = (x * 33554432) % 18446744073709551616 + x / 549755813888 from rfl, e1, e2, e3, e4]
  have e5 : (b * 9223372036854775808 + r * 16777216 + q) / 9223372036854775808 = b := by rcases hb with rfl | rfl <;> omega
  rw [e5]
  rcases hb with rfl | rfl <;> omega
theorem rot_s25 {x : Int} (h : W x) : lft (rot 25 x) = rot 26 x := by
  unfold W at h
  unfold lft
  obtain ⟨q, b, r, hx, hb, hq0, hq1, hr0, hr1⟩ : ∃ q b r : Int, x = q * 549755813888 + b * 274877906944 + r ∧ (b = 0 ∨ b = 1) ∧ 0 ≤ q ∧ q < 33554432 ∧ 0 ≤ r ∧ r < 274877906944 := ⟨x / 549755813888, x / 274877906944 - 2 * (x / 549755813888), x % 274877906944, by omega, by omega, by omega, by omega, by omega, by omega⟩
  have e1 : (x * 33554432) % 18446744073709551616 = b * 9223372036854775808 + r * 33554432 := by rcases hb with rfl | rfl <;> omega
  have e2 : x / 549755813888 = q := by rcases hb with rfl | rfl <;> omega
  have e3 : (x * 67108864) % 18446744073709551616 = r * 67108864 := by rcases hb with rfl | rfl <;> omega
  have e4 : x / 274877906944 = 2 * q + b := by rcases hb with rfl | rfl <;> omega
  rw [IntKind.wrap_u64, show rot 25 x = (x * 33554432) % 18446744073709551616 + x / 549755813888 from rfl, show rot 26 x = (x * 67108864) % 18446744073709551616 + x / 274877906944 from rfl, e1, e2, e3, e4]
  have e5 : (b * 9223372036854775808 + r * 33554432 + q) / 9223372036854775808 = b := by rcases hb with rfl | rfl <;> omega
  rw [e5]
  rcases hb with rfl | rfl <;> omega
theorem rot_s26 {x : Int} (h : W x) : lft (rot 26 x) = rot 27 x := by
  unfold W at h
  unfold lft
  obtain ⟨q, b, r, hx, hb, hq0, hq1, hr0, hr1⟩ : ∃ q b r : Int, x = q * 274877906944 + b * 137438953472 + r ∧ (b = 0 ∨ b = 1) ∧ 0 ≤ q ∧ q < 67108864 ∧ 0 ≤ r ∧ r < 137438953472 := ⟨x / 274877906944, x / 137438953472 - 2 * (x / 274877906944), x % 137438953472, by omega, by omega, by omega, by omega, by omega, by omega⟩
  have e1 : (x * 67108864) % 18446744073709551616 = b * 9223372036854775808 + r * 67108864 := by rcases hb with rfl | rfl <;> omega
  have e2 : x / 274877906944 = q := by rcases hb with rfl | rfl <;> omega
  have e3 : (x * 134217728) % 18446744073709551616 = r * 134217728 := by rcases hb with rfl | rfl <;> omega
  have e4 : x / 137438953472 = 2 * q + b := by rcases hb with rfl | rfl <;> omega
  rw [IntKind.wrap_u64, show rot 26 x = (x * 67108864) % 18446744073709551616 + x / 274877906944 from rfl, show rot 27 x = (x * 134217728) % 18446744073709551616 + x / 137438953472 from rfl, e1, e2, e3, e4]
  have e5 : (b * 9223372036854775808 + r * 67108864 + q) / 9223372036854775808 = b := by rcases hb with rfl | rfl <;> omega
  rw [e5]
  rcases hb with rfl | rfl <;> omega
theorem rot_s27 {x : Int} (h : W x) : lft (rot 27 x) = rot 28 x := by
  unfold W at h
  unfold lft
  obtain ⟨q, b, r, hx, hb, hq0, hq1, hr0, hr1⟩ : ∃ q b r : Int, x = q * 137438953472 + b * 68719476736 + r ∧ (b = 0 ∨ b = 1) ∧ 0 ≤ q ∧ q < 134217728 ∧ 0 ≤ r ∧ r < 68719476736 := ⟨x / 137438953472, x / 68719476736 - 2 * (x / 137438953472), x % 68719476736, by omega, by omega, by omega, by omega, by omega, by omega⟩
  have e1 : (x * 134217728) % 18446744073709551616 = b * 9223372036854775808 + r * 134217728 := by rcases hb with rfl | rfl <;> omega
  have e2 : x / 137438953472 = q := by rcases hb with rfl | rfl <;> omega
  have e3 : (x * 268435456) % 18446744073709551616 = r * 268435456 := by rcases hb with rfl | rfl <;> omega
  have e4 : x / 68719476736 = 2 * q + b := by rcases hb with rfl | rfl <;> omega
  rw [IntKind.wrap_u64, show rot 27 x = (x * 134217728) % 18446744073709551616 + x / 137438953472 from rfl, show rot 28 x = (x * 268435456) % 18446744073709551616 + x / 68719476736 from rfl, e1, e2, e3, e4]
  have e5 : (b * 9223372036854775808 + r * 134217728 + q) / 9223372036854775808 = b := by rcases hb with rfl | rfl <;> omega
  rw [e5]
  rcases hb with rfl | rfl <;> omega
theorem rot_s28 {x : Int} (h : W x) : lft (rot 28 x) = rot 29 x := by
  unfold W at h
  unfold lft
  obtain ⟨q, b, r, hx, hb, hq0, hq1, hr0, hr1⟩ : ∃ q b r : Int, x = q * 68719476736 + b * 34359738368 + r ∧ (b = 0 ∨ b = 1) ∧ 0 ≤ q ∧ q < 268435456 ∧ 0 ≤ r ∧ r < 34359738368 := ⟨x / 68719476736, x / 34359738368 - 2 * (x / 68719476736), x % 34359738368, by omega, by omega, by omega, by omega, by omega, by omega⟩
  have e1 : (x * 268435456) % 18446744073709551616 = b * 9223372036854775808 + r * 268435456 := by rcases hb with rfl | rfl <;> omega
  have e2 : x / 68719476736 = q := by rcases hb with rfl | rfl <;> omega
  have e3 : (x * 536870912) % 18446744073709551616 = r * 536870912 := by rcases hb with rfl | rfl <;> omega
  have e4 : x / 34359738368 = 2 * q + b := by rcases hb with rfl | rfl <;> omega
  rw [IntKind.wrap_u64, show rot 28 x = (x * 268435456) % 18446744073709551616 + x / 68719476736 from rfl, show rot 29 x = (x * 536870912) % 18446744073709551616 + x / 34359738368 from rfl, e1, e2, e3, e4]
  have e5 : (b * 9223372036854775808 + r * 268435456 + q) / 9223372036854775808 = b := by rcases hb with rfl | rfl <;> omega
  rw [e5]
  rcases hb with rfl | rfl <;> omega
theorem rot_s29 {x : Int} (h : W x) : lft (rot 29 x) = rot 30 x := by
  unfold W at h
  unfold lft
  obtain ⟨q, b, r, hx, hb, hq0, hq1, hr0, hr1⟩ : ∃ q b r : Int, x = q * 34359738368 + b * 17179869184 + r ∧ (b = 0 ∨ b = 1) ∧ 0 ≤ q ∧ q < 536870912 ∧ 0 ≤ r ∧ r < 17179869184 := ⟨x / 34359738368, x / 17179869184 - 2 * (x / 34359738368), x % 17179869184, by omega, by omega, by omega, by omega, by omega, by omega⟩
  have e1 : (x * 536870912) % 18446744073709551616 = b * 9223372036854775808 + r * 536870912 := by rcases hb with rfl | rfl <;> omega
  have e2 : x / 34359738368 = q := by rcases hb with rfl | rfl <;> omega
  have e3 : (x * 1073741824) % 18446744073709551616 = r * 1073741824 := by rcases hb with rfl | rfl <;> omega
  have e4 : x / 17179869184 = 2 * q + b := by rcases hb with rfl | rfl <;> omega
  rw [IntKind.wrap_u64, show rot 29 x = (x * 536870912) % 18446744073709551616 + x / 34359738368 from rfl, show rot 30 x = (x * 1073741824) % 18446744073709551616 + x / 17179869184 from rfl, e1, e2, e3, e4]
  have e5 : (b * 9223372036854775808 + r * 536870912 + q) / 9223372036854775808 = b := by rcases hb with rfl | rfl <;> omega
  rw [e5]
  rcases hb with rfl | rfl <;> omega
theorem rot_s30 {x : Int} (h : W x) : lft (rot 30 x) = rot 31 x := by
  unfold W at h
  unfold lft
  obtain ⟨q, b, r, hx, hb, hq0, hq1, hr0, hr1⟩ : ∃ q b r : Int, x = q * 17179869184 + b * 8589934592 + r ∧ (b = 0 ∨ b = 1) ∧ 0 ≤ q ∧ q < 1073741824 ∧ 0 ≤ r ∧ r < 8589934592 := ⟨x / 17179869184, x / 8589934592 - 2 * (x / 17179869184), x % 8589934592, by omega, by omega, by omega, by omega, by omega, by omega⟩
  have e1 : (x * 1073741824) % 18446744073709551616 = b * 9223372036854775808 + r * 1073741824 := by rcases hb with rfl | rfl <;> omega
  have e2 : x / 17179869184 = q := by rcases hb with rfl | rfl <;> omega
  have e3 : (x * 2147483648) % 18446744073709551616 = r * 2147483648 := by rcases hb with rfl | rfl <;> omega
  have e4 : x / 8589934592 = 2 * q + b := by rcases hb with rfl | rfl <;> omega
  rw [IntKind.wrap_u64, show rot 30 x = (x * 1073741824) % 18446744073709551616 + x / 17179869184 from rfl, show rot 31 x = (x * 2147483648) % 18446744073709551616 + x / 8589934592 from rfl, e1, e2, e3, e4]
  have e5 : (b * 9223372036854775808 + r * 1073741824 + q) / 9223372036854775808 = b := by rcases hb with rfl | rfl <;> omega
  rw [e5]
  rcases hb with rfl | rfl <;> omega
theorem rot_s31 {x : Int} (h : W x) : lft (rot 31 x) = rot 32 x := by
  unfold W at h
  unfold lft
  obtain ⟨q, b, r, hx, hb, hq0, hq1, hr0, hr1⟩ : ∃ q b r : Int, x = q * 8589934592 + b * 4294967296 + r ∧ (b = 0 ∨ b = 1) ∧ 0 ≤ q ∧ q < 2147483648 ∧ 0 ≤ r ∧ r < 4294967296 := ⟨x / 8589934592, x / 4294967296 - 2 * (x / 8589934592), x % 4294967296, by omega, by omega, by omega, by omega, by omega, by omega⟩
  have e1 : (x * 2147483648) % 18446744073709551616 = b * 9223372036854775808 + r * 2147483648 := by rcases hb with rfl | rfl <;> omega
  have e2 : x / 8589934592 = q := by rcases hb with rfl | rfl <;> omega
  have e3 : (x * 4294967296) % 18446744073709551616 = r * 4294967296 := by rcases hb with rfl | rfl <;> omega
  have e4 : x / 4294967296 = 2 * q + b := by rcases hb with rfl | rfl <;> omega
  rw [IntKind.wrap_u64, show rot 31 x = (x * 2147483648) % 18446744073709551616 + x / 8589934592 from rfl, show rot 32 x = (x * 4294967296) % 18446744073709551616 + x / 4294967296 from rfl, e1, e2, e3, e4]
  have e5 : (b * 9223372036854775808 + r * 2147483648 + q) / 9223372036854775808 = b := by rcases hb with rfl | rfl <;> omega
  rw [e5]
  rcases hb with rfl | rfl <;> omega
theorem lfts_0 {x : Int} (h : W x) : lfts x 0 = rot 0 x := (rot_zero h).symm
theorem lfts_1 {x : Int} (h : W x) : lfts x 1 = rot 1 x := by
  rw [show lfts x 1 = lft (lfts x 0) from rfl, lfts_0 h, rot_s0 h]
theorem lfts_2 {x : Int} (h : W x) : lfts x 2 = rot 2 x := by
  rw [show lfts x 2 = lft (lfts x 1) from rfl, lfts_1 h, rot_s1 h]
theorem lfts_3 {x : Int} (h : W x) : lfts x 3 = rot 3 x := by
  rw [show lfts x 3 = lft (lfts x 2) from rfl, lfts_2 h, rot_s2 h]
theorem lfts_4 {x : Int} (h : W x) : lfts x 4 = rot 4 x := by
  rw [show lfts x 4 = lft (lfts x 3) from rfl, lfts_3 h, rot_s3 h]
theorem lfts_5 {x : Int} (h : W x) : lfts x 5 = rot 5 x := by
  rw [show lfts x 5 = lft (lfts x 4) from rfl, lfts_4 h, rot_s4 h]
theorem lfts_6 {x : Int} (h : W x) : lfts x 6 = rot 6 x := by
  rw [show lfts x 6 = lft (lfts x 5) from rfl, lfts_5 h, rot_s5 h]
theorem lfts_7 {x : Int} (h : W x) : lfts x 7 = rot 7 x := by
  rw [show lfts x 7 = lft (lfts x 6) from rfl, lfts_6 h, rot_s6 h]
theorem lfts_8 {x : Int} (h : W x) : lfts x 8 = rot 8 x := by
  rw [show lfts x 8 = lft (lfts x 7) from rfl, lfts_7 h, rot_s7 h]
theorem lfts_9 {x : Int} (h : W x) : lfts x 9 = rot 9 x := by
  rw [show lfts x 9 = lft (lfts x 8) from rfl, lfts_8 h, rot_s8 h]
theorem lfts_10 {x : Int} (h : W x) : lfts x 10 = rot 10 x := by
  rw [show lfts x 10 = lft (lfts x 9) from rfl, lfts_9 h, rot_s9 h]
theorem lfts_11 {x : Int} (h : W x) : lfts x 11 = rot 11 x := by
  rw [show lfts x 11 = lft (lfts x 10) from rfl, lfts_10 h, rot_s10 h]
theorem lfts_12 {x : Int} (h : W x) : lfts x 12 = rot 12 x := by
  rw [show lfts x 12 = lft (lfts x 11) from rfl, lfts_11 h, rot_s11 h]
theorem lfts_13 {x : Int} (h : W x) : lfts x 13 = rot 13 x := by
  rw [show lfts x 13 = lft (lfts x 12) from rfl, lfts_12 h, rot_s12 h]
theorem lfts_14 {x : Int} (h : W x) : lfts x 14 = rot 14 x := by
  rw [show lfts x 14 = lft (lfts x 13) from rfl, lfts_13 h, rot_s13 h]
theorem lfts_15 {x : Int} (h : W x) : lfts x 15 = rot 15 x := by
  rw [show lfts x 15 = lft (lfts x 14) from rfl, lfts_14 h, rot_s14 h]
theorem lfts_16 {x : Int} (h : W x) : lfts x 16 = rot 16 x := by
  rw [show lfts x 16 = lft (lfts x 15) from rfl, lfts_15 h, rot_s15 h]
theorem lfts_17 {x : Int} (h : W x) : lfts x 17 = rot 17 x := by
  rw [show lfts x 17 = lft (lfts x 16) from rfl, lfts_16 h, rot_s16 h]
theorem lfts_18 {x : Int} (h : W x) : lfts x 18 = rot 18 x := by
  rw [show lfts x 18 = lft (lfts x 17) from rfl, lfts_17 h, rot_s17 h]
theorem lfts_19 {x : Int} (h : W x) : lfts x 19 = rot 19 x := by
  rw [show lfts x 19 = lft (lfts x 18) from rfl, lfts_18 h, rot_s18 h]
theorem lfts_20 {x : Int} (h : W x) : lfts x 20 = rot 20 x := by
  rw [show lfts x 20 = lft (lfts x 19) from rfl, lfts_19 h, rot_s19 h]
theorem lfts_21 {x : Int} (h : W x) : lfts x 21 = rot 21 x := by
  rw [show lfts x 21 = lft (lfts x 20) from rfl, lfts_20 h, rot_s20 h]
theorem lfts_22 {x : Int} (h : W x) : lfts x 22 = rot 22 x := by
  rw [show lfts x 22 = lft (lfts x 21) from rfl, lfts_21 h, rot_s21 h]
theorem lfts_23 {x : Int} (h : W x) : lfts x 23 = rot 23 x := by
  rw [show lfts x 23 = lft (lfts x 22) from rfl, lfts_22 h, rot_s22 h]
theorem lfts_24 {x : Int} (h : W x) : lfts x 24 = rot 24 x := by
  rw [show lfts x 24 = lft (lfts x 23) from rfl, lfts_23 h, rot_s23 h]
theorem lfts_25 {x : Int} (h : W x) : lfts x 25 = rot 25 x := by
  rw [show lfts x 25 = lft (lfts x 24) from rfl, lfts_24 h, rot_s24 h]
theorem lfts_26 {x : Int} (h : W x) : lfts x 26 = rot 26 x := by
  rw [show lfts x 26 = lft (lfts x 25) from rfl, lfts_25 h, rot_s25 h]
theorem lfts_27 {x : Int} (h : W x) : lfts x 27 = rot 27 x := by
  rw [show lfts x 27 = lft (lfts x 26) from rfl, lfts_26 h, rot_s26 h]
theorem lfts_28 {x : Int} (h : W x) : lfts x 28 = rot 28 x := by
  rw [show lfts x 28 = lft (lfts x 27) from rfl, lfts_27 h, rot_s27 h]
theorem lfts_29 {x : Int} (h : W x) : lfts x 29 = rot 29 x := by
  rw [show lfts x 29 = lft (lfts x 28) from rfl, lfts_28 h, rot_s28 h]
theorem lfts_30 {x : Int} (h : W x) : lfts x 30 = rot 30 x := by
  rw [show lfts x 30 = lft (lfts x 29) from rfl, lfts_29 h, rot_s29 h]
theorem lfts_31 {x : Int} (h : W x) : lfts x 31 = rot 31 x := by
  rw [show lfts x 31 = lft (lfts x 30) from rfl, lfts_30 h, rot_s30 h]
theorem lfts_32 {x : Int} (h : W x) : lfts x 32 = rot 32 x := by
  rw [show lfts x 32 = lft (lfts x 31) from rfl, lfts_31 h, rot_s31 h]

end Go.Proofs.Ytkioniffgmalgaa.Sp
