/-
  rank's halves, Chance, score and Score by their contracts.
-/
import Derived.Test.YtkioniffgmalgaaRank1
namespace Go.Proofs.Ytkioniffgmalgaa
open Go.RowKit Sp
set_option linter.unusedVariables false

theorem sumS_W {k0 k1 : Int} {bs : List Int} (h0 : W k0) (h1 : W k1) (hb : Byts bs) : W (sumS k0 k1 bs) := by
  rw [← foldW_end]
  exact endS_W (foldW_W h0 h1 hb _)

def kA (key : List Int) : Int := sumS 0 0 key
def kB (key : List Int) : Int := sumS 1 0 key
theorem w0 : W 0 := by unfold W; omega
theorem w1 : W 1 := by unfold W; omega
theorem kA_W {key : List Int} (h : Byts key) : W (kA key) := sumS_W w0 w0 h
theorem kB_W {key : List Int} (h : Byts key) : W (kB key) := sumS_W w1 w0 h
/-- A name's chance. -/
def chS (key : List Int) (s : ByteArray) (x : Int) : Int := sumS (kA key) (kB key) (sb s ++ [x])
theorem chS_W {key : List Int} (h : Byts key) (s : ByteArray) {x : Int} (hx : 0 ≤ x ∧ x < 256) : W (chS key s x) := sumS_W (kA_W h) (kB_W h) (Byts.snoc (sb_byts s) hx)

theorem halves_calls (key : List Int) (A : Option Addr) (c : Nat) (w : World) (hX : BytesAt w A key (fun _ => True)) (hb : Byts key) (hl : key.length ≤ 1000) :
    Calls Try.prog 39 #[.slice A key.length c] w fun e w' => e = .returned (.agg #[.int .u64 (kA key), .int .u64 (kB key)]) ∧ Fr [] w w' := by
  have HX := Lib.hid hX
  have HB := Lib.hid hb
  clear hX hb
  obtain ⟨a, ha⟩ : ∃ a, kA key = a := ⟨_, rfl⟩
  obtain ⟨b, hbb⟩ : ∃ b, kB key = b := ⟨_, rfl⟩
  rw [ha, hbb]
  obtain ⟨h, hh⟩ : ∃ h, w.heap.size = h := ⟨_, rfl⟩
  have hA : Fr [] w (w.alloc (.cells #[.int .u64 0, .int .u64 0] 73)) := (Fr.refl [] w).alloc _
  have hk : Blk (w.alloc (.cells #[.int .u64 0, .int .u64 0] 73)) h 73 #[.int .u64 0, .int .u64 0] := by rw [← hh]; exact Blk.new w 73 _
  have hs1 := sum_calls 0 0 key A c _ (HX.out.fr hA (by simp)) HB.out w0 w0 (by omega)
  have hs2 := fun W h => sum_calls 1 0 key A c W h HB.out w1 w0 (by omega)
  change Calls _ _ _ _ (fun e w' => e = .returned (.int .u64 (kA key)) ∧ Fr [] _ w') at hs1
  rw [ha] at hs1
  have hs2' : ∀ W, BytesAt W A key (fun _ => True) → Calls Try.prog 16 #[.int .u64 1, .int .u64 0, .slice A key.length c] W fun e w' => e = .returned (.int .u64 b) ∧ Fr [] W w' := fun W h => hbb ▸ hs2 W h
  have HS1 := Lib.hid hs1
  have HS2 := Lib.hid hs2'
  have HK := Lib.hid hk
  have HH := Lib.hid hh
  have HA := Lib.hid hA
  clear hs1 hs2 hs2' hk ha hbb hh hA
  go_enter Try.func39, Try.ntmps39
  go_wp2_with fail
  rw [HH.out]
  refine HS1.out.mono ?_
  rintro e w2 ⟨rfl, hf2⟩
  have HF2 := Lib.hid hf2
  clear hf2
  go_wp2_with fail
  refine (HS2.out _ ((HX.out.fr HA.out (by simp)).fr HF2.out (by simp))).mono ?_
  rintro e w3 ⟨rfl, hf3⟩
  have hk3 := hf3.blk (HF2.out.blk HK.out (by simp)) (by simp)
  have hc0 : w3.cell? ⟨h, 0, none⟩ = some (.int .u64 0) := hk3.cell 0
  have hc1 : w3.cell? ⟨h, 1, none⟩ = some (.int .u64 0) := hk3.cell 1
  have hz0 := hk3.frozen 0
  have hz1 := hk3.frozen 1
  have hkk := (hk3.set_ 0 (.int .u64 a)).set_ 1 (.int .u64 b)
  have hd0 : (w3.setCell ⟨h, 0, none⟩ (.int .u64 a)).cell? ⟨h, 0, none⟩ = some (.int .u64 a) := World.cell?_setCell_same _ _ _ hc0
  have hd1 : ((w3.setCell ⟨h, 0, none⟩ (.int .u64 a)).setCell ⟨h, 1, none⟩ (.int .u64 b)).cell? ⟨h, 1, none⟩ = some (.int .u64 b) := hkk.cell 1
  clear hkk
  have HF3 := Lib.hid ((HA.out.trans HF2.out (by simp)).trans hf3 (by simp))
  clear hf3
  go_wp2_with fail
  refine bodyPost_ret (v := .agg #[.int .u64 a, .int .u64 b]) (by simp [results, Try.results39, go_sem, hd0, hd1]) rfl ⟨rfl, (HF3.out.setCell (.inr (by simp [HH.out])) _).setCell (.inr (by simp [HH.out])) _⟩

theorem Chance_calls (key : List Int) (A : Option Addr) (c : Nat) (s : ByteArray) (x : Int) (w : World) (hX : BytesAt w A key (fun _ => True)) (hb : Byts key) (hl : key.length ≤ 1000) (hx : 0 ≤ x ∧ x < 256) (hs : s.size ≤ 100) :
    Calls Try.prog 24 #[.slice A key.length c, .string s, .int .u8 x] w fun e w' => e = .returned (.int .u64 (chS key s x)) ∧ Fr [] w w' := by
  have HH := Lib.hid (halves_calls key A c w hX hb hl)
  have HC := Lib.hid (fun W => chance_calls (kA key) (kB key) x s W (kA_W hb) (kB_W hb) hx hs)
  obtain ⟨a, ha⟩ : ∃ a, kA key = a := ⟨_, rfl⟩
  obtain ⟨b, hbb⟩ : ∃ b, kB key = b := ⟨_, rfl⟩
  have hch : sumS a b (sb s ++ [x]) = chS key s x := by rw [← ha, ← hbb]; rfl
  rw [ha, hbb] at HH HC
  rw [hch] at HC
  clear hX hb ha hbb hch
  go_enter Try.func24, Try.ntmps24
  go_wp2_with fail
  refine HH.out.mono ?_
  rintro e w1 ⟨rfl, hf1⟩
  have HF1 := Lib.hid hf1
  clear hf1
  go_wp2_with fail
  refine (HC.out w1).mono ?_
  rintro e w2 ⟨rfl, hf2⟩
  have HF2 := Lib.hid (HF1.out.trans hf2 (by simp))
  clear hf2
  go_wp2_with fail
  go_ret
  exact ⟨rfl, HF2.out⟩

/-- The greatest of the first n chances. -/
def bestTo (key : List Int) (s : ByteArray) : Nat → Int
  | 0 => 0
  | n + 1 => max (bestTo key s n) (chS key s (n : Int))
theorem bestTo_W {key : List Int} (h : Byts key) (s : ByteArray) : ∀ n, n ≤ 100 → W (bestTo key s n)
  | 0, _ => w0
  | n + 1, hn => by
    have h1 := bestTo_W h s n (by omega)
    have h2 := chS_W h s (x := (n : Int)) ⟨by omega, by omega⟩
    unfold W at *
    simp only [bestTo]; omega
/-- How many chances a weight has. -/
def tries (weight : Int) : Nat := (min (max weight 0) 100).toNat
theorem tries_le (weight : Int) : tries weight ≤ 100 := by unfold tries; omega
/-- A name's score. -/
def scS (key : List Int) (s : ByteArray) (weight : Int) : Int := bestTo key s (tries weight)
theorem scS_W {key : List Int} (h : Byts key) (s : ByteArray) (weight : Int) : W (scS key s weight) := bestTo_W h s _ (tries_le _)

end Go.Proofs.Ytkioniffgmalgaa
