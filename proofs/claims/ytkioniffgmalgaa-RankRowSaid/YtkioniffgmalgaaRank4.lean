/-
  The reference's Chance and Score by their contracts.
-/
import Derived.Test.YtkioniffgmalgaaRank3
namespace Go.Proofs.Ytkioniffgmalgaa
open Go.RowKit Sp
set_option linter.unusedVariables false

theorem sb_get (s : ByteArray) (k : Nat) (h : k < s.size) : (sb s)[k]? = some (s[k].toNat : Int) := by
  simp only [sb, List.getElem?_map]
  have hk : k < s.data.toList.length := by simpa using h
  rw [List.getElem?_eq_getElem hk]
  rfl
theorem cell_one (w : World) (u : Value) (t : TypeId) : ∀ j v, [u][j]? = some v → (w.alloc (.cells #[u] t)).cell? ((⟨w.heap.size, 0, none⟩ : Addr).add j) = some v := by
  intro j v hv
  cases j with
  | zero => simp at hv; subst hv; exact (Blk.new w t #[u]).cell 0
  | succ j => simp at hv

set_option maxRecDepth 100000 in
set_option maxHeartbeats 1000000 in
theorem refChance_calls (key : List Int) (A : Option Addr) (c : Nat) (s : ByteArray) (x : Int) (w : World) (hX : BytesAt w A key (fun _ => True)) (hb : Byts key) (hl : key.length ≤ 1000) (hx : 0 ≤ x ∧ x < 256) (hs : s.size ≤ 100) :
    Calls Try.prog 25 #[.slice A key.length c, .string s, .int .u8 x] w fun e w' => e = .returned (.int .u64 (chS key s x)) ∧ Fr [] w w' := by
  obtain ⟨i0, hi, hz0, hz1, hz2⟩ := info_parts info5
  have HX := Lib.hid hX
  have HR1 := Lib.hid (fun W h => refSum_calls 0 0 key A c W h hb w0 w0 (by omega))
  have HR2 := Lib.hid (fun W h => refSum_calls 1 0 key A c W h hb w1 w0 (by omega))
  have HR3 := Lib.hid (fun (ys : List Int) (hy : Byts ys) (hyl : ys.length ≤ 1000) A' c' W h => refSum_calls (kA key) (kB key) ys A' c' W h hy (kA_W hb) (kB_W hb) (by omega))
  have HKA : Hid (sumS 0 0 key = kA key ∧ sumS 1 0 key = kB key) := Lib.hid ⟨rfl, rfl⟩
  have HCH : Hid (sumS (kA key) (kB key) (sb s ++ [x]) = chS key s x) := Lib.hid rfl
  rw [HKA.out.1] at HR1
  rw [HKA.out.2] at HR2
  have HSB := Lib.hid (Byts.snoc (sb_byts s) hx)
  have HSG := Lib.hid (fun k h => sb_get s k h)
  have HSL := Lib.hid (sb_len s)
  clear hX hb
  go_enter Try.func25, Try.ntmps25
  go_wp2_with fail
  go_loopw [7, 8] (fun v i wr => ∃ k : Nat, k ≤ s.size ∧ i = .int .i64 k ∧ wr.ownsRow w.heap.size 5 1 v k (bcells ((sb s).take k)) ∧ Fr [] w wr) (fun _ i _ => s.size - (intOf i).toNat)
  case atStart => exact ⟨0, by omega, rfl, World.ownsRow_nil _ _ _ _, Fr.refl _ _⟩
  case round =>
    obtain ⟨k, hk, rfl, hown, hfr⟩ := hrel
    by_cases hlt : k < s.size
    · have hsuc : (sb s).take (k + 1) = (sb s).take k ++ [(s[k].toNat : Int)] := by rw [List.take_add_one, HSG.out k hlt]; rfl
      have HSU := Lib.hid hsuc
      have hd1 : (k : Int) < s.size := by omega
      clear hsuc
      go_wp2_with (first
        | (at_builtin; refine wpList_append_own _ rfl (.tmp 15) (.tmp 19) 31 rfl w.heap.size 5 i0 (.int .u8 0) 1 1 Try.underlying31 hi hz0 hz1 hz2 rfl (by decide) _ _ _ rfl (hown.alloc _) ⟨wr.heap.size, 0, none⟩ 1 1 [.int .u8 (s[k].toNat : Int)] rfl rfl (cell_one _ _ _) (by simp [Value.oneCell']) (by unfold maxLen; omega) (by omega) (by have := hfr.size; simp; omega) ?_; intro v' w1' hown' hgrow _))
      have hg2 : (wr.alloc (.cells #[.int .u8 (s[k].toNat : Int)] 5)).grownBy w1' u7.ownBlock := hgrow
      have hf1 : Fr [] w w1' := (hfr.alloc (.cells #[.int .u8 (s[k].toNat : Int)] 5)).trans (Fr.of_grownO hg2) (fun y hy => .inr (own_ge hown (by simpa using hy : u7.ownBlock = some y)))
      clear hgrow hg2
      go_wp2_with fail
      go_roundw
      case rel => exact ⟨k + 1, by omega, by go_num, by rw [HSU.out, bcells_append]; exact hown', hf1⟩
      case measure => simp [intOf]; omega
    · obtain rfl : k = s.size := by omega
      have htk : (sb s).take s.size = sb s := by rw [← HSL.out, List.take_length]
      rw [htk] at hown
      have hd1 : ¬ (s.size : Int) < s.size := by omega
      clear htk
      go_wp2_with (first
        | (at_builtin; refine wpList_append_own _ rfl (.tmp 21) (.tmp 23) 31 rfl w.heap.size 5 i0 (.int .u8 0) 1 1 Try.underlying31 hi hz0 hz1 hz2 rfl (by decide) _ _ _ rfl (hown.alloc _) ⟨wr.heap.size, 0, none⟩ 1 1 [.int .u8 x] rfl rfl (cell_one _ _ _) (by simp [Value.oneCell']) (by unfold maxLen; omega) (by omega) (by have := hfr.size; simp; omega) ?_; intro v' w1' hown' hgrow _))
      have hg2 : (wr.alloc (.cells #[.int .u8 x] 5)).grownBy w1' u7.ownBlock := hgrow
      have hf1 : Fr [] w w1' := (hfr.alloc (.cells #[.int .u8 x] 5)).trans (Fr.of_grownO hg2) (fun y hy => .inr (own_ge hown (by simpa using hy : u7.ownBlock = some y)))
      have hown2 : w1'.ownsRow w.heap.size 5 1 v' (s.size + 1) (bcells (sb s ++ [x])) := by rw [bcells_append]; exact hown'
      obtain ⟨A2, c2, rfl, hl2, _, hX2, _⟩ := own_form hown2
      have HX2 := Lib.hid (hX2.imp (ok' := fun _ => True) fun _ _ _ => trivial)
      have HF1 := Lib.hid hf1
      have HL2 := Lib.hid hl2
      clear hgrow hg2 hown' hown2 hX2 hf1 hown hl2
      refine (HR1.out w1' (HX.out.fr HF1.out (by simp))).mono ?_
      rintro e w2 ⟨rfl, hb2⟩
      have HF2 := Lib.hid (Fr.of_below hb2)
      clear hb2
      go_wp2_with fail
      refine (HR2.out w2 ((HX.out.fr HF1.out (by simp)).fr HF2.out (by simp))).mono ?_
      rintro e w3 ⟨rfl, hb3⟩
      have HF3 := Lib.hid (HF2.out.trans (Fr.of_below hb3) (by simp))
      clear hb3
      have hr3 := HR3.out (sb s ++ [x]) HSB.out (by rw [HL2.out]; omega) A2 c2 w3 (HX2.out.fr HF3.out (by simp))
      rw [HCH.out, HL2.out] at hr3
      have HR4 := Lib.hid hr3
      clear hr3
      go_wp2_with fail
      refine HR4.out.mono ?_
      rintro e w4 ⟨rfl, hb4⟩
      have HF4 := Lib.hid ((HF1.out.trans HF3.out (by simp)).trans (Fr.of_below hb4) (by simp))
      clear hb4
      go_wp2_with fail
      go_ret
      exact ⟨rfl, HF4.out⟩

end Go.Proofs.Ytkioniffgmalgaa
