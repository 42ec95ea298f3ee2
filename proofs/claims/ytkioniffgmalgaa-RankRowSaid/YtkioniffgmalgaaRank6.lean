/-
  The bound 'Great' of keys and names by its contract; RankScores' walk.
-/
import Derived.Test.YtkioniffgmalgaaRank5
namespace Go.Proofs.Ytkioniffgmalgaa
open Go.RowKit Sp
set_option linter.unusedVariables false

/-- Strings at A. -/
def StrsAt (w : World) (A : Option Addr) (ns : List ByteArray) (ok : Nat → Prop) : Prop :=
  0 < ns.length → ∃ b off, A = some ⟨b, off, none⟩ ∧ ok b ∧ b < w.heap.size ∧ ∀ (k : Nat) (s : ByteArray), ns[k]? = some s → w.cell? ⟨b, off + k, none⟩ = some (.string s)
theorem StrsAt.fr {w w' : World} {A : Option Addr} {ns : List ByteArray} {ok : Nat → Prop} {L : List Nat} (h : StrsAt w A ns ok) (hf : Fr L w w') (hL : ∀ b, ok b → b < w.heap.size → b ∉ L) : StrsAt w' A ns ok := fun hp => by
  obtain ⟨b, off, e, ho, hb, hc⟩ := h hp
  exact ⟨b, off, e, ho, Nat.lt_of_lt_of_le hb hf.size, fun k s hk => (hf.cell (p := ⟨b, _, none⟩) hb (hL b ho hb)).trans (hc k s hk)⟩
theorem StrsAt.imp {w : World} {A : Option Addr} {ns : List ByteArray} {ok ok' : Nat → Prop} (h : StrsAt w A ns ok) (hi : ∀ b, b < w.heap.size → ok b → ok' b) : StrsAt w A ns ok' := fun hp => by
  obtain ⟨b, off, e, ho, hb, hc⟩ := h hp
  exact ⟨b, off, e, hi b hb ho, hb, hc⟩

def greatK (key : List Int) (ns : List ByteArray) : Bool := decide (100 < key.length) || decide (16 < ns.length) || ns.any (fun s => decide (40 < s.size))

set_option maxHeartbeats 400000 in
theorem great_calls (key : List Int) (ns : List ByteArray) (A B : Option Addr) (c d : Nat) (w : World) (h : StrsAt w B ns (fun _ => True)) (hl : key.length ≤ 9223372036854775807) (hl2 : ns.length ≤ 9223372036854775807) (hz : ∀ s ∈ ns, s.size ≤ 9223372036854775807) :
    Calls Try.prog 22 #[.slice A key.length c, .slice B ns.length d] w fun e w' => e = .returned (.bool (greatK key ns)) ∧ w = w' := by
  by_cases hk : 100 < key.length
  · have hd : decide (100 < (key.length : Int)) = true := by simp; omega
    have hg : greatK key ns = true := by simp [greatK, hk]
    have HG := Lib.hid hg
    clear hg h
    go_enter Try.func22, Try.ntmps22
    go_wp2_with fail
    go_ret
    exact ⟨by rw [HG.out]; rfl, rfl⟩
  · have hd : decide (100 < (key.length : Int)) = false := by simp; omega
    by_cases hn : 16 < ns.length
    · have hd2 : decide (16 < (ns.length : Int)) = true := by simp; omega
      have hg : greatK key ns = true := by simp [greatK, hn]
      have HG := Lib.hid hg
      clear hg h
      go_enter Try.func22, Try.ntmps22
      go_wp2_with fail
      go_ret
      exact ⟨by rw [HG.out]; rfl, rfl⟩
    · have hd2 : decide (16 < (ns.length : Int)) = false := by simp; omega
      have H := Lib.hid h
      have HZ := Lib.hid hz
      clear h hz
      go_enter Try.func22, Try.ntmps22
      go_wp2_with fail
      go_loop [5] (fun i => ∃ k : Nat, k ≤ ns.length ∧ i = .int .i64 k ∧ (ns.take k).any (fun s => decide (40 < s.size)) = false) (fun i => ns.length - (intOf i).toNat)
      case atStart => exact ⟨0, Nat.zero_le _, rfl, by simp⟩
      case round =>
        obtain ⟨k, hk, rfl, hno⟩ := hrel
        by_cases hlt : k < ns.length
        · obtain ⟨b, off, rfl, _, hb, hc⟩ := H.out (by omega)
          obtain ⟨s, hs⟩ : ∃ s, ns[k]? = some s := ⟨_, List.getElem?_eq_getElem hlt⟩
          have hcell := hc k s hs
          have hsz := HZ.out s (List.mem_of_getElem? hs)
          have HN := Lib.hid (And.intro hno hs)
          clear hno hs hc
          by_cases h40 : 40 < s.size
          · have hd3 : decide (40 < (s.size : Int)) = true := by simp; omega
            have hg : greatK key ns = true := by
              have : ns.any (fun s => decide (40 < s.size)) = true := List.any_eq_true.2 ⟨s, List.mem_of_getElem? HN.out.2, by simpa using h40⟩
              simp [greatK, this]
            have HG := Lib.hid hg
            clear hg
            go_wp2_with fail
            go_ret
            exact ⟨by rw [HG.out]; rfl, rfl⟩
          · have hd3 : decide (40 < (s.size : Int)) = false := by simp; omega
            go_wp2_with fail
            go_round
            case rel => exact ⟨k + 1, by omega, by go_num, by rw [List.take_add_one, HN.out.2]; simp [HN.out.1]; simpa using h40⟩
            case measure => simp [intOf]; omega
        · obtain rfl : k = ns.length := by omega
          rw [List.take_length] at hno
          have hg : greatK key ns = false := by simp [greatK, hno, hn]; omega
          have HG := Lib.hid hg
          clear hg hno
          go_wp2_with fail
          go_ret
          exact ⟨by rw [HG.out]; rfl, rfl⟩

set_option maxRecDepth 100000 in
set_option maxHeartbeats 1000000 in
theorem scores_calls (key : List Int) (A : Option Addr) (c : Nat) (s : ByteArray) (x weight : Int) (w : World) (hX : BytesAt w A key (fun _ => True)) (hb : Byts key) (hl : key.length ≤ 9223372036854775807) (hx : 0 ≤ x ∧ x < 256) (hs : s.size ≤ 9223372036854775807) (hw : -9223372036854775808 ≤ weight ∧ weight ≤ 9223372036854775807) :
    Calls Try.prog 8 #[.slice A key.length c, .string s, .int .u8 x, .int .i64 weight] w fun e w' => e = .returned (.bool true) ∧ Fr [] w w' := by
  have hA : Fr [] w (w.alloc (.cells #[.string s] 9)) := (Fr.refl [] w).alloc _
  have hsa : StrsAt (w.alloc (.cells #[.string s] 9)) (some ⟨w.heap.size, 0, none⟩) [s] (fun _ => True) := fun _ => ⟨w.heap.size, 0, rfl, trivial, by simp, fun k u hk => by
    cases k with
    | zero => simp at hk; subst hk; exact (Blk.new w 9 #[.string s]).cell 0
    | succ k => simp at hk⟩
  have hg := great_calls key [s] A (some ⟨w.heap.size, 0, none⟩) c 1 _ hsa hl (by simp) (by simpa using hs)
  have HG := Lib.hid hg
  have HX := Lib.hid (hX.fr hA (by simp))
  have HA := Lib.hid hA
  cases hgr : greatK key [s]
  · have hkl : key.length ≤ 100 ∧ s.size ≤ 40 := by simp [greatK] at hgr; omega
    rw [hgr] at HG
    have H20 := Lib.hid (fun W h => Score_calls key A c s weight W h hb (by omega) (by omega) hw)
    have H23 := Lib.hid (fun W h => refScore_calls key A c s weight W h hb (by omega) (by omega) hw)
    have H24 := Lib.hid (fun W h => Chance_calls key A c s x W h hb (by omega) hx (by omega))
    have H25 := Lib.hid (fun W h => refChance_calls key A c s x W h hb (by omega) hx (by omega))
    obtain ⟨sc, hsc⟩ : ∃ sc, scS key s weight = sc := ⟨_, rfl⟩
    obtain ⟨ch, hch⟩ : ∃ ch, chS key s x = ch := ⟨_, rfl⟩
    obtain ⟨q, hq⟩ : ∃ q, decide (0 < weight) = q := ⟨_, rfl⟩
    rw [hsc, hq] at H20 H23
    rw [hch] at H24 H25
    clear hX hA hsa hg hgr hsc hch hq hb
    go_enter Try.func8, Try.ntmps8
    go_wp2_with fail
    refine HG.out.mono ?_
    rintro e w1 ⟨rfl, rfl⟩
    go_wp2_with fail
    refine (H20.out _ HX.out).mono ?_
    rintro e w2 ⟨rfl, hf2⟩
    have HF2 := Lib.hid hf2
    clear hf2
    go_wp2_with fail
    refine (H23.out _ (HX.out.fr HF2.out (by simp))).mono ?_
    rintro e w3 ⟨rfl, hf3⟩
    have HF3 := Lib.hid (HF2.out.trans hf3 (by simp))
    clear hf3
    go_wp2_with fail
    refine (H24.out _ (HX.out.fr HF3.out (by simp))).mono ?_
    rintro e w4 ⟨rfl, hf4⟩
    have HF4 := Lib.hid (HF3.out.trans hf4 (by simp))
    clear hf4
    go_wp2_with fail
    refine (H25.out _ (HX.out.fr HF4.out (by simp))).mono ?_
    rintro e w5 ⟨rfl, hf5⟩
    have HF5 := Lib.hid ((HA.out.trans HF4.out (by simp)).trans hf5 (by simp))
    clear hf5
    go_wp2_with fail
    go_ret
    exact ⟨rfl, HF5.out⟩
  · rw [hgr] at HG
    clear hX hA hsa hg hgr hb
    go_enter Try.func8, Try.ntmps8
    go_wp2_with fail
    refine HG.out.mono ?_
    rintro e w1 ⟨rfl, rfl⟩
    go_wp2_with fail
    go_ret
    exact ⟨rfl, HA.out⟩

end Go.Proofs.Ytkioniffgmalgaa
