/-
  The reference's Names walked.
-/
import Derived.Test.YtlhogpnfongfmaaNamesL27
namespace Go.Proofs.Ytlhogpnfongfmaa
open Go.RowKit
set_option linter.unusedVariables false

def lenV (v : Value) : Nat := match v with | .slice _ n _ => n | _ => 0

set_option maxRecDepth 100000 in
set_option maxHeartbeats 2000000 in
theorem refNames_calls (K : List ByteArray) (B r : Nat) (v : Value) (l : List ByteArray) (w : World) (h : RefAt w B r v l) (hl : l.length ≤ 1000) (hKl : K.length ≤ 1000) (hs : K.Pairwise (fun a b => ltB a b = true)) (hm : ∀ s, s ∈ K ↔ s ∈ l) :
    Calls Try.prog 16 #[.pointer (some ⟨r, 0, none⟩)] w fun e w' => ∃ A c, e = .returned (.slice A K.length c) ∧ w'.ownsRow w.heap.size 9 1 (.slice A K.length c) K.length (scells K) ∧ Fr [] w w' := by
  have HSEL := Lib.hid (fun j (hj : j ≤ K.length) => sel_names hs hm hj)
  obtain ⟨A, c, rfl, hcv⟩ := own_cell h.own
  have HCV := Lib.hid hcv
  have hkeep : ∀ W, Fr [] w W → W.cell? ⟨r, 0, none⟩ = some (.slice A l.length c) := fun W hf => (hf.blk h.blk (by simp)).cell 0
  have HKEEP := Lib.hid hkeep
  obtain ⟨H, hH⟩ : ∃ H, w.heap.size = H := ⟨_, rfl⟩
  have HW := Lib.hid hH
  clear h hcv hkeep hH hs hm
  go_enter Try.func16, Try.ntmps16
  rw [HW.out]
  go_wp2_with fail
  go_loopw [3] (fun v3 wr => ∃ j : Nat, j ≤ K.length ∧ ∃ V c', v3 = .slice V j c' ∧ wr.ownsRow H 9 1 (.slice V j c') j (scells (K.take j)) ∧ Fr [] w wr ∧ H ≤ wr.heap.size) (fun v _ => K.length - lenV v)
  case atStart => exact ⟨0, Nat.zero_le _, none, 0, rfl, World.ownsRow_nil _ _ _ _, Fr.refl _ _, by have := HW.out; omega⟩
  case round =>
    obtain ⟨j, hj, V, c', rfl, hown, hfr, hHw⟩ := hrel
    have hcr := HKEEP.out wr hfr
    have HOW := Lib.hid hown
    have HF := Lib.hid hfr
    have HSJ := Lib.hid (HSEL.out j hj)
    obtain ⟨last, hlast⟩ : ∃ last, lastB K j = last := ⟨_, rfl⟩
    rw [hlast] at HSJ
    have HLAST := Lib.hid hlast
    clear hown hfr hlast
    go_wp2_with fail
    go_loop [4, 5, 6] (fun b is i => ∃ k : Nat, k ≤ l.length ∧ i = .int .i64 k ∧ ((selB l last k = none ∧ b = .string ⟨#[]⟩ ∧ is = .bool false) ∨ ∃ t, selB l last k = some t ∧ b = .string t ∧ is = .bool true)) (fun _ _ i => l.length - (intOf i).toNat)
    case atStart => exact ⟨0, Nat.zero_le _, rfl, .inl ⟨rfl, rfl, rfl⟩⟩
    case round =>
      obtain ⟨k, hk, rfl, hst⟩ := hrel
      have HST := Lib.hid hst
      clear hst
      by_cases hlt : k < l.length
      · obtain ⟨g, rfl, _, hgl, hcc⟩ := HCV.out (by omega)
        obtain ⟨t, ht⟩ : ∃ t, l[k]? = some t := ⟨_, List.getElem?_eq_getElem hlt⟩
        have h1 := hcc k (.string t) (by simp [scells, ht])
        rw [Nat.zero_add] at h1
        have h2 : wr.cell? ⟨g, k, none⟩ = some (.string t) := (HF.out.cell (p := ⟨g, k, none⟩) hgl (by simp)).trans h1
        have HT := Lib.hid ht
        clear h1 hcc ht
        rcases Nat.eq_zero_or_pos j with hj0 | hj0
        · subst hj0
          have HAB : Hid (aboveB last t = true) := Lib.hid (by rw [← HLAST.out]; rfl)
          have hst := HST.out
          rcases hst with ⟨hs0, rfl, rfl⟩ | ⟨b, hs0, rfl, rfl⟩
          · have HN1 := Lib.hid (selB_first HT.out HAB.out hs0)
            clear hs0
            go_wp2_with fail
            go_round
            case rel => exact ⟨k + 1, by omega, by go_num, .inr ⟨t, HN1.out, rfl, rfl⟩⟩
            case measure => simp [intOf]; omega
          · have HN1 := Lib.hid (selB_next HT.out HAB.out hs0)
            clear hs0
            cases hlb : Op.bytesLess t.toList b.toList with
            | true =>
              have hlb2 : ltB t b = true := hlb
              rw [hlb2] at HN1
              clear hlb2
              go_wp2_with fail
              go_round
              case rel => exact ⟨k + 1, by omega, by go_num, .inr ⟨t, HN1.out, rfl, rfl⟩⟩
              case measure => simp [intOf]; omega
            | false =>
              have hlb2 : ltB t b = false := hlb
              rw [hlb2] at HN1
              clear hlb2
              go_wp2_with fail
              go_round
              case rel => exact ⟨k + 1, by omega, by go_num, .inr ⟨b, HN1.out, rfl, rfl⟩⟩
              case measure => simp [intOf]; omega
        · obtain ⟨j', rfl⟩ : ∃ j', j = j' + 1 := ⟨j - 1, by omega⟩
          obtain ⟨l0, hl0⟩ : ∃ l0, K[j']? = some l0 := ⟨_, List.getElem?_eq_getElem (by omega)⟩
          have HL0 : Hid (last = some l0) := Lib.hid (by rw [← HLAST.out, ← hl0]; rfl)
          obtain ⟨Vo, co, ev, hvc⟩ := own_cell HOW.out
          obtain ⟨gv, rfl, _, _, hvcc⟩ := hvc (by omega)
          obtain ⟨rfl, rfl⟩ : V = some ⟨gv, 0, none⟩ ∧ c' = co := by injection ev with e1 e2 e3; exact ⟨e1, e3⟩
          have h3 := hvcc j' (.string l0) (by
            simp only [scells, List.getElem?_map, List.getElem?_take]
            rw [if_pos (by omega), hl0]
            rfl)
          rw [Nat.zero_add] at h3
          have hj0' : (((j' + 1 : Nat) : Int) == 0) = false := by simp; omega
          have hj1' : (((j' : Int) + 1) == 0) = false := by simp; omega
          clear ev hvc hvcc hl0
          cases hbl : Op.bytesLess t.toList l0.toList with
          | true =>
            have HAB : Hid (aboveB last t = false) := Lib.hid (by rw [HL0.out]; show (!(Op.bytesLess t.toList l0.toList || _)) = false; rw [hbl]; rfl)
            have HOUT := Lib.hid (selB_out HT.out HAB.out)
            have hst := HST.out
            rcases hst with ⟨hs0, rfl, rfl⟩ | ⟨b, hs0, rfl, rfl⟩
            · have HS0 := Lib.hid hs0
              clear hs0
              go_wp2_with fail
              go_round
              case rel => exact ⟨k + 1, by omega, by go_num, .inl ⟨by rw [HOUT.out]; exact HS0.out, rfl, rfl⟩⟩
              case measure => simp [intOf]; omega
            · have HS0 := Lib.hid hs0
              clear hs0
              go_wp2_with fail
              go_round
              case rel => exact ⟨k + 1, by omega, by go_num, .inr ⟨b, by rw [HOUT.out]; exact HS0.out, rfl, rfl⟩⟩
              case measure => simp [intOf]; omega
          | false =>
            cases hbe : (t.toList == l0.toList) with
            | true =>
              have HAB : Hid (aboveB last t = false) := Lib.hid (by rw [HL0.out]; show (!(Op.bytesLess t.toList l0.toList || _)) = false; rw [hbl, hbe]; rfl)
              have HOUT := Lib.hid (selB_out HT.out HAB.out)
              have hst := HST.out
              rcases hst with ⟨hs0, rfl, rfl⟩ | ⟨b, hs0, rfl, rfl⟩
              · have HS0 := Lib.hid hs0
                clear hs0
                go_wp2_with fail
                go_round
                case rel => exact ⟨k + 1, by omega, by go_num, .inl ⟨by rw [HOUT.out]; exact HS0.out, rfl, rfl⟩⟩
                case measure => simp [intOf]; omega
              · have HS0 := Lib.hid hs0
                clear hs0
                go_wp2_with fail
                go_round
                case rel => exact ⟨k + 1, by omega, by go_num, .inr ⟨b, by rw [HOUT.out]; exact HS0.out, rfl, rfl⟩⟩
                case measure => simp [intOf]; omega
            | false =>
              have HAB : Hid (aboveB last t = true) := Lib.hid (by rw [HL0.out]; show (!(Op.bytesLess t.toList l0.toList || (t.toList == l0.toList))) = true; rw [hbl, hbe]; rfl)
              have hst := HST.out
              rcases hst with ⟨hs0, rfl, rfl⟩ | ⟨b, hs0, rfl, rfl⟩
              · have HN1 := Lib.hid (selB_first HT.out HAB.out hs0)
                clear hs0
                go_wp2_with fail
                go_round
                case rel => exact ⟨k + 1, by omega, by go_num, .inr ⟨t, HN1.out, rfl, rfl⟩⟩
                case measure => simp [intOf]; omega
              · have HN1 := Lib.hid (selB_next HT.out HAB.out hs0)
                clear hs0
                cases hlb : Op.bytesLess t.toList b.toList with
                | true =>
                  have hlb2 : ltB t b = true := hlb
                  rw [hlb2] at HN1
                  clear hlb2
                  go_wp2_with fail
                  go_round
                  case rel => exact ⟨k + 1, by omega, by go_num, .inr ⟨t, HN1.out, rfl, rfl⟩⟩
                  case measure => simp [intOf]; omega
                | false =>
                  have hlb2 : ltB t b = false := hlb
                  rw [hlb2] at HN1
                  clear hlb2
                  go_wp2_with fail
                  go_round
                  case rel => exact ⟨k + 1, by omega, by go_num, .inr ⟨b, HN1.out, rfl, rfl⟩⟩
                  case measure => simp [intOf]; omega
      · obtain rfl : k = l.length := by omega
        have hst := HST.out
        rw [HSJ.out] at hst
        rcases hst with ⟨hs0, rfl, rfl⟩ | ⟨t, hs0, rfl, rfl⟩
        · have hjk : j = K.length := by
            rcases Nat.lt_or_ge j K.length with h | h
            · rw [List.getElem?_eq_getElem h] at hs0; cases hs0
            · omega
          subst hjk
          have hrow := HOW.out
          rw [List.take_length] at hrow
          have HROW := Lib.hid hrow
          clear hrow hs0
          go_wp2_with fail
          go_ret
          exact ⟨V, c', rfl, HROW.out, HF.out⟩
        · have hjk : j < K.length := by
            rcases Nat.lt_or_ge j K.length with h | h
            · exact h
            · rw [List.getElem?_eq_none h] at hs0; cases hs0
          have HS0 := Lib.hid hs0
          clear hs0
          obtain ⟨i9, hi, hz0, hz1, hz2⟩ := info_parts info9
          go_wp2_with (first
            | (at_builtin; refine wpList_append_any _ rfl (.tmp 50) (.tmp 52) _ rfl H 9 i9 _ 1 16 Try.underlying38 hi hz0 hz1 hz2 rfl (by omega) (.slice V j c') j (scells (K.take j)) rfl (own_alloc HOW.out _) (wr.heap.size + 1) (some ⟨wr.heap.size, 0, none⟩) 1 1 (scells [t]) rfl (reads_new wr 9 (scells [t]) 1 rfl) (scells_one _) (by simp only [maxLen]; omega) (by omega) (by simp; omega) ?_; intro v3 w3 hown3 hg3 hat3))
          have hge : ∀ y ∈ (Value.slice V j c').ownBlock.toList, H ≤ y := fun y hy => own_ge HOW.out (by simpa using hy)
          have hf3 := ((Fr.refl (Value.slice V j c').ownBlock.toList wr).alloc (.cells (scells [t]).toArray 9)).trans (Fr.of_grownO hg3) (fun y hy => .inl hy)
          have hrow : w3.ownsRow H 9 1 v3 (j + 1) (scells (K.take (j + 1))) := by
            rw [List.take_add_one, HS0.out, Option.toList_some, scells_append]
            exact hown3
          obtain ⟨V3, c3, rfl, _⟩ := own_cell hrow
          have HALL := Lib.hid (And.intro hrow (HF.out.trans hf3 (fun y hy => .inr (by have := hge y hy; have := HW.out; omega))))
          have hz3 : H ≤ w3.heap.size := Nat.le_trans hHw hf3.size
          clear hown3 hg3 hat3 hge hf3 hrow
          go_wp2_with fail
          go_roundw
          case rel => exact ⟨j + 1, by omega, V3, c3, rfl, HALL.out.1, HALL.out.2, hz3⟩
          case measure => simp [lenV]; omega

end Go.Proofs.Ytlhogpnfongfmaa
