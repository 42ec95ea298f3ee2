/-
  RankRow's walk.
-/
import Derived.Test.YtkioniffgmalgaaRow7L
namespace Go.Proofs.Ytkioniffgmalgaa
open Go.RowKit Go.Sort Sp
set_option linter.unusedVariables false

set_option maxRecDepth 100000 in
theorem row_yes (key : List Int) (A : Option Addr) (ca : Nat) (l : List (ByteArray × Int)) (B : Option Addr) (c : Nat) (which : Int) (back : Bool) (w : World) (h : RunsAt w B l (fun _ => True)) (hkl : key.length ≤ 9223372036854775807) (hl : l.length * 24 ≤ 140737488355328) (hz : ∀ r ∈ l, r.1.size ≤ 9223372036854775807) (hg : greatL key l = true ∨ (greatL key l = false ∧ l.length = 0)) :
    Calls Try.prog 7 #[.slice A key.length ca, .slice B l.length c, .int .i64 which, .bool back] w fun e w' => e = .returned (.bool true) ∧ Fr [] w w' := by
  rcases hg with hg | ⟨hg, hl0⟩
  · have HG := Lib.hid (fun W hW => hg ▸ greatL_calls key A ca l B c W hW hkl hl hz)
    have HR := Lib.hid h
    clear h hz hg
    go_enter Try.func7, Try.ntmps7
    go_wp2_with fail
    refine (awake_calls w).mono ?_
    rintro e w1 ⟨rfl, hf1⟩
    have HF1 := Lib.hid hf1
    clear hf1
    go_wp2_with fail
    refine (HG.out w1 (HR.out.fr HF1.out (by simp))).mono ?_
    rintro e w2 ⟨rfl, hf2⟩
    have HF2 := Lib.hid (HF1.out.trans hf2 (by simp))
    clear hf2
    go_wp2_with fail
    go_ret
    exact ⟨rfl, HF2.out⟩
  · have HG := Lib.hid (fun W hW => hg ▸ greatL_calls key A ca l B c W hW hkl hl hz)
    have HR := Lib.hid h
    rw [hl0] at HG ⊢
    clear h hz hg hl0
    go_enter Try.func7, Try.ntmps7
    go_wp2_with fail
    refine (awake_calls w).mono ?_
    rintro e w1 ⟨rfl, hf1⟩
    have HF1 := Lib.hid hf1
    clear hf1
    go_wp2_with fail
    refine (HG.out w1 (HR.out.fr HF1.out (by simp))).mono ?_
    rintro e w2 ⟨rfl, hf2⟩
    have HF2 := Lib.hid (HF1.out.trans hf2 (by simp))
    clear hf2
    go_wp2_with fail
    go_ret
    exact ⟨rfl, HF2.out⟩

set_option maxRecDepth 100000 in
set_option maxHeartbeats 8000000 in
theorem row_good (key : List Int) (A : Option Addr) (ca : Nat) (l : List (ByteArray × Int)) (B : Option Addr) (c : Nat) (which : Int) (back : Bool) (w : World) (hX : BytesAt w A key (fun _ => True)) (hb : Byts key) (h : RunsAt w B l (fun _ => True)) (hkl : key.length ≤ 9223372036854775807) (hl : l.length * 24 ≤ 140737488355328) (hz : ∀ r ∈ l, r.1.size ≤ 9223372036854775807) (hw : ∀ r ∈ l, -9223372036854775808 ≤ r.2 ∧ r.2 ≤ 9223372036854775807) (hg : greatL key l = false) (hpos : 0 < l.length) :
    Calls Try.prog 7 #[.slice A key.length ca, .slice B l.length c, .int .i64 which, .bool back] w fun e w' => e = .returned (.bool true) ∧ Fr [] w w' := by
  have hgr : key.length ≤ 100 ∧ l.length ≤ 16 ∧ ∀ r ∈ l, r.1.size ≤ 40 := by
    simp [greatL, greatK] at hg
    refine ⟨by omega, by omega, fun r hr => by have := hg.2 r.1 r.2 hr; omega⟩
  have HG := Lib.hid (fun W hW => hg ▸ greatL_calls key A ca l B c W hW hkl hl hz)
  have HO := Lib.hid (fun l' (hl' : l'.length = l.length) (hz' : ∀ r ∈ l', r.1.size ≤ 40) (hw' : ∀ r ∈ l', -9223372036854775808 ≤ r.2 ∧ r.2 ≤ 9223372036854775807) B' c' W hX hW => orderL_calls key A ca l' B' c' W hX hb hW (by omega) (by omega) (fun r hr => by have := hz' r hr; omega) hw')
  have HSC := Lib.hid (fun (p : Nat) (r : ByteArray × Int) (hr : l[p]? = some r) W hX => Score_calls key A ca r.1 r.2 W hX hb (by omega) (by have := hgr.2.2 r (List.mem_of_getElem? hr); omega) (hw r (List.mem_of_getElem? hr)))
  have HX := Lib.hid hX
  have HZ := Lib.hid hgr.2.2
  have HW := Lib.hid hw
  have HR := Lib.hid h
  obtain ⟨lb, lo, rfl, _, hlb, hlc⟩ := h hpos
  have HLC := Lib.hid hlc
  obtain ⟨p, hp⟩ : ∃ p, pk which l.length = p := ⟨_, rfl⟩
  have hpl : p < l.length := by rw [← hp]; exact pk_lt _ hpos
  have hpe := pk_eq which (n := l.length) (by omega) hpos
  rw [hp] at hpe
  have HPE := Lib.hid hpe
  have HTG := Lib.hid (fun i (hi : i < l.length) => trn_get l (p := p) back hpl hi)
  have HTL := Lib.hid (trn_len l p back)
  have HTP := Lib.hid (trn_perm l p back)
  obtain ⟨t, ht⟩ : ∃ t, trn l p back = t := ⟨_, rfl⟩
  rw [ht] at HTG HTL HTP
  have HRA := Lib.hid (fun (hna : NoAl key l l.length) i hi => row_at HTP.out hna (i := i) hi)
  have HOA := Lib.hid (fun W => HO.out l rfl HZ.out HW.out (some ⟨lb, lo, none⟩) c W)
  have HOB := Lib.hid (fun B' c' W => HO.out t HTL.out (fun r hr => HZ.out r (HTP.out.mem_iff.1 hr)) (fun r hr => HW.out r (HTP.out.mem_iff.1 hr)) B' c' W)
  rw [HTL.out] at HOB
  have HAL := Lib.hid (ordL_len key l)
  have HBL := Lib.hid (ordL_len key t)
  rw [HTL.out] at HBL
  obtain ⟨n, hn⟩ : ∃ n, l.length = n := ⟨_, rfl⟩
  have HN := Lib.hid hn
  rw [hn] at HG HPE hpl hpos hgr HTG HTL HRA HOA HOB HAL HBL ⊢
  have hn16 := hgr.2.1
  have hz0 : ((n : Int) == 0) = false := by simp; omega
  have hnz : ¬ n = 0 := by omega
  obtain ⟨oa, hoa⟩ : ∃ oa, ordL key l = oa := ⟨_, rfl⟩
  obtain ⟨ob, hob⟩ : ∃ ob, ordL key t = ob := ⟨_, rfl⟩
  rw [hoa] at HOA HRA HAL
  rw [hob] at HOB HRA HBL
  have HLT := Lib.hid (show ∀ (i : Nat) (r : ByteArray × Int), l[i]? = some r → i < n from fun i r h => by
    rw [← HN.out]
    rcases Nat.lt_or_ge i l.length with h1 | h1
    · exact h1
    · rw [List.getElem?_eq_none h1] at h; cases h)
  have HLT2 := Lib.hid (show ∀ (i : Nat) (r : ByteArray × Int), t[i]? = some r → i < n from fun i r h => by
    rw [← HTL.out]
    rcases Nat.lt_or_ge i t.length with h1 | h1
    · exact h1
    · rw [List.getElem?_eq_none h1] at h; cases h)
  clear hX h hz hw hg hn hgr hb hpe hp hkl hl HO ht hoa hob hlc
  go_enter Try.func7, Try.ntmps7
  go_wp2_with fail
  refine (awake_calls w).mono ?_
  rintro e w1 ⟨rfl, hf1⟩
  have HF1 := Lib.hid hf1
  clear hf1
  go_wp2_with fail
  refine (HG.out w1 (HR.out.fr HF1.out (by simp))).mono ?_
  rintro e w2 ⟨rfl, hf2⟩
  have HF2 := Lib.hid (HF1.out.trans hf2 (by simp))
  have hlb2 : lb < w2.heap.size := Nat.lt_of_lt_of_le hlb HF2.out.size
  clear hf2
  go_wp2_with fail
  clear hz0 hnz
  go_loopw [9] (fun i wr => ∃ k : Nat, k ≤ n ∧ i = .int .i64 k ∧ NoAl key l k ∧ Fr [] w wr) (fun i _ => n - (intOf i).toNat)
  case atStart => exact ⟨0, Nat.zero_le _, rfl, NoAl.zero _ _, HF2.out⟩
  case round =>
    obtain ⟨k, hkn, rfl, hna, hf3⟩ := hrel
    have HNA := Lib.hid hna
    have HF3 := Lib.hid hf3
    clear hna hf3
    by_cases hlt : k < n
    · obtain ⟨r, hr⟩ : ∃ r, l[k]? = some r := ⟨_, List.getElem?_eq_getElem (by rw [HN.out]; exact hlt)⟩
      obtain ⟨s, x⟩ := r
      have HLK := Lib.hid hr
      clear hr
      obtain ⟨sc, hsc⟩ : ∃ sc, scS key s x = sc := ⟨_, rfl⟩
      obtain ⟨q, hq⟩ : ∃ q, decide (0 < x) = q := ⟨_, rfl⟩
      have HS := Lib.hid (fun W hX => HSC.out k (s, x) HLK.out W hX)
      have HSUC := Lib.hid (fun h => HNA.out.succ HLK.out h)
      simp only at HS HSUC
      rw [hsc, hq] at HS HSUC
      clear hsc hq
      have hl3 : lb < wr.heap.size := Nat.lt_of_lt_of_le hlb HF3.out.size
      have hc1 : wr.cell? ⟨lb, lo + k * 2, none⟩ = some (.string s) := (HF3.out.cell (p := ⟨lb, _, none⟩) hlb (by simp)).trans (HLC.out k _ HLK.out).1
      have hc2 : wr.cell? ⟨lb, lo + k * 2 + 1, none⟩ = some (.int .i64 x) := (HF3.out.cell (p := ⟨lb, _, none⟩) hlb (by simp)).trans (HLC.out k _ HLK.out).2
      have HC12 := Lib.hid (And.intro hc1 hc2)
      clear hc1 hc2
      go_wp2_with fail
      refine wp_only (r8_wp A key.length ca lb lo n c k s x sc q wr hlt (by omega) HC12.out.1 HC12.out.2 hl3 (fun W hf => HS.out W (HX.out.fr (HF3.out.trans hf (by simp)) (by simp))) ?_)
      intro w4 d37 d38 d39 d40 d41 d42 d43 d44 d45 d46 d47 d48 d49 d50 d51 hf4
      have HF4 := Lib.hid (HF3.out.trans hf4 (by simp))
      clear hf4
      go_wp2_with fail
      go_loopw [12] (fun i w5 => ∃ j : Nat, j ≤ k ∧ i = .int .i64 j ∧ NoAl1 key l s sc q j ∧ Fr [] w w5) (fun i _ => k - (intOf i).toNat)
      case atStart => exact ⟨0, Nat.zero_le _, rfl, NoAl1.zero _ _ _ _ _, HF4.out⟩
      case round =>
        obtain ⟨j, hjk, rfl, hna1, hf5⟩ := hrel
        have HNA1 := Lib.hid hna1
        have HF5 := Lib.hid hf5
        clear hna1 hf5
        by_cases hjl : j < k
        · obtain ⟨r, hr⟩ : ∃ r, l[j]? = some r := ⟨_, List.getElem?_eq_getElem (by rw [HN.out]; omega)⟩
          obtain ⟨s', x'⟩ := r
          have HLJ := Lib.hid hr
          clear hr
          obtain ⟨sc', hsc⟩ : ∃ sc, scS key s' x' = sc := ⟨_, rfl⟩
          obtain ⟨q', hq⟩ : ∃ q, decide (0 < x') = q := ⟨_, rfl⟩
          have HS' := Lib.hid (fun W hX => HSC.out j (s', x') HLJ.out W hX)
          have HSUC1 := Lib.hid (fun h => HNA1.out.succ HLJ.out h)
          simp only at HS' HSUC1
          rw [hsc, hq] at HS' HSUC1
          clear hsc hq
          have hl5 : lb < wr.heap.size := Nat.lt_of_lt_of_le hlb HF5.out.size
          have HD12 := Lib.hid (And.intro ((HF5.out.cell (p := ⟨lb, lo + j * 2, none⟩) hlb (by simp)).trans (HLC.out j _ HLJ.out).1) ((HF5.out.cell (p := ⟨lb, lo + j * 2 + 1, none⟩) hlb (by simp)).trans (HLC.out j _ HLJ.out).2))
          have HE1 := Lib.hid ((HF5.out.cell (p := ⟨lb, lo + k * 2, none⟩) hlb (by simp)).trans (HLC.out k _ HLK.out).1)
          go_wp2_with fail
          refine wp_only (r12_wp A key.length ca lb lo n c j s' x' sc' q' wr (by omega) (by omega) HD12.out.1 HD12.out.2 hl5 (fun W hf => HS'.out W (HX.out.fr (HF5.out.trans hf (by simp)) (by simp))) ?_)
          intro w6 d57 d58 d59 d60 d61 d62 d63 d64 d65 d66 d67 d68 d69 d70 d71 hf6
          have HF6 := Lib.hid hf6
          clear hf6
          obtain ⟨bt, hbt⟩ : ∃ bt, alikeB s s' sc sc' q q' = bt := ⟨_, rfl⟩
          have HBT := Lib.hid hbt
          clear hbt
          go_wp2_with fail
          refine wp_only (r13_wp lb lo n c k j s s' sc sc' q q' w6 hlt (by omega) (by omega) ((HF6.out.cell (p := ⟨lb, _, none⟩) hl5 (by simp)).trans HE1.out) ((HF6.out.cell (p := ⟨lb, _, none⟩) hl5 (by simp)).trans HD12.out.1) ?_)
          intro m d72 d73 d74 d75 d76 d77 d78 d79 d80 d81 d82 d83 d84 d85 d86 d87 d88 d89 d90 d91
          rw [HBT.out]
          cases bt
          · go_wp2_with fail
            go_roundw
            case rel => exact ⟨j + 1, by omega, by go_num, HSUC1.out HBT.out, (HF5.out.trans HF6.out (by simp)).drewN _⟩
            case measure => simp [intOf]; omega
          · go_wp2_with fail
            go_ret
            exact ⟨rfl, (HF5.out.trans HF6.out (by simp)).drewN _⟩
        · obtain rfl : j = k := by omega
          go_wp2_with fail
          go_roundw
          case rel => exact ⟨j + 1, by omega, by go_num, HSUC.out HNA1.out, HF5.out⟩
          case measure => simp [intOf]; omega
    · obtain rfl : k = n := by omega
      have hnz : ¬ k = 0 := by omega
      have HAP := Lib.hid (HRA.out HNA.out)
      go_upto_region 15 with fail
      go_cut [2] from 21 (fun s2 wc => s2 = .int .i64 p ∧ wr = wc)
      case first =>
        go_wp2_with fail
        go_meet
        exact ⟨by rw [HPE.out], rfl⟩
      case rest =>
        obtain ⟨rfl, rfl⟩ := hcut
        clear hlt
        obtain ⟨T, hT⟩ : ∃ T, wr.heap.size = T := ⟨_, rfl⟩
        have HWT : Hid (w.heap.size ≤ T) := Lib.hid (by rw [← hT]; exact HF3.out.size)
        have hTw0 : T ≤ wr.heap.size := by omega
        clear hT
        go_wp2_with fail
        go_loopw [15, 16] (fun v15 i w5 => ∃ j : Nat, j ≤ k ∧ i = .int .i64 j ∧ w5.ownsRow T 46 2 v15 j (pcells (t.take j)) ∧ Fr [] w w5 ∧ T ≤ w5.heap.size) (fun _ i _ => k - (intOf i).toNat)
        case atStart => exact ⟨0, Nat.zero_le _, rfl, by simp [pcells]; exact World.ownsRow_nil _ _ _ _, HF3.out, hTw0⟩
        case round =>
          obtain ⟨j, hjk, rfl, hown, hf5, hTw⟩ := hrel
          have HOW := Lib.hid hown
          have HF5 := Lib.hid hf5
          clear hown hf5
          by_cases hj : j < k
          · obtain ⟨q, hq⟩ : ∃ q, (p + j) % k = q := ⟨_, rfl⟩
            have hqk : q < k := by rw [← hq]; exact Nat.mod_lt _ hpos
            have htj := HTG.out j hj
            obtain ⟨at_, hat_⟩ : ∃ at_, atT k p back j = at_ := ⟨_, rfl⟩
            have hatk : at_ < k := by rw [← hat_]; exact atT_lt _ _ hpos
            have hatq : at_ = if back then k - 1 - q else q := by rw [← hat_, ← hq]; rfl
            rw [hat_] at htj
            obtain ⟨r, hr⟩ : ∃ r, l[at_]? = some r := ⟨_, List.getElem?_eq_getElem (by rw [HN.out]; exact hatk)⟩
            obtain ⟨s, x⟩ := r
            rw [hr] at htj
            have HTJ := Lib.hid htj
            have hc1 : wr.cell? ⟨lb, lo + at_ * 2, none⟩ = some (.string s) := (HF5.out.cell (p := ⟨lb, _, none⟩) hlb (by simp)).trans (HLC.out at_ _ hr).1
            have hc2 : wr.cell? ⟨lb, lo + at_ * 2 + 1, none⟩ = some (.int .i64 x) := (HF5.out.cell (p := ⟨lb, _, none⟩) hlb (by simp)).trans (HLC.out at_ _ hr).2
            obtain ⟨i46, hi, hq0, hq1, hq2⟩ := info_parts info46
            have HQ := Lib.hid hq
            clear hr htj hat_ hq
            go_upto_region 20 with fail
            go_cut [17] from 100 to 124 (fun s17 wc => s17 = .int .i64 q ∧ wr = wc)
            case first =>
              clear hc1 hc2 hq0 hq1 hq2 hi hatq hatk
              go_wp2_with fail
              go_meet
              exact ⟨by rw [← HQ.out]; rfl, rfl⟩
            case rest =>
              obtain ⟨rfl, rfl⟩ := hcut
              clear hnz
              cases back
              · obtain rfl : at_ = q := by simpa using hatq
                clear hatq
                go_wp2_with (first
                  | (at_builtin; refine wpList_append_any _ rfl (.tmp 118) (.tmp 123) _ rfl T 46 i46 _ 2 24 Try.underlying37 hi hq0 hq1 hq2 rfl (by omega) u15 j (pcells (t.take j)) rfl (own_alloc HOW.out _) (wr.heap.size + 1) (some ⟨wr.heap.size, 0, none⟩) 1 1 [.string s, .int .i64 x] rfl (reads_new wr 46 [.string s, .int .i64 x] 2 rfl) (pcells_one [(s, x)]) (by simp only [maxLen]; omega) (by omega) (by simp; omega) ?_; intro v4 w6 hown4 hg4 hat4))
                have hge : ∀ y ∈ u15.ownBlock.toList, T ≤ y := fun y hy => own_ge HOW.out (by simpa using hy)
                have hf6 := ((Fr.refl u15.ownBlock.toList wr).alloc (.cells #[.string s, .int .i64 x] 46)).trans (Fr.of_grownO hg4) (fun y hy => .inl hy)
                have hrow : w6.ownsRow T 46 2 v4 (j + 1) (pcells (t.take (j + 1))) := by
                  rw [List.take_add_one, HTJ.out, Option.toList_some, pcells_append]
                  exact hown4
                have HALL := Lib.hid (And.intro hrow (HF5.out.trans hf6 (fun y hy => .inr (by have := hge y hy; have := HWT.out; omega))))
                have hz6 : T ≤ w6.heap.size := Nat.le_trans hTw hf6.size
                clear hown4 hg4 hat4 hge hf6 hrow
                go_wp2_with fail
                go_roundw
                case rel => exact ⟨j + 1, by omega, by go_num, HALL.out.1, HALL.out.2, hz6⟩
                case measure => simp [intOf]; omega
              · obtain rfl : at_ = k - 1 - q := by simpa using hatq
                clear hatq
                obtain ⟨at_, hat_⟩ : ∃ at_, k - 1 - q = at_ := ⟨_, rfl⟩
                rw [hat_] at hc1 hc2 hatk
                have HAT := Lib.hid hat_
                clear hat_
                go_upto_region 22 with fail
                go_cut [17] from 100 to 124 (fun s17 wc => s17 = .int .i64 at_ ∧ wr = wc)
                case first =>
                  clear hc1 hc2 hq0 hq1 hq2 hi
                  go_wp2_with fail
                  go_meet
                  exact ⟨by have := HAT.out; congr 1; omega, rfl⟩
                case rest =>
                  obtain ⟨rfl, rfl⟩ := hcut
                  clear hqk
                  go_wp2_with (first
                    | (at_builtin; refine wpList_append_any _ rfl (.tmp 118) (.tmp 123) _ rfl T 46 i46 _ 2 24 Try.underlying37 hi hq0 hq1 hq2 rfl (by omega) u15 j (pcells (t.take j)) rfl (own_alloc HOW.out _) (wr.heap.size + 1) (some ⟨wr.heap.size, 0, none⟩) 1 1 [.string s, .int .i64 x] rfl (reads_new wr 46 [.string s, .int .i64 x] 2 rfl) (pcells_one [(s, x)]) (by simp only [maxLen]; omega) (by omega) (by simp; omega) ?_; intro v4 w6 hown4 hg4 hat4))
                  have hge : ∀ y ∈ u15.ownBlock.toList, T ≤ y := fun y hy => own_ge HOW.out (by simpa using hy)
                  have hf6 := ((Fr.refl u15.ownBlock.toList wr).alloc (.cells #[.string s, .int .i64 x] 46)).trans (Fr.of_grownO hg4) (fun y hy => .inl hy)
                  have hrow : w6.ownsRow T 46 2 v4 (j + 1) (pcells (t.take (j + 1))) := by
                    rw [List.take_add_one, HTJ.out, Option.toList_some, pcells_append]
                    exact hown4
                  have HALL := Lib.hid (And.intro hrow (HF5.out.trans hf6 (fun y hy => .inr (by have := hge y hy; have := HWT.out; omega))))
                  have hz6 : T ≤ w6.heap.size := Nat.le_trans hTw hf6.size
                  clear hown4 hg4 hat4 hge hf6 hrow
                  go_wp2_with fail
                  go_roundw
                  case rel => exact ⟨j + 1, by omega, by go_num, HALL.out.1, HALL.out.2, hz6⟩
                  case measure => simp [intOf]; omega
          · obtain rfl : j = k := by omega
            have hrow := HOW.out
            rw [List.take_of_length_le (by rw [HTL.out]; exact Nat.le_refl _), ← HTL.out] at hrow
            obtain ⟨g, c4, rfl, hg, hRB⟩ := runB_of_own hrow (by rw [HTL.out]; exact hpos)
            rw [HTL.out]
            have HRB := Lib.hid hRB
            clear hrow hRB hj hg
            go_wp2_with fail
            refine (HOA.out wr (HX.out.fr HF5.out (by simp)) (HR.out.fr HF5.out (by simp))).mono ?_
            rintro e w7 ⟨A7, c7, rfl, hI7, hf7⟩
            have HI7 := Lib.hid (hI7.imp (ok' := fun _ => True) (fun _ _ _ => trivial))
            have HF7 := Lib.hid hf7
            have HG7 := Lib.hid (HF5.out.trans hf7 (by simp))
            clear hI7 hf7
            go_wp2_with fail
            refine (HOB.out (some ⟨g, 0, none⟩) c4 w7 (HX.out.fr HG7.out (by simp)) (HRB.out.runs.fr HF7.out (by simp))).mono ?_
            rintro e w8 ⟨A8, c8, rfl, hI8, hf8⟩
            have HI8 := Lib.hid (hI8.imp (ok' := fun _ => True) (fun _ _ _ => trivial))
            have HF8 := Lib.hid hf8
            have HG8 := Lib.hid (HG7.out.trans hf8 (by simp))
            have HRB8 := Lib.hid (HRB.out.runs.fr (HF7.out.trans hf8 (by simp)) (by simp))
            have HI78 := Lib.hid (HI7.out.fr hf8 (by simp))
            clear hI8 hf8
            go_wp2_with fail
            go_loopw [20] (fun i w9 => ∃ u : Nat, u ≤ j ∧ i = .int .i64 u ∧ Fr [] w8 w9) (fun i _ => j - (intOf i).toNat)
            case atStart => exact ⟨0, Nat.zero_le _, rfl, Fr.refl _ _⟩
            case round =>
              obtain ⟨u, huj, rfl, hf9⟩ := hrel
              have HF9 := Lib.hid hf9
              have HG9 := Lib.hid (HG8.out.trans hf9 (by simp))
              clear hf9
              by_cases hu : u < j
              · obtain ⟨x, y, s, z, h1, h2, h3, h4⟩ := HAP.out u hu
                obtain ⟨ba, oo, rfl, _, hba, hca⟩ := (HI78.out.fr HF9.out (by simp)) (by rw [HAL.out]; omega)
                obtain ⟨bb, ob', rfl, _, hbb, hcb⟩ := (HI8.out.fr HF9.out (by simp)) (by rw [HBL.out]; omega)
                obtain ⟨g', o', e', _, hgg, hcg⟩ := (HRB8.out.fr HF9.out (by simp)) (by rw [HTL.out]; omega)
                obtain ⟨rfl, rfl⟩ : g = g' ∧ 0 = o' := by injection e' with e'; injection e' with e1 e2; exact ⟨e1, e2⟩
                have hxj := HLT.out x _ h3
                have hyj := HLT2.out y _ h4
                have hk1 := hca u _ h1
                have hk2 := hcb u _ h2
                have hk3 : wr.cell? ⟨lb, lo + x * 2, none⟩ = some (.string s) := (HG9.out.cell (p := ⟨lb, _, none⟩) hlb (by simp)).trans (HLC.out x _ h3).1
                have hk4 : wr.cell? ⟨lb, lo + x * 2 + 1, none⟩ = some (.int .i64 z) := (HG9.out.cell (p := ⟨lb, _, none⟩) hlb (by simp)).trans (HLC.out x _ h3).2
                have hk56 := hcg y _ h4
                rw [Nat.zero_add] at hk56
                have HK := Lib.hid (And.intro hk1 (And.intro hk2 (And.intro hk3 (And.intro hk4 hk56))))
                clear h1 h2 h3 h4 hca hcb hcg e' hk1 hk2 hk3 hk4 hk56
                go_wp2_with fail
                refine wp_only (r30_wp lb lo j c g c4 ba oo c7 bb ob' c8 u x y s z wr hu (by omega) hxj hyj HK.out.1 HK.out.2.1 HK.out.2.2.1 HK.out.2.2.2.1 HK.out.2.2.2.2.1 HK.out.2.2.2.2.2 ?_)
                intro m d149 d150 d151 d152 d153 d154 d155 d156 d157 d158 d159 d160 d161 d162 d163 d164 d165 d166 d167 d168 d169 d170 d171 d172 d173 d174 d175 d176 d177 d178 d179 d180 d181 d182 d183 d184 d185 d186 d187 d188 d189 d190 d191 d192 d193 d194
                go_wp2_with fail
                go_roundw
                case rel => exact ⟨u + 1, by omega, by go_num, HF9.out.drewN _⟩
                case measure => simp [intOf]; omega
              · obtain rfl : u = j := by omega
                go_wp2_with fail
                go_ret
                exact ⟨rfl, HG9.out⟩

theorem row_law_calls (key : List Int) (A : Option Addr) (ca : Nat) (l : List (ByteArray × Int)) (B : Option Addr) (c : Nat) (which : Int) (back : Bool) (w : World) (hX : BytesAt w A key (fun _ => True)) (hb : Byts key) (h : RunsAt w B l (fun _ => True)) (hkl : key.length ≤ 9223372036854775807) (hl : l.length * 24 ≤ 140737488355328) (hz : ∀ r ∈ l, r.1.size ≤ 9223372036854775807) (hw : ∀ r ∈ l, -9223372036854775808 ≤ r.2 ∧ r.2 ≤ 9223372036854775807) :
    Calls Try.prog 7 #[.slice A key.length ca, .slice B l.length c, .int .i64 which, .bool back] w fun e w' => e = .returned (.bool true) ∧ Fr [] w w' := by
  cases hg : greatL key l with
  | true => exact row_yes key A ca l B c which back w h hkl hl hz (.inl hg)
  | false =>
    rcases Nat.eq_zero_or_pos l.length with h0 | h0
    · exact row_yes key A ca l B c which back w h hkl hl hz (.inr ⟨hg, h0⟩)
    · exact row_good key A ca l B c which back w hX hb h hkl hl hz hw hg h0

end Go.Proofs.Ytkioniffgmalgaa
