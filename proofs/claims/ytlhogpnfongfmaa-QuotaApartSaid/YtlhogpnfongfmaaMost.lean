/-
  QuotaMost's walk.
-/
import Derived.Test.YtlhogpnfongfmaaGreat
import Derived.Test.YtlhogpnfongfmaaAwake
namespace Go.Proofs.Ytlhogpnfongfmaa
open Go.RowKit Go.Maps

theorem greatB_false {l : List ActD} (h : greatB l = false) : l.length ≤ 200 ∧ ∀ (i : Nat) (a : ActD), l[i]? = some a → a.name.size ≤ 50 := by
  unfold greatB at h
  simp only [Bool.or_eq_false_iff, decide_eq_false_iff_not, List.any_eq_false, decide_eq_true_eq] at h
  exact ⟨by omega, fun i a ha => by have := h.2 a (List.mem_of_getElem? ha); omega⟩

theorem upd_at (f : Bs → Nat) (s : Bs) (v : Nat) : upd f s v s = v := by simp [upd]

theorem upd_le {f : Bs → Nat} {b : Int} {s : Bs} {v : Nat} (h : ∀ t, (f t : Int) ≤ b) (hv : (v : Int) ≤ b) : ∀ t, (upd f s v t : Int) ≤ b := by
  intro t; have := h t; unfold upd; split <;> omega

set_option maxHeartbeats 1000000 in
theorem most_calls (A : Option Addr) (c : Nat) (l : List ActD) (most : Int) (w : World) (h : Acts w w.heap.size A l) (hl : l.length ≤ 9223372036854775807) (hm : -9223372036854775808 ≤ most ∧ most ≤ 9223372036854775807) :
    Calls Try.prog 3 #[.slice A l.length c, .int .i64 most] w fun e w' => e = .returned (.bool true) ∧ Fr [] w w' := by
  obtain ⟨hm1, hm2⟩ := hm
  have HG := fun W (hW : Acts W w.heap.size A l) => great_calls A c l w.heap.size W hW hl
  cases hg : greatB l with
  | true =>
    rw [hg] at HG
    have HG := Lib.hid HG; have hg := Lib.hid hg
    go_enter Try.func3, Try.ntmps3
    go_wp2_with fail
    refine (awake_calls w).mono ?_
    rintro e w1 ⟨rfl, hf1⟩
    go_wp2_with fail
    refine (HG.out _ (h.fr hf1 (Nat.le_refl _) (by simp))).mono ?_
    rintro e w2 ⟨rfl, rfl⟩
    go_wp2_with fail
    go_ret
    exact ⟨rfl, hf1⟩
  | false =>
    obtain ⟨hlen, hnames⟩ := greatB_false hg
    rw [hg] at HG
    have HG := Lib.hid HG; have hg := Lib.hid hg; have HN := Lib.hid hnames
    clear hnames
    go_enter Try.func3, Try.ntmps3
    go_wp2_with fail
    refine (awake_calls w).mono ?_
    rintro e w1 ⟨rfl, hf1⟩
    go_wp2_with fail
    refine (HG.out _ (h.fr hf1 (Nat.le_refl _) (by simp))).mono ?_
    rintro e w2 ⟨rfl, rfl⟩
    go_wp2_with fail
    refine (new_calls _).mono ?_
    rintro e w2 ⟨q, m, rfl, h0, hf2, hq, hm⟩
    go_wp2_with fail
    have hmw : ∀ x ∈ [m], x ∈ ([] : List Nat) ∨ w.heap.size ≤ x := by have := hf1.size; simp; omega
    have hfw := hf1.trans hf2 (by simp)
    go_loopw [6] (fun i wr => ∃ (k : Nat) (f : Bs → Nat), k ≤ l.length ∧ i = .int .i64 k ∧ QAt wr q m k f ∧ (∀ s, (f s : Int) ≤ max most 0) ∧ Fr [] w wr) (fun i _ => l.length - (intOf i).toNat)
    case atStart => exact ⟨0, _, Nat.zero_le _, rfl, h0, fun _ => by simp; omega, hfw⟩
    case round =>
      obtain ⟨k, f, hk, rfl, hQ, hmax, hfr⟩ := hrel
      by_cases hlt : k < l.length
      · obtain ⟨b, off, rfl, hb, hc⟩ := (h.fr hfr (Nat.le_refl _) (by simp)) (by omega)
        obtain ⟨⟨g, nm, mo⟩, ha⟩ : ∃ a, l[k]? = some a := ⟨_, List.getElem?_eq_getElem hlt⟩
        obtain ⟨c0, c1, c2⟩ := hc k _ ha
        have hns := HN.out k _ ha
        have hs : nm.size ≤ maxLen := by unfold maxLen; simp only at hns; omega
        have hmx := hmax nm.data.toList
        have hfn : f nm.data.toList ≤ k := by obtain ⟨D, _, _, _, h4⟩ := hQ.map; exact h4 _
        simp only at c0 c1 c2
        have HMX := Lib.hid hmax
        clear hc ha hmax
        cases g with
        | true =>
          have hgv := give_any q m k f nm hs _ hQ (by omega)
          by_cases hp : 0 < f nm.data.toList
          · rw [decide_eq_true hp] at hgv
            have HGV := Lib.hid hgv; clear hgv
            go_wp2_with fail
            refine (many_calls q m k f nm hs _ hQ).mono ?_
            rintro e w3 ⟨rfl, rfl⟩
            go_wp2_with fail
            refine HGV.out.mono ?_
            rintro e w3 ⟨rfl, hQ3, hf3⟩
            go_wp2_with fail
            have hmn := many_calls q m (k + 1) _ nm hs _ hQ3
            rw [giveF, upd_at, show ((f nm.data.toList - 1 : Nat) : Int) = (f nm.data.toList : Int) - 1 from by omega] at hmn
            refine hmn.mono ?_
            rintro e w4 ⟨rfl, rfl⟩
            go_wp2_with fail
            go_roundw
            case rel => exact ⟨k + 1, _, by omega, by go_num, hQ3, upd_le HMX.out (by omega), hfr.trans hf3 hmw⟩
            case measure => simp [intOf]; omega
          · have h0 : f nm.data.toList = 0 := by omega
            rw [decide_eq_false hp] at hgv
            have hmy := many_calls q m k f nm hs _ hQ
            rw [h0] at hmy
            have HMY := Lib.hid hmy; clear hmy
            have HGV := Lib.hid hgv; clear hgv
            have H0 := Lib.hid h0; clear h0
            go_wp2_with fail
            refine HMY.out.mono ?_
            rintro e w3 ⟨rfl, rfl⟩
            go_wp2_with fail
            refine HGV.out.mono ?_
            rintro e w3 ⟨rfl, hQ3, hf3⟩
            go_wp2_with fail
            have hmn := many_calls q m (k + 1) _ nm hs _ hQ3
            rw [giveF, upd_at, H0.out] at hmn
            refine hmn.mono ?_
            rintro e w4 ⟨rfl, rfl⟩
            go_wp2_with fail
            all_goals go_roundw
            case rel => exact ⟨k + 1, _, by omega, by go_num, hQ3, upd_le HMX.out (by omega), hfr.trans hf3 hmw⟩
            case measure => simp [intOf]; omega
        | false =>
          have htv := take_any q m k f nm hs most _ hQ (by omega)
          by_cases hp : (f nm.data.toList : Int) < most
          · rw [decide_eq_true hp, takeF, if_pos hp] at htv
            have HTV := Lib.hid htv; clear htv
            go_wp2_with fail
            refine (many_calls q m k f nm hs _ hQ).mono ?_
            rintro e w3 ⟨rfl, rfl⟩
            go_wp2_with fail
            refine HTV.out.mono ?_
            rintro e w3 ⟨rfl, hQ3, hf3⟩
            go_wp2_with fail
            have hmn := many_calls q m (k + 1) _ nm hs _ hQ3
            rw [upd_at, show ((f nm.data.toList + 1 : Nat) : Int) = (f nm.data.toList : Int) + 1 from by omega] at hmn
            refine hmn.mono ?_
            rintro e w4 ⟨rfl, rfl⟩
            go_wp2_with fail
            all_goals go_roundw
            case rel => exact ⟨k + 1, _, by omega, by go_num, hQ3, upd_le HMX.out (by omega), hfr.trans hf3 hmw⟩
            case measure => simp [intOf]; omega
          · rw [decide_eq_false hp, takeF, if_neg hp] at htv
            have HTV := Lib.hid htv; clear htv
            go_wp2_with fail
            refine (many_calls q m k f nm hs _ hQ).mono ?_
            rintro e w3 ⟨rfl, rfl⟩
            go_wp2_with fail
            refine HTV.out.mono ?_
            rintro e w3 ⟨rfl, hQ3, hf3⟩
            go_wp2_with fail
            have hmn := many_calls q m (k + 1) _ nm hs _ hQ3
            refine hmn.mono ?_
            rintro e w4 ⟨rfl, rfl⟩
            go_wp2_with fail
            all_goals go_roundw
            case rel => exact ⟨k + 1, _, by omega, by go_num, hQ3, HMX.out, hfr.trans hf3 hmw⟩
            case measure => simp [intOf]; omega
      · go_wp2_with fail
        go_ret
        exact ⟨rfl, hfr⟩

end Go.Proofs.Ytlhogpnfongfmaa
