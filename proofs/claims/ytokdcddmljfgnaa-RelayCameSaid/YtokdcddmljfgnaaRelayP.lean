/-
  The relay's Put, and New, by their contracts.
-/
import Derived.Test.YtokdcddmljfgnaaRelayG
namespace Go.Proofs.Ytokdcddmljfgnaa
open Go.RowKit Go.Shelf
set_option linter.unusedVariables false

theorem cutA_zero (A : Option Addr) (c : Nat) : cutA A c 0 = A := by
  unfold cutA
  split
  · rfl
  · cases A with
    | none => rfl
    | some a => simp [Addr.add]

section
variable (p N : Nat) (r b : Nat → Nat) (S : Sta) (w : World)

set_option maxRecDepth 100000 in
set_option maxHeartbeats 2000000 in
theorem rlput_calls (s : Int) (i : Nat) (bs : List Int) (A : Option Addr) (c : Nat) (h : RelS w p r b N S) (hs : Sd s i) (hX : BytesAt w A bs (fun g => g ≠ r i ∧ g ≠ b i)) (hb : Byts bs) (hl : bs.length ≤ c) (hc : c ≤ 9223372036854775807) :
    Calls Try.prog 31 #[.pointer (some ⟨p, 0, none⟩), .int .i64 s, .slice A bs.length c] w fun e w' => e = .returned (.int .i64 (min bs.length (wn N S i) : Nat)) ∧ RelS w' p r b N (putS N S i bs) ∧ Fr [r i, b i] w w' := by
  have hc0 := h.cellR (i := 0) (.inl rfl)
  have hc3 := h.cellR (i := 1) (.inr rfl)
  simp only [Nat.reduceMul] at hc0 hc3
  have hlt := h.lt hs.side
  have hwn : min bs.length (wn N S i) + (S.x i).length ≤ N := by unfold wn; split <;> omega
  have HW := Lib.hid (rwants_calls p N r b S w s i h hs)
  have H := Lib.hid h
  have HP : Hid (∀ (w' : World), RingS w' (r i) (b i) N (S.x i ++ bs.take (min bs.length (wn N S i))) → Fr [r i, b i] w w' → RelS w' p r b N (putS N S i bs)) := Lib.hid (fun w' hR hf => h.ring_ hs.side hf (by simp) hR)
  have hZ : min bs.length (wn N S i) = 0 → putS N S i bs = S := fun h0 => by
    unfold putS; rw [h0]
    cases S with
    | mk x e t =>
      simp only [List.take_zero, List.append_nil, Sta.mk.injEq, and_true]
      funext j
      simp only [upd]
      split
      · subst_vars; rfl
      · rfl
  have HZ := Lib.hid hZ
  have HR := Lib.hid (h.ring i hs.side)
  have HX := Lib.hid hX
  have HB := Lib.hid hb
  obtain ⟨T, hT⟩ : ∃ T, putS N S i bs = T := ⟨_, rfl⟩
  obtain ⟨q, hq⟩ : ∃ q, wn N S i = q := ⟨_, rfl⟩
  obtain ⟨xs, hxs⟩ : ∃ xs, S.x i = xs := ⟨_, rfl⟩
  rw [hT, hq] at HZ
  rw [hT, hq, hxs] at HP
  rw [hxs] at HR
  rw [hq] at HW
  rw [hxs, hq] at hwn
  rw [hxs] at hlt
  rw [hT, hq]
  clear h hX hb hZ hT hq hxs
  obtain ⟨n, hn⟩ : ∃ n, min bs.length q = n := ⟨_, rfl⟩
  rw [hn] at HP HZ hwn ⊢
  have hnb : n ≤ bs.length := by omega
  have hD : Fr [] w w.drew := (Fr.refl [] w).drew
  have hpf := put_fit (r i) (b i) N n xs ((bs.drop 0).take n) (cutA A c 0) c w.drew (HR.out.fr hD (by simp) (by simp)) ((cut_at HX.out (by omega) hl).fr hD (by simp)) ((HB.out.drop 0).take n) (by simp; omega) (by omega) hc (by omega)
  rw [List.drop_zero] at hpf
  have hpf2 : Calls Try.prog 13 #[.pointer (some ⟨r i, 0, none⟩), .slice (cutA A c 0) n c] w.drew fun e w' => e = .returned (.int .i64 n) ∧ RelS w' p r b N T ∧ Fr [r i, b i] w w' ∧ w'.cell? ⟨p, 0, none⟩ = some (.pointer (some ⟨r 0, 0, none⟩)) ∧ w'.cell? ⟨p, 3, none⟩ = some (.pointer (some ⟨r 1, 0, none⟩)) := by
    refine hpf.mono ?_
    rintro e w' ⟨rfl, hR, hf⟩
    have hf' : Fr [r i, b i] w w' := (hD.mono (L := [r i, b i]) (by simp)).trans hf (by simp)
    have hrs := HP.out w' hR hf'
    exact ⟨rfl, hrs, hf', hrs.cellR (i := 0) (.inl rfl), hrs.cellR (i := 1) (.inr rfl)⟩
  have HPF := Lib.hid hpf2
  have HHD := Lib.hid (H.out.fr0 hD)
  have hC0 : w.drew.cell? ⟨p, 0, none⟩ = some (.pointer (some ⟨r 0, 0, none⟩)) := hc0
  have hC3 : w.drew.cell? ⟨p, 3, none⟩ = some (.pointer (some ⟨r 1, 0, none⟩)) := hc3
  clear hpf hpf2 hD hwn
  rcases (by omega : q < bs.length ∧ n = q ∨ bs.length ≤ q ∧ n = bs.length) with ⟨hc1, hnq⟩ | ⟨hc1, hnq⟩
  · have hc2 : (q : Int) < bs.length := by omega
    subst hnq
    clear hn
    rcases Nat.eq_zero_or_pos n with h0 | h0
    · subst h0
      rcases hs with ⟨rfl, rfl⟩ | ⟨rfl, rfl⟩
      all_goals
        go_enter Try.func31, Try.ntmps31
        go_wp2_with fail
        refine HW.out.mono ?_
        rintro e w1 ⟨rfl, rfl⟩
        go_wp2_with fail
        go_ret
        exact ⟨rfl, by rw [HZ.out (by simp)]; exact H.out, Fr.refl _ _⟩
    · have hn0 : ((n : Int) == 0) = false := by simp; omega
      have hn1 : ¬ n = 0 := by omega
      have hsl := fun wx => slice_h A bs.length c n (by omega) wx
      rcases hs with ⟨rfl, rfl⟩ | ⟨rfl, rfl⟩
      all_goals
        go_enter Try.func31, Try.ntmps31
        go_wp2_with fail
        refine HW.out.mono ?_
        rintro e w1 ⟨rfl, rfl⟩
        go_wp2_with fail
        go_region_held3 (fun w' => w'.cell? ⟨p, 0, none⟩ = some (.pointer (some ⟨r 0, 0, none⟩)) ∧ w'.cell? ⟨p, 3, none⟩ = some (.pointer (some ⟨r 1, 0, none⟩))) (first | exact ⟨hC0, hC3⟩ | exact ⟨hE0, hE3⟩) (first
          | (go_at_call 48; (first | (with_reducible refine (from_zero _ _ _ _ _ _ _ w.drew HHD.out.relC).mono ?_) | (with_reducible refine (from_one _ _ _ _ _ _ _ w.drew HHD.out.relC).mono ?_)); rintro e w1 ⟨rfl, rfl⟩)
          | (go_at_call 13; (with_reducible refine HPF.out.mono ?_); rintro e w2 ⟨rfl, hR2, hf2, hE0, hE3⟩; have HRS := Lib.hid hR2; have HF2 := Lib.hid hf2; clear hR2 hf2))
        go_wp2_with fail
        go_ret
        exact ⟨rfl, HRS.out, HF2.out⟩
  · have hc2 : ¬ (q : Int) < bs.length := by omega
    subst hnq
    clear hn
    obtain ⟨n, hn⟩ : ∃ n, bs.length = n := ⟨_, rfl⟩
    rw [hn] at HP HZ HPF hc2 hnb hl ⊢
    rw [cutA_zero] at HPF
    have HN := Lib.hid hn
    clear hn
    rcases Nat.eq_zero_or_pos n with h0 | h0
    · subst h0
      rcases hs with ⟨rfl, rfl⟩ | ⟨rfl, rfl⟩
      all_goals
        go_enter Try.func31, Try.ntmps31
        go_wp2_with fail
        refine HW.out.mono ?_
        rintro e w1 ⟨rfl, rfl⟩
        go_wp2_with fail
        go_ret
        exact ⟨rfl, by rw [HZ.out (by simp)]; exact H.out, Fr.refl _ _⟩
    · have hn0 : ((n : Int) == 0) = false := by simp; omega
      have hn1 : ¬ n = 0 := by omega
      rcases hs with ⟨rfl, rfl⟩ | ⟨rfl, rfl⟩
      all_goals
        go_enter Try.func31, Try.ntmps31
        go_wp2_with fail
        refine HW.out.mono ?_
        rintro e w1 ⟨rfl, rfl⟩
        go_wp2_with fail
        go_region_held3 (fun w' => w'.cell? ⟨p, 0, none⟩ = some (.pointer (some ⟨r 0, 0, none⟩)) ∧ w'.cell? ⟨p, 3, none⟩ = some (.pointer (some ⟨r 1, 0, none⟩))) (first | exact ⟨hC0, hC3⟩ | exact ⟨hE0, hE3⟩) (first
          | (go_at_call 48; (first | (with_reducible refine (from_zero _ _ _ _ _ _ _ w.drew HHD.out.relC).mono ?_) | (with_reducible refine (from_one _ _ _ _ _ _ _ w.drew HHD.out.relC).mono ?_)); rintro e w1 ⟨rfl, rfl⟩)
          | (go_at_call 13; (with_reducible refine HPF.out.mono ?_); rintro e w2 ⟨rfl, hR2, hf2, hE0, hE3⟩; have HRS := Lib.hid hR2; have HF2 := Lib.hid hf2; clear hR2 hf2))
        go_wp2_with fail
        go_ret
        exact ⟨rfl, HRS.out, HF2.out⟩

end
end Go.Proofs.Ytokdcddmljfgnaa
