/-
  The reference relay's Take by its contract.
-/
import Derived.Test.YtokdcddmljfgnaaRfS
namespace Go.Proofs.Ytokdcddmljfgnaa
open Go.RowKit Go.Shelf
set_option linter.unusedVariables false

section
variable (q base N : Nat) (v : Nat → Value) (S : Sta) (w : World)

theorem rftake_off (s k : Int) (hs : s < 0 ∨ 2 ≤ s) : Calls Try.prog 40 #[.pointer (some ⟨q, 0, none⟩), .int .i64 s, .int .i64 k] w fun e w' => e = .returned (.slice none 0 0) ∧ w = w' := by
  have HY := Lib.hid (side_no s w hs)
  go_enter Try.func40, Try.ntmps40
  clear hs
  go_wp2_with fail
  refine HY.out.mono ?_
  rintro e w1 ⟨rfl, rfl⟩
  go_wp2_with fail
  go_ret
  exact ⟨rfl, rfl⟩

theorem takeS_none {S : Sta} {i : Nat} {k : Int} (h : takeN S i k = 0) : takeS S i k = S := by
  unfold takeS; rw [h]
  cases S with
  | mk x e t =>
    simp only [List.drop_zero, Sta.mk.injEq, and_true]
    funext j
    simp only [upd]
    split
    · subst_vars; rfl
    · rfl

theorem RfS.setV {w : World} {q base N i : Nat} {v : Nat → Value} {S : Sta} (h : RfS w q base N v S) (hi : i = 0 ∨ i = 1) (u : Value) (ys : List Int) (hu : w.ownsRow base 5 1 u ys.length (bcells ys)) (hys : ys.length ≤ N) (hap : Apart u (v (1 - i))) :
    RfS (w.setCell ⟨q, 1 + i, none⟩ u) q base N (upd v i u) { S with x := upd S.x i ys } := by
  have hf : Fr [q] w (w.setCell ⟨q, 1 + i, none⟩ u) := (Fr.refl [q] w).setCell (.inl (by simp)) _
  have hu' := hf.own hu (fun g hg hm => by have := own_ge hu hg; have := h.lo.1; simp at hm; omega)
  have ho : ∀ j, j = 0 ∨ j = 1 → (w.setCell ⟨q, 1 + i, none⟩ u).ownsRow base 5 1 (v j) (S.x j).length (bcells (S.x j)) := fun j hj => hf.own (h.own j hj) (fun g hg hm => by have := (h.blocks hj hg).1; have := h.lo.1; simp at hm; omega)
  rcases hi with rfl | rfl
  · refine ⟨h.blk.set_ 1 u, fun j hj => ?_, by simpa [upd] using hap, ⟨h.lo.1, Nat.le_trans h.lo.2 hf.size⟩, fun j hj => ?_⟩
    · rcases hj with rfl | rfl
      · simpa [upd] using hu'
      · simpa [upd] using ho 1 (.inr rfl)
    · rcases hj with rfl | rfl
      · simpa [upd] using hys
      · simpa [upd] using h.len 1 (.inr rfl)
  · refine ⟨h.blk.set_ 2 u, fun j hj => ?_, by simpa [upd] using hap.symm, ⟨h.lo.1, Nat.le_trans h.lo.2 hf.size⟩, fun j hj => ?_⟩
    · rcases hj with rfl | rfl
      · simpa [upd] using ho 0 (.inl rfl)
      · simpa [upd] using hu'
    · rcases hj with rfl | rfl
      · simpa [upd] using h.len 0 (.inl rfl)
      · simpa [upd] using hys

theorem copy_rest (l m c' : Nat) (A' : Option Addr) (xs : List Int) (w2 : World) (h : RfS w q base N v S) (hf : Fr [] w w2) (hX : BytesAt w A' (xs.drop l) (fun _ => True)) (hm : (xs.drop l).length = m) (hml : m ≤ 4096) :
    Calls Try.prog 22 #[.slice A' m c'] w2.drew fun e w' => ∃ B2 c2, e = .returned (.slice B2 m c2) ∧ RfS w' q base N v S ∧ w'.ownsRow w2.heap.size 5 1 (.slice B2 m c2) m (bcells (xs.drop l)) ∧ Fr [] w2 w' ∧ Fr [] w w' ∧
      w'.cell? ⟨q, 0, none⟩ = some (.int .i64 N) ∧ w'.cell? ⟨q, 1, none⟩ = some (v 0) ∧ w'.cell? ⟨q, 2, none⟩ = some (v 1) ∧ w'.frozen? ⟨q, 1, none⟩ = false ∧ w'.frozen? ⟨q, 2, none⟩ = false := by
  have hD : Fr [] w2 w2.drew := (Fr.refl [] w2).drew
  refine (copy_calls m (xs.drop l) A' c' w2.drew hm ((hX.fr hf (by simp)).fr hD (by simp)) (by omega)).mono ?_
  rintro e w' ⟨u, rfl, hu, hf'⟩
  rw [hm] at hu
  obtain ⟨B2, c2, rfl⟩ := own_slice hu
  have hf2 := hD.trans hf' (by simp)
  have hr := h.fr0 (hf.trans hf2 (by simp))
  exact ⟨B2, c2, rfl, hr, hu, hf2, hf.trans hf2 (by simp), hr.cellN, hr.cellV (i := 0) (.inl rfl), hr.cellV (i := 1) (.inr rfl), hr.blk.frozen 1, hr.blk.frozen 2⟩

set_option maxRecDepth 100000 in
set_option maxHeartbeats 2000000 in
theorem rftake_calls (s k : Int) (i : Nat) (h : RfS w q base N v S) (hs : Sd s i) (hN : N ≤ 4096) (hk : -9223372036854775808 ≤ k ∧ k ≤ 9223372036854775807) :
    Calls Try.prog 40 #[.pointer (some ⟨q, 0, none⟩), .int .i64 s, .int .i64 k] w fun e w' => ∃ u, e = .returned u ∧ w'.ownsRow w.heap.size 5 1 u (takeN S i k) (bcells ((S.x (1 - i)).take (takeN S i k))) ∧
      ∃ v', RfS w' q base N v' (takeS S i k) ∧ (∀ j g, j = 0 ∨ j = 1 → (v' j).ownBlock = some g → (v j).ownBlock = some g ∨ w.heap.size ≤ g) ∧ Fr [q] w w' := by
  have hj : 1 - i = 0 ∨ 1 - i = 1 := by omega
  have hv := h.cellV hj
  have hz := h.blk.frozen (1 + (1 - i))
  have hl := h.len (1 - i) hj
  have ho := h.own (1 - i) hj
  obtain ⟨A, c, hA, _, hX, hc, hcm⟩ := own_form ho
  have HY := Lib.hid (side_yes s i w hs)
  have H := Lib.hid h
  obtain ⟨n, hn⟩ : ∃ n, takeN S i k = n := ⟨_, rfl⟩
  have hnk : n = min k.toNat (S.x (1 - i)).length := hn.symm
  have HZ : Hid (takeN S i k = 0 → takeS S i k = S) := Lib.hid takeS_none
  have hT : takeS S i k = { S with x := upd S.x (1 - i) ((S.x (1 - i)).drop n) } := by rw [← hn]; rfl
  have HTT := Lib.hid hT
  rw [hA] at hv
  rw [hn] at HZ ⊢
  obtain ⟨T, hT'⟩ : ∃ T, takeS S i k = T := ⟨_, rfl⟩
  rw [hT'] at HTT HZ ⊢
  clear hT hn hT'
  by_cases hk0 : k ≤ 0
  · have hd : decide (k ≤ 0) = true := by simp [hk0]
    have hn0 : n = 0 := by omega
    have HN0 := Lib.hid hn0
    clear hv hz hX ho hn0 hnk hA
    go_enter Try.func40, Try.ntmps40
    rcases hs with ⟨rfl, rfl⟩ | ⟨rfl, rfl⟩
    all_goals
      go_wp2_with fail
      refine HY.out.mono ?_
      rintro e w1 ⟨rfl, rfl⟩
      go_wp2_with fail
      go_ret
      refine ⟨_, rfl, by rw [HN0.out]; exact World.ownsRow_nil _ _ _ _, v, by rw [HZ.out HN0.out]; exact H.out, fun j g _ hg => .inl hg, Fr.refl _ _⟩
  · have hd : decide (k ≤ 0) = false := by simp; omega
    obtain ⟨kn, rfl⟩ : ∃ kn : Nat, k = kn := ⟨k.toNat, by omega⟩
    rw [Int.toNat_natCast] at hnk
    have hxB : ∀ (m l' : Nat), l' + m ≤ (S.x (1 - i)).length → BytesAt w (cutA A c l') (((S.x (1 - i)).drop l').take m) (base ≤ ·) := fun m l' hm => cut_at hX hm hc
    have HXB := Lib.hid hxB
    have hlo := h.lo
    have hbl : ∀ j g, j = 0 ∨ j = 1 → (v j).ownBlock = some g → g < w.heap.size := fun j g hj hg => (h.blocks hj hg).2
    have HBL := Lib.hid hbl
    have HSET := Lib.hid (fun (w' : World) (h' : RfS w' q base N v S) u ys h1 h2 h3 => h'.setV hj u ys h1 h2 h3)
    obtain ⟨xs, hxs⟩ : ∃ xs, S.x (1 - i) = xs := ⟨_, rfl⟩
    rw [hxs] at hX hl ho hv hnk HTT hc HXB ⊢
    clear hX ho hA h hxB hbl hxs
    have hcl : c ≤ 9223372036854775807 := by simp only [maxLen] at hcm; omega
    clear hcm
    rcases hs with ⟨rfl, rfl⟩ | ⟨rfl, rfl⟩
    all_goals
      simp only [Nat.reduceAdd, Nat.reduceSub] at hv hz HTT HSET
      rcases Nat.lt_or_ge xs.length kn with hc1 | hc1
      · obtain rfl : n = xs.length := by omega
        have hc2 : (xs.length : Int) < kn := by omega
        have hd2 : decide ((xs.length : Int) < kn) = true := by simp; omega
        clear hnk
        have hcp1 := copy_calls xs.length xs A c w rfl (by have := HXB.out xs.length 0 (by omega); rw [cutA_zero, List.drop_zero, List.take_length] at this; exact this.imp (fun _ _ _ => trivial)) (by omega)
        have HCP1 := Lib.hid hcp1
        have hsl2 := fun wx => slice_l A xs.length c xs.length (Nat.le_refl _) wx
        rw [Nat.sub_self] at hsl2
        clear hcp1
        go_enter Try.func40, Try.ntmps40
        go_wp2_with fail
        refine HY.out.mono ?_
        rintro e w1 ⟨rfl, rfl⟩
        go_wp2_with fail
        refine HCP1.out.mono ?_
        rintro e w2 ⟨u, rfl, hu, hf2⟩
        have HU := Lib.hid hu
        have HF2 := Lib.hid hf2
        have hz2 := hf2.size
        have HCP2 := Lib.hid (copy_rest q base N v S w xs.length 0 (c - xs.length) (cutA A c xs.length) xs w2 H.out hf2 (by have := HXB.out 0 xs.length (by omega); rw [List.take_of_length_le (by simp)] at this; exact this.imp (fun _ _ _ => trivial)) (by simp) (by omega))
        have hC0 : w2.drew.cell? ⟨q, 0, none⟩ = some (.int .i64 N) := (H.out.fr0 hf2).cellN
        clear hu hf2
        go_wp2_with fail
        have hw1 : IntKind.i64.wrap 1 = 1 := by decide
        have hw0 : IntKind.i64.wrap 0 = 0 := by decide
        have hw2 : IntKind.i64.wrap (1 - 0) = 1 := by decide
        have hw3 : IntKind.i64.wrap (1 - 1) = 0 := by decide
        go_region_held3 (fun w' => w'.cell? ⟨q, 0, none⟩ = some (.int .i64 N)) (first | exact hC0 | exact hC1 | exact (World.cell?_setCell_other _ _ _ _ (by simp)).trans hC1) (first
          | (go_at_call 22; (with_reducible refine HCP2.out.mono ?_); rintro e w3 ⟨B2, c2, rfl, hR3, hO3, hF3, hG3, hC1, hV1, hV2, hz1, hz2'⟩; have HR3 := Lib.hid hR3; have HO3 := Lib.hid hO3; have HF3 := Lib.hid hF3; have HG3 := Lib.hid hG3; clear hR3 hO3 hF3 hG3))
        have hln : (xs.drop xs.length).length = 0 := by simp
        have hap : ∀ j, j = 0 ∨ j = 1 → Apart (.slice B2 0 c2) (v j) := fun j hj g hg hg2 => by
          have h1 := own_ge HO3.out hg
          have h2 := HBL.out j g hj hg2
          omega
        have hset := HSET.out w3 HR3.out (.slice B2 0 c2) (xs.drop xs.length) (by rw [hln]; exact own_mono HO3.out (by omega)) (by omega) (hap _ (by simp))
        have hset' := HTT.out ▸ hset
        have HS := Lib.hid hset'
        have HOW := Lib.hid (fun (o : Nat) (u2 : Value) => Fr.own (L := [q]) ((Fr.refl [q] w3).setCell (p := ⟨q, o, none⟩) (.inl (by simp)) u2) (HF3.out.own HU.out (by simp)) (fun g hg hm => by have := own_ge HU.out hg; simp at hm; omega))
        have HG4 := Lib.hid (HG3.out.mono (L := [q]) (by simp))
        clear hset hset' hln hap hsl2
        go_wp2_with fail
        go_ret
        refine ⟨_, rfl, ?_, _, HS.out, fun j g hj hg => ?_, HG4.out.setCell (.inl (by simp)) _⟩
        · have := HOW.out
          rw [List.take_length] 
          exact this _ _
        · rcases hj with rfl | rfl
          all_goals
            simp [upd] at hg
            first
              | exact .inl hg
              | exact .inr (by have := own_ge HO3.out (g := g) (by simpa [Value.ownBlock] using hg); omega)
      · obtain rfl : n = kn := by omega
        have hc2 : ¬ (xs.length : Int) < n := by omega
        have hd2 : decide ((xs.length : Int) < n) = false := by simp; omega
        clear hnk
        have hlt : (xs.take n).length = n := by simp; omega
        have hcp1 := copy_calls n (xs.take n) (cutA A c 0) c w hlt (by have := HXB.out n 0 (by omega); rw [List.drop_zero] at this; exact this.imp (fun _ _ _ => trivial)) (by omega)
        rw [hlt] at hcp1
        have hsl1 := fun wx => slice_h A xs.length c n (by omega) wx
        have HCP1 := Lib.hid hcp1
        have hsl2 := fun wx => slice_l A xs.length c n (by omega) wx
        clear hcp1 hlt
        go_enter Try.func40, Try.ntmps40
        go_wp2_with fail
        refine HY.out.mono ?_
        rintro e w1 ⟨rfl, rfl⟩
        go_wp2_with fail
        refine HCP1.out.mono ?_
        rintro e w2 ⟨u, rfl, hu, hf2⟩
        have HU := Lib.hid hu
        have HF2 := Lib.hid hf2
        have hz2 := hf2.size
        have HCP2 := Lib.hid (copy_rest q base N v S w n (xs.length - n) (c - n) (cutA A c n) xs w2 H.out hf2 (by have := HXB.out (xs.length - n) n (by omega); rw [List.take_of_length_le (by simp)] at this; exact this.imp (fun _ _ _ => trivial)) (by simp) (by omega))
        have hC0 : w2.drew.cell? ⟨q, 0, none⟩ = some (.int .i64 N) := (H.out.fr0 hf2).cellN
        clear hu hf2
        go_wp2_with fail
        have hw1 : IntKind.i64.wrap 1 = 1 := by decide
        have hw0 : IntKind.i64.wrap 0 = 0 := by decide
        have hw2 : IntKind.i64.wrap (1 - 0) = 1 := by decide
        have hw3 : IntKind.i64.wrap (1 - 1) = 0 := by decide
        go_region_held3 (fun w' => w'.cell? ⟨q, 0, none⟩ = some (.int .i64 N)) (first | exact hC0 | exact hC1 | exact (World.cell?_setCell_other _ _ _ _ (by simp)).trans hC1) (first
          | (go_at_call 22; (with_reducible refine HCP2.out.mono ?_); rintro e w3 ⟨B2, c2, rfl, hR3, hO3, hF3, hG3, hC1, hV1, hV2, hz1, hz2'⟩; have HR3 := Lib.hid hR3; have HO3 := Lib.hid hO3; have HF3 := Lib.hid hF3; have HG3 := Lib.hid hG3; clear hR3 hO3 hF3 hG3))
        have hln : (xs.drop n).length = xs.length - n := by simp
        have hap : ∀ j, j = 0 ∨ j = 1 → Apart (.slice B2 (xs.length - n) c2) (v j) := fun j hj g hg hg2 => by
          have h1 := own_ge HO3.out hg
          have h2 := HBL.out j g hj hg2
          omega
        have hset := HSET.out w3 HR3.out (.slice B2 (xs.length - n) c2) (xs.drop n) (by rw [hln]; exact own_mono HO3.out (by omega)) (by omega) (hap _ (by simp))
        have hset' := HTT.out ▸ hset
        have HS := Lib.hid hset'
        have HOW := Lib.hid (fun (o : Nat) (u2 : Value) => Fr.own (L := [q]) ((Fr.refl [q] w3).setCell (p := ⟨q, o, none⟩) (.inl (by simp)) u2) (HF3.out.own HU.out (by simp)) (fun g hg hm => by have := own_ge HU.out hg; simp at hm; omega))
        have HG4 := Lib.hid (HG3.out.mono (L := [q]) (by simp))
        clear hset hset' hln hap hsl2 hsl1
        go_wp2_with fail
        go_ret
        refine ⟨_, rfl, ?_, _, HS.out, fun j g hj hg => ?_, HG4.out.setCell (.inl (by simp)) _⟩
        · have := HOW.out
          exact this _ _
        · rcases hj with rfl | rfl
          all_goals
            simp [upd] at hg
            first
              | exact .inl hg
              | exact .inr (by have := own_ge HO3.out (g := g) (by simpa [Value.ownBlock] using hg); omega)

end
end Go.Proofs.Ytokdcddmljfgnaa
