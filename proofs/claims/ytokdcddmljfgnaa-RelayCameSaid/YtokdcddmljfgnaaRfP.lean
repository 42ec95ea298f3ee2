/-
  The reference relay's Put by its contract.
-/
import Derived.Test.YtokdcddmljfgnaaRfT
import Derived.Test.YtokdcddmljfgnaaRefPut
import Derived.Deep.RegionLaw
namespace Go.Proofs.Ytokdcddmljfgnaa
open Go.RowKit Go.Shelf
set_option linter.unusedVariables false

theorem upd_upd {α : Type} (f : Nat → α) (i : Nat) (a b : α) : upd (upd f i a) i b = upd f i b := by
  funext j; simp only [upd]; split <;> rfl
theorem upd_self {α : Type} (f : Nat → α) (i : Nat) : upd f i (f i) = f := by
  funext j; simp only [upd]; split
  · subst_vars; rfl
  · rfl

/-- The state when n of bs have come from side i. -/
def stN (S : Sta) (i : Nat) (bs : List Int) (n : Nat) : Sta := { S with x := upd S.x i (S.x i ++ bs.take n) }
theorem stN_zero (S : Sta) (i : Nat) (bs : List Int) : stN S i bs 0 = S := by
  cases S with
  | mk x e t => simp [stN, upd_self]
theorem stN_x (S : Sta) (i : Nat) (bs : List Int) (n : Nat) : (stN S i bs n).x i = S.x i ++ bs.take n := upd_same _ _ _
theorem stN_wn {N : Nat} {S : Sta} {i : Nat} {bs : List Int} {n : Nat} (hn : n ≤ bs.length) : wn N (stN S i bs n) i = if S.e i then 0 else N - ((S.x i).length + n) := by
  unfold wn
  rw [stN_x]
  simp [stN, Nat.min_eq_left hn]

theorem rf_cellV {w : World} {q N i : Nat} {v : Nat → Value} {S : Sta} (h : Blk w q 82 (rfCells N v S)) (hi : i = 0 ∨ i = 1) : w.cell? ⟨q, 1 + i, none⟩ = some (v i) := by
  rcases hi with rfl | rfl
  · exact h.cell 1
  · exact h.cell 2
theorem RfS.mk2 {w : World} {q base N i : Nat} {v : Nat → Value} {S : Sta} (hb : Blk w q 82 (rfCells N v S)) (hi : i = 0 ∨ i = 1) (u : Value) (ys : List Int) (hu : w.ownsRow base 5 1 u ys.length (bcells ys))
    (ho : w.ownsRow base 5 1 (v (1 - i)) (S.x (1 - i)).length (bcells (S.x (1 - i)))) (hap : Apart u (v (1 - i))) (hlo : q < base ∧ base ≤ w.heap.size) (hys : ys.length ≤ N) (hl : (S.x (1 - i)).length ≤ N) :
    RfS (w.setCell ⟨q, 1 + i, none⟩ u) q base N (upd v i u) { S with x := upd S.x i ys } := by
  have hf : Fr [q] w (w.setCell ⟨q, 1 + i, none⟩ u) := (Fr.refl [q] w).setCell (.inl (by simp)) _
  have hu' := hf.own hu (fun g hg hm => by have := own_ge hu hg; simp at hm; omega)
  have ho' := hf.own ho (fun g hg hm => by have := own_ge ho hg; simp at hm; omega)
  rcases hi with rfl | rfl
  · refine ⟨hb.set_ 1 u, fun j hj => ?_, by simpa [upd] using hap, ⟨hlo.1, Nat.le_trans hlo.2 hf.size⟩, fun j hj => ?_⟩
    · rcases hj with rfl | rfl
      · simpa [upd] using hu'
      · simpa [upd] using ho'
    · rcases hj with rfl | rfl
      · simpa [upd] using hys
      · simpa [upd] using hl
  · refine ⟨hb.set_ 2 u, fun j hj => ?_, by simpa [upd] using hap.symm, ⟨hlo.1, Nat.le_trans hlo.2 hf.size⟩, fun j hj => ?_⟩
    · rcases hj with rfl | rfl
      · simpa [upd] using ho'
      · simpa [upd] using hu'
    · rcases hj with rfl | rfl
      · simpa [upd] using hl
      · simpa [upd] using hys

theorem RfS.apartI {w : World} {q base N i : Nat} {v : Nat → Value} {S : Sta} (h : RfS w q base N v S) (hi : i = 0 ∨ i = 1) : Apart (v i) (v (1 - i)) := by
  rcases hi with rfl | rfl
  · exact h.apart
  · exact h.apart.symm
theorem stN_step (S : Sta) (i : Nat) (bs : List Int) (n : Nat) : ({ stN S i bs n with x := upd (stN S i bs n).x i (S.x i ++ bs.take (n + 1)) } : Sta) = stN S i bs (n + 1) := by
  simp [stN, upd_upd]

theorem blk_own {w : World} {base : Nat} {e : TypeId} {n : Nat} {A : Option Addr} {c : Nat} {xs : List Value} (h : w.ownsRow base e 1 (.slice A n c) n xs) : ∀ g, (Value.slice A n c).ownBlock = some g → base ≤ g := fun g hg => own_ge h hg

section
variable (q base N : Nat) (v : Nat → Value) (S : Sta) (w : World)

theorem rfput_off (s : Int) (A : Option Addr) (len c : Nat) (hs : s < 0 ∨ 2 ≤ s) (hl : len ≤ 9223372036854775807) : Calls Try.prog 39 #[.pointer (some ⟨q, 0, none⟩), .int .i64 s, .slice A len c] w fun e w' => e = .returned (.int .i64 0) ∧ w = w' := by
  have HY := Lib.hid (rfwants_off q w s hs)
  rcases Nat.eq_zero_or_pos len with h0 | h0
  · subst h0
    go_enter Try.func39, Try.ntmps39
    clear hs
    go_wp2_with fail
    refine wp_loop_rounds 1 ?_
    rw [rounds_succ]
    go_wp2_with fail
    go_ret
    exact ⟨rfl, rfl⟩
  · have hd : decide ((0 : Int) < len) = true := by simp; omega
    have hd2 : (0 : Int) < len := by omega
    go_enter Try.func39, Try.ntmps39
    clear hs
    go_wp2_with fail
    refine wp_loop_rounds 1 ?_
    rw [rounds_succ]
    go_wp2_with fail
    refine HY.out.mono ?_
    rintro e w1 ⟨rfl, rfl⟩
    go_wp2_with fail
    go_ret
    exact ⟨rfl, rfl⟩

set_option maxRecDepth 100000 in
set_option maxHeartbeats 4000000 in
theorem rfput_calls (s : Int) (i : Nat) (bs : List Int) (A : Option Addr) (c : Nat) (h : RfS w q base N v S) (hs : Sd s i) (hN : N ≤ 4096)
    (hX : BytesAt w A bs (fun b => b ≠ q ∧ (v i).ownBlock ≠ some b)) (hl : bs.length ≤ 9223372036854775807) :
    Calls Try.prog 39 #[.pointer (some ⟨q, 0, none⟩), .int .i64 s, .slice A bs.length c] w fun e w' => e = .returned (.int .i64 (min bs.length (wn N S i) : Nat)) ∧
      ∃ u, RfS w' q base N (upd v i u) (putS N S i bs) ∧ (u.ownBlock = (v i).ownBlock ∨ ∃ g, u.ownBlock = some g ∧ w.heap.size ≤ g) ∧ Fr (q :: (v i).ownBlock.toList) w w' := by
  obtain ⟨m, hm⟩ : ∃ m, min bs.length (wn N S i) = m := ⟨_, rfl⟩
  have hm2 : m = min bs.length (if S.e i then 0 else N - (S.x i).length) := hm.symm
  have hP : putS N S i bs = stN S i bs m := by rw [← hm]; rfl
  rw [hP, hm]
  obtain ⟨i0, hi, hz0, hz1, hz2⟩ := info_parts info5
  have HI := Lib.hid hs.side
  have HX := Lib.hid hX
  have H := Lib.hid h
  have hbw := h.lo
  have HW := Lib.hid (fun (n : Nat) (wr : World) (v' : Nat → Value) (hn : n ≤ bs.length) (h' : RfS wr q base N v' (stN S i bs n)) => (stN_wn (N := N) (S := S) (i := i) hn) ▸ rfwants_calls q base N v' (stN S i bs n) wr s i h' hs hN)
  have hxl := h.len i hs.side
  have HAP : Hid (∀ g, (v (1 - i)).ownBlock = some g → base ≤ g ∧ g < w.heap.size ∧ (v i).ownBlock ≠ some g) := Lib.hid (fun g hg => ⟨(h.blocks (by omega) hg).1, (h.blocks (by omega) hg).2, by
    rcases hs.side with rfl | rfl
    · exact fun h' => h.apart g h' hg
    · exact fun h' => h.apart g hg h'⟩)
  obtain ⟨ei, hei⟩ : ∃ ei, S.e i = ei := ⟨_, rfl⟩
  obtain ⟨xs, hxs⟩ : ∃ xs, S.x i = xs := ⟨_, rfl⟩
  rw [hei] at hm2
  rw [hxs] at hm2 hxl
  have HXS := Lib.hid hxs
  have HE := Lib.hid hei
  clear hX h hm hP hei hxs
  have hi2 : i < 2 := by have := hs.side; omega
  obtain rfl : s = (i : Int) := by rcases hs with ⟨rfl, rfl⟩ | ⟨rfl, rfl⟩ <;> rfl
  have hi3 : (i : Int) < 2 := by omega
  have hi4 : (0 : Int) ≤ (i : Int) := by omega
  clear hs
  go_enter Try.func39, Try.ntmps39
  go_wp2_with fail
  go_loopw [7] (fun s7 wr => ∃ (n : Nat) (u : Value), n ≤ m ∧ s7 = .int .i64 n ∧ RfS wr q base N (upd v i u) (stN S i bs n) ∧ (u.ownBlock = (v i).ownBlock ∨ ∃ g, u.ownBlock = some g ∧ w.heap.size ≤ g) ∧ Fr (q :: (v i).ownBlock.toList) w wr) (fun s7 _ => m - (intOf s7).toNat)
  case atStart => exact ⟨0, v i, by omega, rfl, by rw [upd_self, stN_zero]; exact H.out, .inl rfl, Fr.refl _ _⟩
  case round =>
    obtain ⟨n, u, hn, rfl, hR, hur, hfr⟩ := hrel
    have hnb : n ≤ bs.length := by rw [hm2] at hn; omega
    have hwt := HW.out n wr _ hnb hR
    have hv := hR.cellV HI.out
    rw [upd_same] at hv
    have ho := hR.own i HI.out
    rw [upd_same, stN_x, HXS.out] at ho
    have hln : (xs ++ bs.take n).length = xs.length + n := by simp; omega
    rw [hln] at ho
    obtain ⟨U, cu, rfl⟩ := own_slice ho
    rw [HE.out, HXS.out] at hwt
    have HR := Lib.hid hR
    have HUR := Lib.hid hur
    have HFR := Lib.hid hfr
    have HO := Lib.hid ho
    obtain ⟨wq, hwq⟩ : ∃ wq, (if ei = true then 0 else N - (xs.length + n)) = wq := ⟨_, rfl⟩
    rw [hwq] at hwt
    have HWT := Lib.hid hwt
    have HWQ := Lib.hid hwq
    clear hR hur hfr ho hln hwt hwq
    by_cases hlt : n < m
    · have hd1 : decide ((n : Int) < bs.length) = true := by simp; omega
      have hd3 : (n : Int) < bs.length := by omega
      have hq0 : 0 < wq := by
        rw [← HWQ.out]; rw [hm2] at hlt
        split
        · rename_i h; simp [h] at hlt
        · rename_i h; simp [h] at hlt; omega
      have hxn : xs.length + n + 1 ≤ N := by
        rw [hm2] at hlt
        split at hlt
        · omega
        · omega
      have hq1 : decide ((0 : Int) < wq) = true := by simp; omega
      have hq2 : (0 : Int) < wq := by omega
      obtain ⟨b, o, rfl, hbn, hbl, hce⟩ := HX.out (by omega)
      have hbn2 : b ∉ (q :: (v i).ownBlock.toList) := by
        simp only [List.mem_cons, Option.mem_toList, not_or]
        exact ⟨hbn.1, fun h => hbn.2 h⟩
      have hx2 := (HFR.out.cell (p := ⟨b, o + n, none⟩) hbl hbn2).trans (hce n (by omega))
      obtain ⟨x, hxe⟩ : ∃ x, bs.getD n 0 = x := ⟨_, rfl⟩
      rw [hxe] at hx2
      have hsuc : bs.take (n + 1) = bs.take n ++ [x] := by
        rw [List.take_add_one, ← hxe, List.getD_eq_getElem?_getD, List.getElem?_eq_getElem (by omega)]; rfl
      have HSU := Lib.hid hsuc
      have hbw2 := HFR.out.size
      clear hsuc hce hxe
      go_wp2_with fail
      refine HWT.out.mono ?_
      rintro e w1 ⟨rfl, hf1⟩
      have hx3 : w1.cell? ⟨b, o + n, none⟩ = some (.int .u8 x) := (hf1.cell (p := ⟨b, o + n, none⟩) (by simp; omega) (by simp)).trans hx2
      have hfd : Fr [] w1 (w1.drew.alloc (.cells #[.int .u8 x] 5)) := ((Fr.refl [] w1).drew).alloc _
      have hfw : Fr [] wr (w1.drew.alloc (.cells #[.int .u8 x] 5)) := hf1.trans hfd (by simp)
      have HRD : Hid (Reads (w1.drew.alloc (.cells #[.int .u8 x] 5)) (w1.heap.size + 1) 1 (some ⟨w1.heap.size, 0, none⟩) 1 [.int .u8 x]) := Lib.hid ⟨rfl, fun _ => ⟨_, rfl, by simp, cell_one_new w1.drew _ _⟩⟩
      have HOR := Lib.hid (hfw.own HO.out (by simp))
      have HRR := Lib.hid (HR.out.fr0 hfw)
      have hsz1 := hf1.size
      have hv1 : w1.cell? ⟨q, 1 + i, none⟩ = some (.slice U (xs.length + n) cu) := by have := (HR.out.fr0 hf1).cellV HI.out; rw [upd_same] at this; exact this
      have hv2 : (w1.drew.alloc (.cells #[.int .u8 x] 5)).cell? ⟨q, 1 + i, none⟩ = some (.slice U (xs.length + n) cu) := by have := HRR.out.cellV HI.out; rw [upd_same] at this; exact this
      have hv3 : (w1.alloc (.cells #[.int .u8 x] 5)).cell? ⟨q, 1 + i, none⟩ = some (.slice U (xs.length + n) cu) := hv2
      have HGU : Hid (∀ g, (Value.slice U (xs.length + n) cu).ownBlock = some g → base ≤ g) := Lib.hid (fun g hg => own_ge HO.out hg)
      clear hf1 hfd
      go_wp2_with fail
      go_region_law (first
        | (refine step_append_any _ rfl (.tmp 25) (.tmp 30) _ rfl base 5 i0 _ 1 1 Try.underlying22 hi hz0 hz1 hz2 rfl (by omega) (.slice U (xs.length + n) cu) (xs.length + n) (bcells (xs ++ bs.take n)) rfl HOR.out (w1.heap.size + 1) (some ⟨w1.heap.size, 0, none⟩) 1 1 [.int .u8 x] rfl HRD.out (by simp [Value.oneCell']) (by simp only [maxLen]; omega) (by omega) (by simp; omega) ?_; intro v4 w3 hown4 hg4 hat4; have hb3 := blk_grown HRR.out.blk hg4 (fun e => by have := HGU.out q e; omega); have he3 := rf_cellV hb3 HI.out; have hz3 := hb3.frozen (1 + i); obtain ⟨V4, c4, rfl⟩ := own_slice hown4))
      all_goals (
        have hqq : ∀ g ∈ (Value.slice U (xs.length + n) cu).ownBlock.toList, g ∈ (q :: (v i).ownBlock.toList) ∨ w.heap.size ≤ g := by
          intro g hg
          have hg' : (Value.slice U (xs.length + n) cu).ownBlock = some g := by simpa using hg
          rcases HUR.out with h | ⟨g2, h, hg2⟩
          · rw [h] at hg'; exact .inl (by simp [hg'])
          · rw [h] at hg'; cases hg'; exact .inr hg2
        have hF3 := ((HFR.out.trans hfw (by simp)).trans (Fr.of_grownO hg4) hqq).setCell (p := ⟨q, 1 + i, none⟩) (.inl (by simp)) (.slice V4 (xs.length + n + 1) c4)
        have hlx : (xs ++ bs.take (n + 1)).length = xs.length + n + 1 := by simp; omega
        have hO3 : w3.ownsRow base 5 1 (.slice V4 (xs.length + n + 1) c4) (xs ++ bs.take (n + 1)).length (bcells (xs ++ bs.take (n + 1))) := by
          rw [hlx, HSU.out, ← List.append_assoc, bcells_append]; exact hown4
        have hpo := HRR.out.own (1 - i) (by omega)
        have hpa := HRR.out.apartI HI.out
        rw [upd_same] at hpa
        have hpo3 := (Fr.of_grownO hg4).own hpo (fun g hg hm => by
          have hg' : (Value.slice U (xs.length + n) cu).ownBlock = some g := by simpa using hm
          exact hpa g hg' hg)
        have hU3 : (Value.slice V4 (xs.length + n + 1) c4).ownBlock = (v i).ownBlock ∨ ∃ g, (Value.slice V4 (xs.length + n + 1) c4).ownBlock = some g ∧ w.heap.size ≤ g := by
          rcases hat4 with h | h
          · rw [h]; exact HUR.out
          · exact .inr ⟨_, h, by simp; omega⟩
        have hmk := RfS.mk2 hb3 HI.out (.slice V4 (xs.length + n + 1) c4) (xs ++ bs.take (n + 1)) hO3 hpo3 (apart_of hpa hpo hat4) ⟨HRR.out.lo.1, Nat.le_trans HRR.out.lo.2 hg4.size⟩ (by omega) (HRR.out.len (1 - i) (by omega))
        rw [upd_upd, ← HXS.out, stN_step, HXS.out] at hmk
        have HALL := Lib.hid (And.intro hmk (And.intro hU3 hF3))
        clear hqq hF3 hlx hO3 hpo hpa hpo3 hU3 hmk hown4 hg4 hat4 hb3
        go_wp2_with fail
        go_roundw
        case rel => exact ⟨n + 1, _, by omega, by go_num, HALL.out.1, HALL.out.2.1, HALL.out.2.2⟩
        case measure => simp [intOf]; omega)
    · obtain rfl : n = m := by omega
      by_cases hnb2 : n < bs.length
      · have hd1 : decide ((n : Int) < bs.length) = true := by simp; omega
        have hd3 : (n : Int) < bs.length := by omega
        have hq0 : wq = 0 := by
          rw [← HWQ.out]
          split
          · rfl
          · rename_i h; simp [h] at hm2; omega
        have hq1 : decide ((0 : Int) < wq) = false := by simp; omega
        have hq2 : ¬ (0 : Int) < wq := by omega
        have HQ0 := Lib.hid hq0
        clear hq0 hm2
        go_wp2_with fail
        refine HWT.out.mono ?_
        rintro e w1 ⟨rfl, hf1⟩
        have HF1 := Lib.hid hf1
        clear hf1
        go_wp2_with fail
        go_ret
        exact ⟨rfl, _, HR.out.fr0 HF1.out, HUR.out, HFR.out.trans HF1.out (by simp)⟩
      · have hd1 : decide ((n : Int) < bs.length) = false := by simp; omega
        have hd3 : ¬ (n : Int) < bs.length := by omega
        clear hm2
        go_wp2_with fail
        go_ret
        exact ⟨rfl, _, HR.out, HUR.out, HFR.out⟩

end
end Go.Proofs.Ytokdcddmljfgnaa
