/-
  rank.Order's comparison by its contracts: cmp.Compare, cmp.Or, runner.none, runner.to and the closure that the sort calls.
-/
import Derived.Test.YtkioniffgmalgaaRank6
import Derived.Sort.Grow
import Derived.Deep.RegionHeld3
namespace Go.Proofs.Ytkioniffgmalgaa
open Go.RowKit Go.Sort Sp
set_option linter.unusedVariables false

/-- w' is w after some draws, with some blocks behind. -/
def Gw (w w' : World) : Prop := ∃ q os, w' = grow (w.drewN q) os
section
variable {a b c w w' : World}
theorem Gw.refl (w : World) : Gw w w := ⟨0, #[], by rw [grow_empty]; rfl⟩
theorem Gw.trans (h : Gw a b) (k : Gw b c) : Gw a c := by
  obtain ⟨q, os, rfl⟩ := h
  obtain ⟨q', os', rfl⟩ := k
  refine ⟨q + q', os ++ os', ?_⟩
  show grow (grow ((a.drewN q).drewN q') os) os' = _
  rw [grow_grow, World.drewN_drewN]
theorem Gw.alloc (h : Gw a w) (o : Obj) : Gw a (w.alloc o) := h.trans ⟨0, #[o], by rw [alloc_eq_grow]; rfl⟩
theorem Gw.drew (h : Gw a w) : Gw a w.drew := h.trans ⟨1, #[], by rw [grow_empty]; rfl⟩
theorem Gw.cell (h : Gw a w) {p : Addr} (hp : p.block < a.heap.size) : w.cell? p = a.cell? p := by
  obtain ⟨q, os, rfl⟩ := h
  rw [cell?_grow _ _ _ (by exact hp)]
  rfl
theorem Gw.size (h : Gw a w) : a.heap.size ≤ w.heap.size := by
  obtain ⟨q, os, rfl⟩ := h
  rw [size_grow]
  exact Nat.le_add_right _ _
end

/-- cmp.Compare of two integers. -/
def cmpI (x y : Int) : Int := if x < y then -1 else if y < x then 1 else 0
theorem cmpI_lt {x y : Int} (h : x < y) : cmpI x y = -1 := by simp [cmpI, h]
theorem cmpI_gt {x y : Int} (h : y < x) : cmpI x y = 1 := by unfold cmpI; rw [if_neg (by omega), if_pos h]
theorem cmpI_eq (x : Int) : cmpI x x = 0 := by simp [cmpI]

theorem nan_calls (x : Int) (w : World) : Calls Try.prog 63 #[.int .i64 x] w fun e w' => e = .returned (.bool false) ∧ w = w' := by
  go_enter Try.func63, Try.ntmps63
  go_wp2_with fail
  go_ret
  exact ⟨by simp, rfl⟩
theorem nanU_calls (x : Int) (w : World) : Calls Try.prog 64 #[.int .u64 x] w fun e w' => e = .returned (.bool false) ∧ w = w' := by
  go_enter Try.func64, Try.ntmps64
  go_wp2_with fail
  go_ret
  exact ⟨by simp, rfl⟩

theorem cmp_calls (x y : Int) (w : World) : Calls Try.prog 49 #[.int .i64 x, .int .i64 y] w fun e w' => e = .returned (.int .i64 (cmpI x y)) ∧ w = w' := by
  rcases Int.lt_trichotomy x y with h | rfl | h
  · rw [cmpI_lt h]
    go_enter Try.func49, Try.ntmps49
    go_wp2_with fail
    refine (nan_calls _ _).mono ?_
    rintro e w1 ⟨rfl, rfl⟩
    go_wp2_with fail
    refine (nan_calls _ _).mono ?_
    rintro e w1 ⟨rfl, rfl⟩
    go_wp2_with fail
    go_ret
    exact ⟨rfl, rfl⟩
  · rw [cmpI_eq]
    go_enter Try.func49, Try.ntmps49
    go_wp2_with fail
    refine (nan_calls _ _).mono ?_
    rintro e w1 ⟨rfl, rfl⟩
    go_wp2_with fail
    refine (nan_calls _ _).mono ?_
    rintro e w1 ⟨rfl, rfl⟩
    go_wp2_with fail
    go_ret
    exact ⟨rfl, rfl⟩
  · have h2 : ¬ x < y := by omega
    rw [cmpI_gt h]
    go_enter Try.func49, Try.ntmps49
    go_wp2_with fail
    refine (nan_calls _ _).mono ?_
    rintro e w1 ⟨rfl, rfl⟩
    go_wp2_with fail
    refine (nan_calls _ _).mono ?_
    rintro e w1 ⟨rfl, rfl⟩
    go_wp2_with fail
    go_ret
    exact ⟨rfl, rfl⟩

theorem cmpU_calls (x y : Int) (w : World) : Calls Try.prog 51 #[.int .u64 x, .int .u64 y] w fun e w' => e = .returned (.int .i64 (cmpI x y)) ∧ w = w' := by
  rcases Int.lt_trichotomy x y with h | rfl | h
  · rw [cmpI_lt h]
    go_enter Try.func51, Try.ntmps51
    go_wp2_with fail
    refine (nanU_calls _ _).mono ?_
    rintro e w1 ⟨rfl, rfl⟩
    go_wp2_with fail
    refine (nanU_calls _ _).mono ?_
    rintro e w1 ⟨rfl, rfl⟩
    go_wp2_with fail
    go_ret
    exact ⟨rfl, rfl⟩
  · rw [cmpI_eq]
    go_enter Try.func51, Try.ntmps51
    go_wp2_with fail
    refine (nanU_calls _ _).mono ?_
    rintro e w1 ⟨rfl, rfl⟩
    go_wp2_with fail
    refine (nanU_calls _ _).mono ?_
    rintro e w1 ⟨rfl, rfl⟩
    go_wp2_with fail
    go_ret
    exact ⟨rfl, rfl⟩
  · have h2 : ¬ x < y := by omega
    rw [cmpI_gt h]
    go_enter Try.func51, Try.ntmps51
    go_wp2_with fail
    refine (nanU_calls _ _).mono ?_
    rintro e w1 ⟨rfl, rfl⟩
    go_wp2_with fail
    refine (nanU_calls _ _).mono ?_
    rintro e w1 ⟨rfl, rfl⟩
    go_wp2_with fail
    go_ret
    exact ⟨rfl, rfl⟩

/-- A runner: its place, its score, whether it has one. -/
structure Rn where
  place : Nat
  score : Int
  has : Bool
  deriving Inhabited, DecidableEq
def Rn.none (x : Rn) : Int := if x.has then 0 else 1
def encR (x : Rn) : List Value := [.int .i64 x.place, .int .u64 x.score, .bool x.has]

theorem none_calls (p s : Int) (h : Bool) (w : World) : Calls Try.prog 50 #[.agg #[.int .i64 p, .int .u64 s, .bool h]] w fun e w' => e = .returned (.int .i64 (if h then 0 else 1)) ∧ Gw w w' := by
  cases h
  all_goals
    go_enter Try.func50, Try.ntmps50
    go_wp2_with fail
    go_ret
    exact ⟨rfl, (Gw.refl w).alloc _⟩

/-- cmp.Or: the first that is not 0. -/
def orI : List Int → Int
  | [] => 0
  | x :: l => if x = 0 then orI l else x
theorem orI_skip : ∀ (l : List Int) (k : Nat), (∀ x ∈ l.take k, x = 0) → orI l = orI (l.drop k)
  | _, 0, _ => rfl
  | [], k + 1, _ => rfl
  | x :: l, k + 1, h => by
    have hx : x = 0 := h x (by simp)
    subst hx
    simp only [orI, if_pos, List.drop_succ_cons]
    exact orI_skip l k (fun y hy => h y (by simp [hy]))

theorem or_calls (l : List Int) (b : Nat) (c : Nat) (w : World) (hl : l.length ≤ 1000) (hc : ∀ (k : Nat) (x : Int), l[k]? = some x → w.cell? ⟨b, k, none⟩ = some (.int .i64 x)) :
    Calls Try.prog 48 #[.slice (some ⟨b, 0, none⟩) l.length c] w fun e w' => e = .returned (.int .i64 (orI l)) ∧ w = w' := by
  have HC := Lib.hid hc
  clear hc
  go_enter Try.func48, Try.ntmps48
  go_wp2_with fail
  go_loop [8] (fun i => ∃ k : Nat, k ≤ l.length ∧ i = .int .i64 k ∧ ∀ x ∈ l.take k, x = 0) (fun i => l.length - (intOf i).toNat)
  case atStart => exact ⟨0, Nat.zero_le _, rfl, by simp⟩
  case round =>
    obtain ⟨k, hk, rfl, hno⟩ := hrel
    have HN := Lib.hid hno
    clear hno
    by_cases hlt : k < l.length
    · obtain ⟨x, hx⟩ : ∃ x, l[k]? = some x := ⟨_, List.getElem?_eq_getElem hlt⟩
      have hcell := HC.out k x hx
      have HX := Lib.hid hx
      clear hx
      by_cases h0 : x = 0
      · subst h0
        go_wp2_with fail
        go_round
        case rel => exact ⟨k + 1, by omega, by go_num, by
          intro y hy
          rw [List.take_add_one, HX.out] at hy
          simp at hy
          rcases hy with hy | hy
          · exact HN.out y hy
          · exact hy⟩
        case measure => simp [intOf]; omega
      · have hd : (x == 0) = false := by simpa using h0
        have hor : orI l = x := by
          rw [orI_skip l k HN.out]
          have : l.drop k = x :: l.drop (k + 1) := by
            rw [List.drop_eq_getElem_cons hlt]
            congr 1
            have := HX.out
            rw [List.getElem?_eq_getElem hlt] at this
            exact Option.some.inj this
          rw [this]
          simp [orI, h0]
        have HO := Lib.hid hor
        clear hor
        go_wp2_with fail
        go_ret
        exact ⟨by rw [HO.out]; rfl, rfl⟩
    · obtain rfl : k = l.length := by omega
      have hor : orI l = 0 := by rw [orI_skip l _ HN.out]; simp [orI]
      have HO := Lib.hid hor
      clear hor
      go_wp2_with fail
      go_ret
      exact ⟨by rw [HO.out]; rfl, rfl⟩

/-- How runner.to compares. -/
def cfR (x y : Rn) : Int := orI [cmpI x.none y.none, cmpI y.score x.score, cmpI x.place y.place]

theorem to_calls (x y : Rn) (w : World) : Calls Try.prog 43 #[.agg (encR x).toArray, .agg (encR y).toArray] w fun e w' => e = .returned (.int .i64 (cfR x y)) ∧ Gw w w' := by
  obtain ⟨xp, xs, xh⟩ := x
  obtain ⟨yp, ys, yh⟩ := y
  show Calls Try.prog 43 #[.agg #[.int .i64 xp, .int .u64 xs, .bool xh], .agg #[.int .i64 yp, .int .u64 ys, .bool yh]] w fun e w' => e = .returned (.int .i64 (orI [cmpI (if xh then 0 else 1) (if yh then 0 else 1), cmpI ys xs, cmpI xp yp])) ∧ Gw w w'
  obtain ⟨xn, hxn⟩ : ∃ n, (if xh then (0 : Int) else 1) = n := ⟨_, rfl⟩
  obtain ⟨yn, hyn⟩ : ∃ n, (if yh then (0 : Int) else 1) = n := ⟨_, rfl⟩
  obtain ⟨h, hh⟩ : ∃ h, w.heap.size = h := ⟨_, rfl⟩
  obtain ⟨wb, hwb⟩ : ∃ wb, (w.alloc (.cells #[.int .i64 xp, .int .u64 xs, .bool xh] 78)).alloc (.cells #[.int .i64 yp, .int .u64 ys, .bool yh] 78) = wb := ⟨_, rfl⟩
  have hgb : Gw w wb := by rw [← hwb]; exact ((Gw.refl w).alloc _).alloc _
  have hb1 : Blk wb h 78 #[.int .i64 xp, .int .u64 xs, .bool xh] := by rw [← hwb, ← hh]; exact (Blk.new w 78 _).alloc _
  have hb2 : Blk wb (h + 1) 78 #[.int .i64 yp, .int .u64 ys, .bool yh] := by
    have hz : (w.alloc (.cells #[.int .i64 xp, .int .u64 xs, .bool xh] 78)).heap.size = w.heap.size + 1 := by simp
    rw [← hwb, ← hh, ← hz]; exact Blk.new _ 78 _
  have hgd := Gw.drew (Gw.refl wb)
  have hp1 := hb1.lt
  have hp2 := hb2.lt
  have HS : Hid (∀ W, Gw wb W → (W.cell? ⟨h, 0, none⟩ = some (.int .i64 xp) ∧ W.cell? ⟨h, 1, none⟩ = some (.int .u64 xs) ∧ W.cell? ⟨h, 2, none⟩ = some (.bool xh)) ∧ W.cell? ⟨h + 1, 0, none⟩ = some (.int .i64 yp) ∧ W.cell? ⟨h + 1, 1, none⟩ = some (.int .u64 ys) ∧ W.cell? ⟨h + 1, 2, none⟩ = some (.bool yh)) := Lib.hid (fun W hW => ⟨⟨(hW.cell hp1).trans (hb1.cell 0), (hW.cell hp1).trans (hb1.cell 1), (hW.cell hp1).trans (hb1.cell 2)⟩, (hW.cell hp2).trans (hb2.cell 0), (hW.cell hp2).trans (hb2.cell 1), (hW.cell hp2).trans (hb2.cell 2)⟩)
  have hn1 : ∀ W, Calls Try.prog 50 #[.agg #[.int .i64 xp, .int .u64 xs, .bool xh]] W fun e w' => e = .returned (.int .i64 xn) ∧ Gw W w' := fun W => by rw [← hxn]; exact none_calls _ _ _ _
  have hn2 : ∀ W, Calls Try.prog 50 #[.agg #[.int .i64 yp, .int .u64 ys, .bool yh]] W fun e w' => e = .returned (.int .i64 yn) ∧ Gw W w' := fun W => by rw [← hyn]; exact none_calls _ _ _ _
  have HN1 := Lib.hid (hn1 wb.drew)
  have HN2 := Lib.hid (fun W => hn2 W)
  rw [hxn, hyn]
  have HWB := Lib.hid hwb
  have HH := Lib.hid hh
  have HGB := Lib.hid hgb
  have HGD := Lib.hid hgd
  have hC0 := HS.out _ hgd
  have HC1 := Lib.hid (fun a b W => cmp_calls a b W)
  have HC2 := Lib.hid (fun W => cmpU_calls ys xs W)
  obtain ⟨k1, hk1⟩ : ∃ k, cmpI xn yn = k := ⟨_, rfl⟩
  obtain ⟨k2, hk2⟩ : ∃ k, cmpI ys xs = k := ⟨_, rfl⟩
  obtain ⟨k3, hk3⟩ : ∃ k, cmpI xp yp = k := ⟨_, rfl⟩
  have HK1 := Lib.hid (fun W => hk1 ▸ cmp_calls xn yn W)
  have HK2 := Lib.hid (fun W => hk2 ▸ cmpU_calls ys xs W)
  have HK3 := Lib.hid (fun W => hk3 ▸ cmp_calls (xp : Int) (yp : Int) W)
  rw [hk1, hk2, hk3]
  have HOR : Hid (∀ W : World, Calls Try.prog 48 #[.slice (some ⟨W.heap.size, 0, none⟩) 3 3] (W.alloc (.cells #[.int .i64 k1, .int .i64 k2, .int .i64 k3] 3)) fun e w' => e = .returned (.int .i64 (orI [k1, k2, k3])) ∧ W.alloc (.cells #[.int .i64 k1, .int .i64 k2, .int .i64 k3] 3) = w') := Lib.hid (fun W => or_calls [k1, k2, k3] W.heap.size 3 _ (by simp) (fun k x hk => by
    have hB := Blk.new W 3 #[.int .i64 k1, .int .i64 k2, .int .i64 k3]
    match k, hk with
    | 0, hk => exact (hB.cell 0).trans (by simp at hk; subst hk; rfl)
    | 1, hk => exact (hB.cell 1).trans (by simp at hk; subst hk; rfl)
    | 2, hk => exact (hB.cell 2).trans (by simp at hk; subst hk; rfl)
    | k + 3, hk => simp at hk))
  clear hxn hyn hh hwb hgb hb1 hb2 hp1 hp2 hn1 hn2 hgd hk1 hk2 hk3 HC1 HC2
  go_enter Try.func43, Try.ntmps43
  go_upto_region 1 with fail
  rw [HH.out, HWB.out]
  go_region_held3 (fun w' => (w'.cell? ⟨h, 0, none⟩ = some (.int .i64 xp) ∧ w'.cell? ⟨h, 1, none⟩ = some (.int .u64 xs) ∧ w'.cell? ⟨h, 2, none⟩ = some (.bool xh)) ∧ w'.cell? ⟨h + 1, 0, none⟩ = some (.int .i64 yp) ∧ w'.cell? ⟨h + 1, 1, none⟩ = some (.int .u64 ys) ∧ w'.cell? ⟨h + 1, 2, none⟩ = some (.bool yh)) (first | exact hC0 | exact hC1 | exact hC2 | exact HS.out _ (HG2.out.alloc _)) (first
    | (go_at_call 50; (with_reducible refine HN1.out.mono ?_); rintro e w1 ⟨rfl, hg1⟩; have HG1 := Lib.hid (HGD.out.trans hg1); have hC1 := HS.out _ HG1.out; clear hg1)
    | (go_at_call 50; (with_reducible refine (HN2.out w1).mono ?_); rintro e w2 ⟨rfl, hg2⟩; have HG2 := Lib.hid (HG1.out.trans hg2); have hC2 := HS.out _ HG2.out; clear hg2)
    | (go_at_call 49; (with_reducible refine (HK1.out _).mono ?_); rintro e w3 ⟨rfl, rfl⟩)
    | (go_at_call 51; (with_reducible refine (HK2.out _).mono ?_); rintro e w3 ⟨rfl, rfl⟩)
    | (go_at_call 49; (with_reducible refine (HK3.out _).mono ?_); rintro e w3 ⟨rfl, rfl⟩)
    | (go_at_call 48; (with_reducible refine (HOR.out _).mono ?_); rintro e w4 ⟨rfl, rfl⟩))
  go_wp2_with fail
  go_ret
  exact ⟨rfl, HGB.out.trans (HG2.out.alloc _)⟩

theorem clo_calls (x y : Rn) (w : World) : Calls Try.prog 42 #[.agg (encR x).toArray, .agg (encR y).toArray] w fun e w' => e = .returned (.int .i64 (cfR x y)) ∧ Gw w w' := by
  have HT := Lib.hid (fun W => to_calls x y W)
  obtain ⟨r, hr⟩ : ∃ r, cfR x y = r := ⟨_, rfl⟩
  rw [hr] at HT ⊢
  clear hr
  obtain ⟨xp, xs, xh⟩ := x
  obtain ⟨yp, ys, yh⟩ := y
  change Calls Try.prog 42 #[.agg #[.int .i64 xp, .int .u64 xs, .bool xh], .agg #[.int .i64 yp, .int .u64 ys, .bool yh]] w _
  go_enter Try.func42, Try.ntmps42
  go_wp2_with fail
  refine (HT.out _).mono ?_
  rintro e w1 ⟨rfl, hg⟩
  have HG := Lib.hid ((((Gw.refl w).alloc _).alloc _).trans hg)
  clear hg
  go_wp2_with fail
  go_ret
  exact ⟨rfl, HG.out⟩

end Go.Proofs.Ytkioniffgmalgaa
