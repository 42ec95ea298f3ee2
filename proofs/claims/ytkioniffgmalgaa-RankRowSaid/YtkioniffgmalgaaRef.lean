/-
  The reference's own functions by contracts.
-/
import Derived.Test.YtkioniffgmalgaaSum
import Derived.Test.YtkioniffgmalgaaPlain5
import Derived.Maps.AppendAt
import Derived.Outline
namespace Go.Proofs.Ytkioniffgmalgaa
open Go.RowKit Sp
set_option linter.unusedVariables false

theorem lfts_W {x : Int} (h : W x) : ∀ k, W (lfts x k)
  | 0 => h
  | k + 1 => by show W (lft (lfts x k)); unfold lft; rw [IntKind.wrap_u64]; unfold Sp.W; omega
theorem lft_walk (x : Int) (h : 0 ≤ x) : IntKind.u64.wrap (IntKind.u64.wrap (2 * x) + IntKind.u64.wrap (x.tdiv 9223372036854775808)) = lft x := by
  unfold lft
  rw [Int.tdiv_eq_ediv_of_nonneg h, IntKind.wrap_u64, IntKind.wrap_u64, IntKind.wrap_u64, IntKind.wrap_u64]
  omega

theorem left_calls (x : Int) (hx : W x) (n : Nat) (hn : n ≤ 64) (w : World) : Calls Try.prog 45 #[.int .u64 x, .int .i64 n] w fun e w' => e = .returned (.int .u64 (lfts x n)) ∧ w = w' := by
  have HX := Lib.hid hx
  clear hx
  go_enter Try.func45, Try.ntmps45
  go_wp2_with fail
  go_loop [0, 5] (fun m i => ∃ k : Nat, k ≤ n ∧ i = .int .i64 k ∧ m = .int .u64 (lfts x k)) (fun _ i => n - (intOf i).toNat)
  case atStart => exact ⟨0, Nat.zero_le _, rfl, rfl⟩
  case round =>
    obtain ⟨k, hk, rfl, rfl⟩ := hrel
    have h0 := (lfts_W HX.out k).1
    have hs : lfts x (k + 1) = lft (lfts x k) := rfl
    have HS := Lib.hid hs
    clear hs
    generalize hy : lfts x k = y at *
    have HY := Lib.hid hy
    clear hy
    by_cases hlt : k < n
    · go_wp2_with fail
      go_round
      case rel => exact ⟨k + 1, by omega, by go_num, by rw [HS.out, lft_walk y h0]⟩
      case measure => simp [intOf]; omega
    · obtain rfl : k = n := by omega
      go_wp2_with fail
      go_ret
      exact ⟨by rw [← HY.out]; rfl, rfl⟩

theorem results_tmp4 {fn : Func} {t u v x : Tmp} (h : fn.results = #[.tmp t, .tmp u, .tmp v, .tmp x]) (tmps : Array Value) (P : Program) (w : World) :
    (results fn tmps).run P w = .ok (.tuple #[tmps.getD t undef, tmps.getD u undef, tmps.getD v undef, tmps.getD x undef]) w := by simp [results, h]

/-- A state as four results. -/
abbrev st4 (s : St) : Value := .tuple #[.int .u64 s.a, .int .u64 s.b, .int .u64 s.c, .int .u64 s.d]
theorem left13 (x : Int) (hx : W x) (w : World) : Calls Try.prog 45 #[.int .u64 x, .int .i64 13] w fun e w' => e = .returned (.int .u64 (rot 13 x)) ∧ w = w' := by
  rw [← lfts_13 hx]; exact left_calls x hx 13 (by omega) w
theorem left16 (x : Int) (hx : W x) (w : World) : Calls Try.prog 45 #[.int .u64 x, .int .i64 16] w fun e w' => e = .returned (.int .u64 (rot 16 x)) ∧ w = w' := by
  rw [← lfts_16 hx]; exact left_calls x hx 16 (by omega) w
theorem left17 (x : Int) (hx : W x) (w : World) : Calls Try.prog 45 #[.int .u64 x, .int .i64 17] w fun e w' => e = .returned (.int .u64 (rot 17 x)) ∧ w = w' := by
  rw [← lfts_17 hx]; exact left_calls x hx 17 (by omega) w
theorem left21 (x : Int) (hx : W x) (w : World) : Calls Try.prog 45 #[.int .u64 x, .int .i64 21] w fun e w' => e = .returned (.int .u64 (rot 21 x)) ∧ w = w' := by
  rw [← lfts_21 hx]; exact left_calls x hx 21 (by omega) w
theorem left32 (x : Int) (hx : W x) (w : World) : Calls Try.prog 45 #[.int .u64 x, .int .i64 32] w fun e w' => e = .returned (.int .u64 (rot 32 x)) ∧ w = w' := by
  rw [← lfts_32 hx]; exact left_calls x hx 32 (by omega) w

theorem round_calls (s : St) (hs : s.W) (w : World) : Calls Try.prog 36 #[.int .u64 s.a, .int .u64 s.b, .int .u64 s.c, .int .u64 s.d] w fun e w' => e = .returned (st4 (half2 (half1 s))) ∧ w = w' := by
  obtain ⟨a, b, c, d⟩ := s
  have ha := hs.a
  have hb := hs.b
  have hc := hs.c
  have hd := hs.d
  dsimp only at ha hb hc hd ⊢
  have H1 := half1_W (s := ⟨a, b, c, d⟩) ⟨ha, hb, hc, hd⟩
  have wb1 : W (xo (ad a b) (rot 13 b)) := W.xo (W.ad a b) hb.rot_13
  have wd1 : W (xo (ad c d) (rot 16 d)) := W.xo (W.ad c d) hd.rot_16
  have HB1 := Lib.hid wb1
  have HD1 := Lib.hid wd1
  clear H1 wb1 wd1 hs
  go_enter Try.func36, Try.ntmps36
  go_wp2_with fail
  refine (left13 b hb _).mono ?_
  rintro e w' ⟨rfl, rfl⟩
  go_wp2_with fail
  refine (left32 (ad a b) (W.ad a b) _).mono ?_
  rintro e w' ⟨rfl, rfl⟩
  go_wp2_with fail
  refine (left16 d hd _).mono ?_
  rintro e w' ⟨rfl, rfl⟩
  go_wp2_with fail
  refine (left21 (xo (ad c d) (rot 16 d)) HD1.out _).mono ?_
  rintro e w' ⟨rfl, rfl⟩
  go_wp2_with fail
  refine (left17 (xo (ad a b) (rot 13 b)) HB1.out _).mono ?_
  rintro e w' ⟨rfl, rfl⟩
  go_wp2_with fail
  refine (left32 (ad (ad c d) (xo (ad a b) (rot 13 b))) (W.ad _ _) _).mono ?_
  rintro e w' ⟨rfl, rfl⟩
  go_wp2_with fail
  refine bodyPost_ret (results_tmp4 rfl _ _ _) rfl ⟨?_, rfl⟩
  have eb : xo (ad a b) (rot 13 b) = xo (rot 13 b) (ad a b) := xo_comm (W.ad _ _) hb.rot_13
  have ed : xo (ad c d) (rot 16 d) = xo (rot 16 d) (ad c d) := xo_comm (W.ad _ _) hd.rot_16
  have e1 : xo (ad (ad c d) (xo (rot 13 b) (ad a b))) (rot 17 (xo (rot 13 b) (ad a b))) = xo (rot 17 (xo (rot 13 b) (ad a b))) (ad (ad c d) (xo (rot 13 b) (ad a b))) := xo_comm (W.ad _ _) (eb ▸ HB1.out).rot_17
  have e2 : xo (ad (rot 32 (ad a b)) (xo (rot 16 d) (ad c d))) (rot 21 (xo (rot 16 d) (ad c d))) = xo (rot 21 (xo (rot 16 d) (ad c d))) (ad (rot 32 (ad a b)) (xo (rot 16 d) (ad c d))) := xo_comm (W.ad _ _) (ed ▸ HD1.out).rot_21
  show Ending.returned (.tuple #[.int .u64 (ad (rot 32 (ad a b)) (xo (ad c d) (rot 16 d))), .int .u64 (xo (ad (ad c d) (xo (ad a b) (rot 13 b))) (rot 17 (xo (ad a b) (rot 13 b)))), .int .u64 (rot 32 (ad (ad c d) (xo (ad a b) (rot 13 b)))), .int .u64 (xo (ad (rot 32 (ad a b)) (xo (ad c d) (rot 16 d))) (rot 21 (xo (ad c d) (rot 16 d))))]) = _
  rw [eb, ed, e1, e2]
  rfl

theorem ownBlock_ge {w : World} {base : Nat} {e : TypeId} {size n : Nat} {v : Value} {xs : List Value} (h : w.ownsRow base e size v n xs) {g : Nat} (hg : v.ownBlock = some g) : base ≤ g := by
  rcases h.2 with ⟨rfl, _⟩ | ⟨g', cap, cur, rfl, hb, _⟩
  · simp [Value.ownBlock] at hg
  · simp [Value.ownBlock] at hg; omega
theorem info22 : (Try.prog.info? 22).map (fun i => (i.zero, i.size, i.bytes)) = some (some (.int .u64 0), 1, 8) := by kernel_rfl

set_option maxRecDepth 100000 in
set_option maxHeartbeats 2000000 in
theorem words_calls (bs : List Int) (A : Option Addr) (c : Nat) (w : World) (hX : BytesAt w A bs (fun _ => True)) (hb : Byts bs) (hl : bs.length < 1099511627776) :
    Calls Try.prog 35 #[.slice A bs.length c] w fun e w' => ∃ v, e = .returned v ∧ w'.ownsRow w.heap.size 22 1 v (bs.length / 8 + 1) ((wordsL bs (bs.length / 8 + 1)).map (Value.int .u64)) ∧ Below w.heap.size w w' := by
  obtain ⟨i0, hi, hz0, hz1, hz2⟩ := info_parts info22
  have HB := Lib.hid hb
  have HX := Lib.hid hX
  clear hb hX
  go_enter Try.func35, Try.ntmps35
  go_wp2_with fail
  go_loopw [3, 4] (fun v i wr => ∃ k : Nat, k ≤ bs.length / 8 + 1 ∧ i = .int .i64 k ∧ wr.ownsRow w.heap.size 22 1 v k ((wordsL bs k).map (Value.int .u64)) ∧ Below w.heap.size w wr) (fun _ i _ => bs.length / 8 + 1 - (intOf i).toNat)
  case atStart => exact ⟨0, Nat.zero_le _, rfl, World.ownsRow_nil _ _ _ _, Below.refl _ _⟩
  case round =>
    obtain ⟨k, hk, rfl, hown, hbel⟩ := hrel
    by_cases hlt : k ≤ bs.length / 8
    · obtain ⟨wo, hwo⟩ : ∃ wo : World, wo = wr := ⟨_, rfl⟩
      subst hwo
      have hd0 : decide ((k : Int) ≤ (bs.length : Int) / 8) = true := by simp; omega
      have HWB := Lib.hid (wl_byts HB.out k)
      go_wp2_with fail
      go_loop [5, 6, 7] (fun m x i => ∃ j : Nat, j ≤ 8 ∧ i = .int .i64 j ∧ m = .int .u64 (numTo (wl bs k) j) ∧ x = .int .u64 (worth j)) (fun _ _ i => 8 - (intOf i).toNat)
      case atStart => exact ⟨0, by omega, rfl, rfl, rfl⟩
      case round =>
        obtain ⟨j, hj, rfl, rfl, rfl⟩ := hrel
        by_cases hj8 : j < 8
        · have hwo := worth_step j
          have HWO := Lib.hid hwo
          clear hwo
          by_cases hin : 8 * k + j < bs.length
          · obtain ⟨b, off, rfl, _, hbw, hcell⟩ := HX.out (by omega)
            have cx := (hbel.cell (p := ⟨b, off + (8 * k + j), none⟩) hbw).trans (hcell (8 * k + j) hin)
            have hst := numTo_step HWB.out j hj8
            rw [wl_byte bs k j hj8 hin] at hst
            have hbx := HB.out (8 * k + j)
            generalize bs.getD (8 * k + j) 0 = x at *
            obtain ⟨hbx0, hbx1⟩ := hbx
            have HST := Lib.hid hst
            clear hcell hst
            have hd1 : decide (8 * (k : Int) + (j : Int) < (bs.length : Int)) = true := by simp; omega
            by_cases hke : k = bs.length / 8
            · have hd2 : ((k : Int) == (bs.length : Int) / 8) = true := by rw [beq_iff_eq]; omega
              have hd3 : ((j : Int) == 7) = false := by rw [beq_eq_false_iff_ne]; omega
              have HKE := Lib.hid hke
              clear hke
              go_wp2_with fail
              go_round
              case rel => exact ⟨j + 1, by omega, by go_num, by rw [HST.out], by rw [HWO.out]⟩
              case measure => simp [intOf]; omega
            · have hd2 : ((k : Int) == (bs.length : Int) / 8) = false := by rw [beq_eq_false_iff_ne]; omega
              clear hke
              go_wp2_with fail
              go_round
              case rel => exact ⟨j + 1, by omega, by go_num, by rw [HST.out], by rw [HWO.out]⟩
              case measure => simp [intOf]; omega
          · have hke : k = bs.length / 8 := by omega
            have hd1 : decide (8 * (k : Int) + (j : Int) < (bs.length : Int)) = false := by simp; omega
            have hd2 : ((k : Int) == (bs.length : Int) / 8) = true := by rw [beq_iff_eq]; omega
            have HKE := Lib.hid hke
            have hkk : 8 * k + j ≥ bs.length := by omega
            clear hke
            by_cases hj7 : j = 7
            · subst hj7
              have hst := numTo_step HWB.out 7 (by omega)
              rw [wl_last bs k HKE.out] at hst
              have HST := Lib.hid hst
              clear hst
              go_wp2_with fail
              go_round
              case rel => exact ⟨8, by omega, rfl, by rw [HST.out], by rw [HWO.out]⟩
              case measure => simp [intOf]
            · have hd3 : ((j : Int) == 7) = false := by rw [beq_eq_false_iff_ne]; omega
              have hst : numTo (wl bs k) (j + 1) = numTo (wl bs k) j := by
                simp only [numTo]; rw [wl_zero bs k j (by omega) HKE.out hin]; omega
              have HST := Lib.hid hst
              clear hst
              go_wp2_with fail
              go_round
              case rel => exact ⟨j + 1, by omega, by go_num, by rw [HST.out], by rw [HWO.out]⟩
              case measure => simp [intOf]; omega
        · obtain rfl : j = 8 := by omega
          have hsuc := wordsL_succ bs k
          have HSUC := Lib.hid hsuc
          clear hsuc
          generalize numTo (wl bs k) 8 = m at *
          go_wp2_with (first
            | (at_builtin; refine wpList_append_own _ rfl _ _ 66 rfl w.heap.size 22 i0 (.int .u64 0) 1 8 Try.underlying66 hi hz0 hz1 hz2 rfl (by decide) _ _ _ rfl (hown.alloc _) ⟨wo.heap.size, 0, none⟩ 1 1 [.int .u64 m] rfl rfl (cell_one_new _ _ _) (by simp [Value.oneCell']) (by unfold maxLen; omega) (by omega) (by have := hbel.size; simp; omega) ?_; intro v' w1 hown' hgrow _))
          have hbel1 : Below w.heap.size w w1 := (hbel.alloc hbel.size _).grown hgrow (by have := hbel.size; simp; omega) (fun g hg => by
            have := ownBlock_ge hown hg; omega)
          clear hgrow
          go_wp2_with fail
          go_roundw
          case rel => exact ⟨k + 1, by omega, by go_num, by rw [HSUC.out, List.map_append]; exact hown', hbel1⟩
          case measure => simp [intOf]; omega
    · obtain rfl : k = bs.length / 8 + 1 := by omega
      go_wp2_with fail
      go_ret
      exact ⟨_, rfl, hown, hbel⟩
end Go.Proofs.Ytkioniffgmalgaa
