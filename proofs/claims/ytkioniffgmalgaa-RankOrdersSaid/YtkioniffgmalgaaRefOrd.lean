/-
  The reference's Order walked.
-/
import Derived.Test.YtkioniffgmalgaaRefOrd0
namespace Go.Proofs.Ytkioniffgmalgaa
open Go.RowKit Go.Sort Sp
set_option linter.unusedVariables false

def lenV (v : Value) : Nat := match v with | .slice _ n _ => n | _ => 0

set_option maxRecDepth 100000 in
set_option maxHeartbeats 4000000 in
theorem refOrder_calls (key : List Int) (A : Option Addr) (ca : Nat) (ns : List ByteArray) (B : Option Addr) (cb : Nat) (ws : List Int) (C : Option Addr) (cc : Nat) (w : World)
    (hX : BytesAt w A key (fun _ => True)) (hb : Byts key) (hkl : key.length ≤ 1000) (hN : StrsAt w B ns (fun _ => True)) (hs : ∀ s ∈ ns, s.size ≤ 100) (hW : IntsAt w C ws (fun _ => True)) (hws : ∀ x ∈ ws, -9223372036854775808 ≤ x ∧ x ≤ 9223372036854775807) (hl : ns.length ≤ 1000) (hl2 : ws.length ≤ 9223372036854775807) :
    Calls Try.prog 28 #[.slice A key.length ca, .slice B ns.length cb, .slice C ws.length cc] w fun e w' => ∃ v, e = .returned v ∧ w'.ownsRow w.heap.size 3 1 v (min ns.length ws.length) (icells (ordS key ns ws)) ∧ Fr [] w w' := by
  have HC := Lib.hid (fun (k : Nat) (s : ByteArray) (x : Int) (h1 : ns[k]? = some s) (h2 : ws[k]? = some x) W hX => refScore_calls key A ca s x W hX hb hkl (hs s (List.mem_of_getElem? h1)) (hws x (List.mem_of_getElem? h2)))
  have HX := Lib.hid hX
  have HN := Lib.hid hN
  have HW := Lib.hid hW
  have HRL := Lib.hid (runs_len key ns ws)
  have HRG := Lib.hid (fun (k : Nat) (s : ByteArray) (x : Int) (h1 : ns[k]? = some s) (h2 : ws[k]? = some x) => runs_get key ns ws h1 h2)
  have HSO := Lib.hid (fun (m : Nat) (x : Rn) h => sel_order key ns ws (m := m) (x := x) h)
  have hod : ordS key ns ws = ((ordR (runs key ns ws)).map (·.place) : List Nat).map fun p : Nat => (p : Int) := by rw [List.map_map]; rfl
  have hoL : ((ordR (runs key ns ws)).map (·.place)).length = (runs key ns ws).length := by rw [List.length_map, ordR_len]
  obtain ⟨rl, hrl⟩ : ∃ rl, runs key ns ws = rl := ⟨_, rfl⟩
  rw [hrl] at HRL HRG hod HSO hoL
  rw [hod]
  obtain ⟨n, hn⟩ : ∃ n, min ns.length ws.length = n := ⟨_, rfl⟩
  rw [hn] at HRL ⊢
  rw [HRL.out] at HSO hoL
  have HPL := Lib.hid (show ∀ m, m < n → ∃ p, ((ordR rl).map (·.place))[m]? = some p ∧ p < n ∧ sel rl (((ordR rl).map (·.place)).take m) n = some p from fun m hm => by
    have hm' : m < (ordR rl).length := by rw [← hoL, List.length_map] at hm; exact hm
    refine ⟨((ordR rl)[m]).place, by rw [List.getElem?_map, List.getElem?_eq_getElem hm']; rfl, ?_, HSO.out m _ (List.getElem?_eq_getElem hm')⟩
    exact (sel_lt (HSO.out m _ (List.getElem?_eq_getElem hm'))).1)
  obtain ⟨pl, hpl⟩ : ∃ pl, (ordR rl).map (·.place) = pl := ⟨_, rfl⟩
  rw [hpl] at HPL hoL ⊢
  have HOL := Lib.hid hoL
  have hn3 : n ≤ ns.length ∧ n ≤ ws.length ∧ n ≤ 1000 := by omega
  have hn4 : n = ns.length ∨ (n < ns.length ∧ n = ws.length) := by omega
  have HN4 := Lib.hid hn4
  clear hX hb hN hW hod hrl hs hws HSO hpl hoL hn4 hkl
  obtain ⟨H, hH⟩ : ∃ H, w.heap.size = H := ⟨_, rfl⟩
  go_enter Try.func28, Try.ntmps28
  rw [hH]
  go_wp2_with fail
  go_loopw [7, 8, 9, 10] (fun v7 v8 v9 i wr => ∃ k : Nat, k ≤ n ∧ i = .int .i64 k ∧ wr.ownsRow H 22 1 v7 k (ucells (rl.take k)) ∧ wr.ownsRow H 4 1 v8 k (hcells (rl.take k)) ∧ wr.ownsRow H 4 1 v9 k (fcells k) ∧ Apart v7 v8 ∧ Apart v7 v9 ∧ Apart v8 v9 ∧ Fr [] w wr ∧ H ≤ wr.heap.size) (fun _ _ _ i _ => n - (intOf i).toNat)
  case atStart => exact ⟨0, Nat.zero_le _, rfl, by simp [ucells]; exact World.ownsRow_nil _ _ _ _, by simp [hcells]; exact World.ownsRow_nil _ _ _ _, by simp [fcells]; exact World.ownsRow_nil _ _ _ _, fun g hg => by simp [Value.ownBlock] at hg, fun g hg => by simp [Value.ownBlock] at hg, fun g hg => by simp [Value.ownBlock] at hg, Fr.refl _ _, by omega⟩
  case round =>
    obtain ⟨k, hkn, rfl, ho7, ho8, ho9, ha78, ha79, ha89, hfr, hBw⟩ := hrel
    have HO7 := Lib.hid ho7
    have HO8 := Lib.hid ho8
    have HO9 := Lib.hid ho9
    have HA78 := Lib.hid ha78
    have HA79 := Lib.hid ha79
    have HA89 := Lib.hid ha89
    have HFR := Lib.hid hfr
    clear ho7 ho8 ho9 ha78 ha79 ha89 hfr
    by_cases hlt : k < n
    · obtain ⟨bn, on, rfl, _, hbn, hcn⟩ := HN.out (by omega)
      obtain ⟨bw, ow, rfl, _, hbw, hcw⟩ := HW.out (by omega)
      obtain ⟨s, hs⟩ : ∃ s, ns[k]? = some s := ⟨_, List.getElem?_eq_getElem (by omega)⟩
      obtain ⟨x, hx⟩ : ∃ x, ws[k]? = some x := ⟨_, List.getElem?_eq_getElem (by omega)⟩
      have hC1 : wr.drew.cell? ⟨bn, on + k, none⟩ = some (.string s) ∧ wr.drew.cell? ⟨bw, ow + k, none⟩ = some (.int .i64 x) := ⟨(HFR.out.cell (p := ⟨bn, _, none⟩) hbn (by simp)).trans (hcn k s hs), (HFR.out.cell (p := ⟨bw, _, none⟩) hbw (by simp)).trans (hcw k x hx)⟩
      have hcs : ∀ W, Fr [] wr.drew W → W.cell? ⟨bn, on + k, none⟩ = some (.string s) ∧ W.cell? ⟨bw, ow + k, none⟩ = some (.int .i64 x) := fun W hf => ⟨(hf.cell (p := ⟨bn, _, none⟩) (Nat.lt_of_lt_of_le hbn HFR.out.size) (by simp)).trans hC1.1, (hf.cell (p := ⟨bw, _, none⟩) (Nat.lt_of_lt_of_le hbw HFR.out.size) (by simp)).trans hC1.2⟩
      have HCS := Lib.hid hcs
      have hcall := HC.out k s x hs hx wr.drew (HX.out.fr HFR.out.drew (by simp))
      have hget := HRG.out k s x hs hx
      obtain ⟨sc, hsc⟩ : ∃ sc, scS key s x = sc := ⟨_, rfl⟩
      obtain ⟨q, hq⟩ : ∃ q, decide (0 < x) = q := ⟨_, rfl⟩
      rw [hsc, hq] at hcall hget
      have HCALL := Lib.hid hcall
      have HGET := Lib.hid hget
      clear hcall hget hsc hq hcs hcn hcw hs hx hbn hbw
      have hk1 : k < ns.length := by omega
      have hk2 : k < ws.length := by omega
      go_wp2_with fail
      go_region_held3 (fun w' => w'.cell? ⟨bn, on + k, none⟩ = some (.string s) ∧ w'.cell? ⟨bw, ow + k, none⟩ = some (.int .i64 x)) (first | exact hC1 | exact hC2) (first
        | (go_at_call 23; (with_reducible refine (HCALL.out).mono ?_); rintro e w2 ⟨rfl, hf2⟩; have HF2 := Lib.hid hf2; have hC2 := HCS.out _ hf2; clear hf2))
      clear hC1 hC2 hk1 hk2
      obtain ⟨i22, hi22, hz220, hz221, hz222⟩ := info_parts info22r
      obtain ⟨i4, hi4, hz40, hz41, hz42⟩ := info_parts info4r
      have HP7 := Lib.hid (HF2.out.own (w := wr.drew) HO7.out (by simp))
      have HP8 := Lib.hid (HF2.out.own (w := wr.drew) HO8.out (by simp))
      have HP9 := Lib.hid (HF2.out.own (w := wr.drew) HO9.out (by simp))
      have hBw2 : H ≤ w2.heap.size := Nat.le_trans hBw HF2.out.size
      go_upto_region 8 with (first
        | (at_builtin; refine wpList_append_any _ rfl (.tmp 41) (.tmp 43) _ rfl H 22 i22 _ 1 8 Try.underlying66 hi22 hz220 hz221 hz222 rfl (by omega) u7 k (ucells (rl.take k)) rfl (own_alloc HP7.out _) (w2.heap.size + 1) (some ⟨w2.heap.size, 0, none⟩) 1 1 (ucells [⟨k, sc, q⟩]) rfl (reads_new w2 22 (ucells [⟨k, sc, q⟩]) 1 rfl) (ucells_one _) (by simp only [maxLen]; omega) (by omega) (by simp; omega) ?_; intro v7 w3 hown4 hg4 hat4))
      have hge : ∀ y ∈ u7.ownBlock.toList, H ≤ y := fun y hy => own_ge HP7.out (by simpa using hy)
      have hf3 := ((Fr.refl u7.ownBlock.toList w2).alloc (.cells (ucells [⟨k, sc, q⟩]).toArray 22)).trans (Fr.of_grownO hg4) (fun y hy => .inl hy)
      have hz3 : H ≤ w3.heap.size := Nat.le_trans hBw2 hf3.size
      have hrow : w3.ownsRow H 22 1 v7 (k + 1) (ucells (rl.take (k + 1))) := by
        rw [List.take_add_one, HGET.out, Option.toList_some]
        simp only [ucells, List.map_append] at hown4 ⊢
        exact hown4
      have HQ7 := Lib.hid hrow
      have HQ8 := Lib.hid (hf3.own HP8.out (fun g hg hm => HA78.out g (by simpa using hm) hg))
      have HQ9 := Lib.hid (hf3.own HP9.out (fun g hg hm => HA79.out g (by simpa using hm) hg))
      have HB78 := Lib.hid (apart_of HA78.out (own_alloc HP8.out (.cells (ucells [⟨k, sc, q⟩]).toArray 22)) hat4)
      have HB79 := Lib.hid (apart_of HA79.out (own_alloc HP9.out (.cells (ucells [⟨k, sc, q⟩]).toArray 22)) hat4)
      have HF3 := Lib.hid (((HFR.out.drew).trans HF2.out (by simp)).trans hf3 (fun y hy => .inr (by have := hge y hy; omega)))
      clear hge hf3 hrow hown4 hg4 hat4
      go_upto_region 9 with (first
        | (at_builtin; refine wpList_append_any _ rfl (.tmp 45) (.tmp 47) _ rfl H 4 i4 _ 1 1 Try.underlying42 hi4 hz40 hz41 hz42 rfl (by omega) u8 k (hcells (rl.take k)) rfl (own_alloc HQ8.out _) (w3.heap.size + 1) (some ⟨w3.heap.size, 0, none⟩) 1 1 (hcells [⟨k, sc, q⟩]) rfl (reads_new w3 4 (hcells [⟨k, sc, q⟩]) 1 rfl) (hcells_one _) (by simp only [maxLen]; omega) (by omega) (by simp; omega) ?_; intro v8 w4 hown4 hg4 hat4))
      have hge : ∀ y ∈ u8.ownBlock.toList, H ≤ y := fun y hy => own_ge HQ8.out (by simpa using hy)
      have hf3 := ((Fr.refl u8.ownBlock.toList w3).alloc (.cells (hcells [⟨k, sc, q⟩]).toArray 4)).trans (Fr.of_grownO hg4) (fun y hy => .inl hy)
      have hz4 : H ≤ w4.heap.size := Nat.le_trans hz3 hf3.size
      have hrow : w4.ownsRow H 4 1 v8 (k + 1) (hcells (rl.take (k + 1))) := by
        rw [List.take_add_one, HGET.out, Option.toList_some]
        simp only [hcells, List.map_append] at hown4 ⊢
        exact hown4
      have HR7 := Lib.hid (hf3.own HQ7.out (fun g hg hm => HB78.out g hg (by simpa using hm)))
      have HR8 := Lib.hid hrow
      have HR9 := Lib.hid (hf3.own HQ9.out (fun g hg hm => HA89.out g (by simpa using hm) hg))
      have HC78 := Lib.hid (apart_of HB78.out.symm (own_alloc HQ7.out (.cells (hcells [⟨k, sc, q⟩]).toArray 4)) hat4).symm
      have HC89 := Lib.hid (apart_of HA89.out (own_alloc HQ9.out (.cells (hcells [⟨k, sc, q⟩]).toArray 4)) hat4)
      have HF4 := Lib.hid (HF3.out.trans hf3 (fun y hy => .inr (by have := hge y hy; omega)))
      clear hge hf3 hrow hown4 hg4 hat4
      go_wp2_with (first
        | (at_builtin; refine wpList_append_any _ rfl (.tmp 49) (.tmp 50) _ rfl H 4 i4 _ 1 1 Try.underlying42 hi4 hz40 hz41 hz42 rfl (by omega) u9 k (fcells k) rfl (own_alloc HR9.out _) (w4.heap.size + 1) (some ⟨w4.heap.size, 0, none⟩) 1 1 (fcells 1) rfl (reads_new w4 4 (fcells 1) 1 rfl) (fcells_one _) (by simp only [maxLen]; omega) (by omega) (by simp; omega) ?_; intro v9 w5 hown4 hg4 hat4))
      have hge : ∀ y ∈ u9.ownBlock.toList, H ≤ y := fun y hy => own_ge HR9.out (by simpa using hy)
      have hf3 := ((Fr.refl u9.ownBlock.toList w4).alloc (.cells (fcells 1).toArray 4)).trans (Fr.of_grownO hg4) (fun y hy => .inl hy)
      have hz5 : H ≤ w5.heap.size := Nat.le_trans hz4 hf3.size
      have hrow : w5.ownsRow H 4 1 v9 (k + 1) (fcells (k + 1)) := by
        simp only [fcells, List.replicate_append_replicate] at hown4 ⊢
        exact hown4
      have HALL := Lib.hid (And.intro (hf3.own HR7.out (fun g hg hm => HB79.out g hg (by simpa using hm))) (And.intro (hf3.own HR8.out (fun g hg hm => HC89.out g hg (by simpa using hm))) (And.intro hrow (And.intro HC78.out (And.intro
        (apart_of HB79.out.symm (own_alloc HR7.out (.cells (fcells 1).toArray 4)) hat4).symm (And.intro (apart_of HC89.out.symm (own_alloc HR8.out (.cells (fcells 1).toArray 4)) hat4).symm (HF4.out.trans hf3 (fun y hy => .inr (by have := hge y hy; omega)))))))))
      clear hge hf3 hrow hown4 hg4 hat4
      go_wp2_with fail
      go_roundw
      case rel => exact ⟨k + 1, by omega, by go_num, HALL.out.1, HALL.out.2.1, HALL.out.2.2.1, HALL.out.2.2.2.1, HALL.out.2.2.2.2.1, HALL.out.2.2.2.2.2.1, HALL.out.2.2.2.2.2.2, hz5⟩
      case measure => simp [intOf]; omega
    · obtain rfl : k = n := by omega
      have h7 := HO7.out
      have h8 := HO8.out
      rw [List.take_of_length_le (by rw [HRL.out]; exact Nat.le_refl _)] at h7 h8
      obtain ⟨A7, c7, A8, c8, A9, c9, rfl, rfl, rfl, hRR⟩ := refRows_of HRL.out h7 h8 HO9.out HA79.out HA89.out
      have HRR := Lib.hid hRR
      obtain ⟨T, hT⟩ : ∃ T, wr.heap.size = T := ⟨_, rfl⟩
      rw [hT] at HRR
      have hwT : H ≤ T := by omega
      have hTw : T ≤ wr.heap.size := by omega
      have HT := Lib.hid hT
      have HHH := Lib.hid hH
      have h4 : ¬ k < ns.length ∨ (k < ns.length ∧ ¬ k < ws.length) := by have := HN4.out; omega
      clear h7 h8 hRR hT hlt hH
      rcases h4 with h4 | ⟨h4, h5⟩
      all_goals
        go_wp2_with fail
        go_loopw [13] (fun v13 w1 => ∃ m : Nat, m ≤ k ∧ ∃ V c, v13 = .slice V m c ∧ w1.ownsRow T 3 1 (.slice V m c) m (icells ((pl.take m).map fun p : Nat => (p : Int))) ∧ Fr [] w w1 ∧ RefRows w1 H T A7 A8 A9 rl (pl.take m) ∧ T ≤ w1.heap.size) (fun v _ => k - lenV v)
        case atStart => exact ⟨0, Nat.zero_le _, none, 0, rfl, by simp [icells]; exact World.ownsRow_nil _ _ _ _, HFR.out, by rw [List.take_zero]; exact HRR.out, hTw⟩
        case round =>
          obtain ⟨m, hm, V, c, rfl, ho, hf1, hr1, hTw1⟩ := hrel
          have HO := Lib.hid ho
          have HF1 := Lib.hid hf1
          have HR1 := Lib.hid hr1
          clear ho hf1 hr1
          by_cases hmk : m < k
          · obtain ⟨p, hp, hpk, hsel⟩ := HPL.out m hmk
            have hpt : pl.take (m + 1) = pl.take m ++ [p] := by rw [List.take_add_one, hp]; rfl
            have HPT := Lib.hid hpt
            have HSEL := Lib.hid hsel
            clear hp hpt hsel
            obtain ⟨g7, g8, g9, rfl, rfl, rfl, h7, h8, h9, hlo, _⟩ := HR1.out (by rw [HRL.out]; omega)
            obtain ⟨dn, hdn⟩ : ∃ dn, pl.take m = dn := ⟨_, rfl⟩
            rw [hdn] at HR1 HPT HSEL HO
            clear hdn
            go_wp2_with fail
            go_loopw [14, 15] (fun b i w3 => ∃ j : Nat, j ≤ k ∧ i = .int .i64 j ∧ ((sel rl dn j = none ∧ b = .int .i64 (-1)) ∨ ∃ q : Nat, sel rl dn j = some q ∧ b = .int .i64 q) ∧ Fr [] wr w3) (fun _ i _ => k - (intOf i).toNat)
            case atStart => exact ⟨0, Nat.zero_le _, rfl, .inl ⟨rfl, rfl⟩, Fr.refl _ _⟩
            case round =>
              obtain ⟨j, hjk, rfl, hsl, hf3⟩ := hrel
              have HF3 := Lib.hid hf3
              have hr3 := HR1.out.fr hf3 hTw1 (by simp)
              have HR3 := Lib.hid hr3
              have HSL := Lib.hid hsl
              clear hf3 hr3 hsl
              obtain ⟨g7', g8', g9', e7, e8, e9, _, _, _, _, _, _, hc, cur, hB, hq⟩ := HR3.out (by rw [HRL.out]; omega)
              obtain rfl : g7 = g7' := by injection e7 with e; injection e
              obtain rfl : g8 = g8' := by injection e8 with e; injection e
              obtain rfl : g9 = g9' := by injection e9 with e; injection e
              have HC3 := Lib.hid hc
              have HB3 := Lib.hid (And.intro hB hq)
              clear e7 e8 e9 hc hB hq
              by_cases hj : j < k
              · obtain ⟨x, hx⟩ : ∃ x, rl[j]? = some x := ⟨_, List.getElem?_eq_getElem (by rw [HRL.out]; omega)⟩
                have HXX := Lib.hid hx
                clear hx
                have hcj := (HB3.out.1.cell j).trans (HB3.out.2 j (by rw [HRL.out]; omega))
                by_cases hd : j ∈ dn
                · rw [show decide (j ∈ dn) = true by simpa using hd] at hcj
                  have HD := Lib.hid hd
                  clear hd
                  go_wp2_with fail
                  go_roundw
                  case rel => exact ⟨j + 1, by omega, by go_num, by rw [sel_done HD.out]; exact HSL.out, HF3.out⟩
                  case measure => simp [intOf]; omega
                · rw [show decide (j ∈ dn) = false by simpa using hd] at hcj
                  have HD := Lib.hid hd
                  clear hd
                  have hsl := HSL.out
                  rcases hsl with ⟨hs0, rfl⟩ | ⟨q, hs0, rfl⟩
                  · have HS0 := Lib.hid hs0
                    clear hs0
                    go_wp2_with fail
                    refine wp_only (r17_first _ ?_)
                    intro m1 d67 d68 d69 d70 d71 d72 d73 d74 d75 d76 d77 d78 d79 d80 d81 d82 d83 d84 d85 d86 d87 d88 d89 d90 d91 d92 d93 d94 d95 d96 d97 d98 d99 d100 d101 d102
                    go_wp2_with fail
                    go_roundw
                    case rel => exact ⟨j + 1, by omega, by go_num, .inr ⟨j, sel_first HD.out HS0.out, rfl⟩, HF3.out.drewN _⟩
                    case measure => simp [intOf]; omega
                  · have hqj := (sel_lt hs0).1
                    obtain ⟨y, hy⟩ : ∃ y, rl[q]? = some y := ⟨_, List.getElem?_eq_getElem (by rw [HRL.out]; omega)⟩
                    have HSN := Lib.hid (sel_next HD.out hs0 HXX.out hy)
                    have HY := Lib.hid hy
                    clear hs0 hy
                    obtain ⟨bt, hbt⟩ : ∃ bt, better x y = bt := ⟨_, rfl⟩
                    have HBT := Lib.hid hbt
                    clear hbt
                    go_wp2_with fail
                    refine wp_only (r17_next g7 g8 k c7 c8 q j x y _ (by omega) hj (by omega) (HC3.out j x HXX.out).2 (HC3.out q y HY.out).2 (HC3.out j x HXX.out).1 (HC3.out q y HY.out).1 ?_)
                    intro m1 d67 d68 d69 d70 d71 d72 d73 d74 d75 d76 d77 d78 d79 d80 d81 d82 d83 d84 d85 d86 d87 d88 d89 d90 d91 d92 d93 d94 d95 d96 d97 d98 d99 d100 d101 d102
                    rw [HBT.out]
                    rw [HBT.out] at HSN
                    cases bt
                    · go_wp2_with fail
                      go_roundw
                      case rel => exact ⟨j + 1, by omega, by go_num, .inr ⟨q, by rw [HSN.out]; rfl, rfl⟩, HF3.out.drewN _⟩
                      case measure => simp [intOf]; omega
                    · go_wp2_with fail
                      go_roundw
                      case rel => exact ⟨j + 1, by omega, by go_num, .inr ⟨j, by rw [HSN.out]; rfl, rfl⟩, HF3.out.drewN _⟩
                      case measure => simp [intOf]; omega
              · obtain rfl : j = k := by omega
                have hsl := HSL.out
                rw [HSEL.out] at hsl
                obtain ⟨q, hqp, rfl⟩ : ∃ q : Nat, some p = some q ∧ u14 = Value.int .i64 q := by
                  rcases hsl with ⟨h, _⟩ | h
                  · cases h
                  · exact h
                obtain rfl : p = q := Option.some.inj hqp
                have hcp := (HB3.out.1.cell p).trans (HB3.out.2 p (by rw [HRL.out]; exact hpk))
                have hfz := HB3.out.1.frozen p
                obtain ⟨wy, hwy⟩ : ∃ wy, wr.setCell ⟨g9, p, none⟩ (.bool true) = wy := ⟨_, rfl⟩
                have hfy : Fr [g9] wr wy := by rw [← hwy]; exact (Fr.refl [g9] wr).setCell (.inl (by simp)) _
                have hry := HR3.out.done (p := p) (by rw [HRL.out]; exact hpk)
                rw [hwy] at hry
                have HRY := Lib.hid hry
                have hox := HF3.out.own HO.out (by simp)
                have HOY := Lib.hid (hfy.own hox (fun g hg hm => by simp at hm; have := own_ge hox hg; omega))
                have HFY := Lib.hid ((HF1.out.trans HF3.out (by simp)).trans hfy (fun y hy => .inr (by simp at hy; have := HHH.out; omega)))
                have hTy : T ≤ wy.heap.size := Nat.le_trans hTw1 (Nat.le_trans HF3.out.size hfy.size)
                have HWY := Lib.hid hwy
                obtain ⟨i3, hi3, hz30, hz31, hz32⟩ := info_parts info3
                clear hsl hqp hfy hry hox hwy hj
                go_upto_region 20 with fail
                rw [HWY.out]
                go_wp2_with (first
                  | (at_builtin; refine wpList_append_any _ rfl (.tmp 108) (.tmp 110) _ rfl T 3 i3 _ 1 8 Try.underlying40 hi3 hz30 hz31 hz32 rfl (by omega) (.slice V m c) m (icells (dn.map fun p : Nat => (p : Int))) rfl (own_alloc HOY.out _) (wy.heap.size + 1) (some ⟨wy.heap.size, 0, none⟩) 1 1 (icells [(p : Int)]) rfl (reads_new wy 3 (icells [(p : Int)]) 1 rfl) (icells_one _) (by simp only [maxLen]; omega) (by omega) (by simp; omega) ?_; intro v4 w5 hown4 hg4 hat4))
                have hge : ∀ y ∈ (Value.slice V m c).ownBlock.toList, T ≤ y := fun y hy => own_ge HOY.out (by simpa using hy)
                have hf5 := ((Fr.refl (Value.slice V m c).ownBlock.toList wy).alloc (.cells (icells [(p : Int)]).toArray 3)).trans (Fr.of_grownO hg4) (fun y hy => .inl hy)
                have hrow : w5.ownsRow T 3 1 v4 (m + 1) (icells ((pl.take (m + 1)).map fun p : Nat => (p : Int))) := by
                  rw [HPT.out]
                  simp only [icells, List.map_append, List.map_cons, List.map_nil] at hown4 ⊢
                  exact hown4
                obtain ⟨V4, c4, rfl, _⟩ := own_cell hrow
                have HALL := Lib.hid (And.intro hrow (And.intro (HFY.out.trans hf5 (fun y hy => .inr (by have := hge y hy; have := HHH.out; omega))) (HRY.out.fr hf5 hTy hge)))
                have hT5 : T ≤ w5.heap.size := Nat.le_trans hTy hf5.size
                clear hown4 hg4 hat4 hge hf5 hrow
                go_wp2_with fail
                go_roundw
                case rel => exact ⟨m + 1, by omega, V4, c4, rfl, HALL.out.1, HALL.out.2.1, by rw [HPT.out]; exact HALL.out.2.2, hT5⟩
                case measure => simp [lenV]; omega
          · obtain rfl : m = k := by omega
            have hrow := own_base HO.out hwT
            rw [List.take_of_length_le (by rw [HOL.out]; exact Nat.le_refl _)] at hrow
            have HALL := Lib.hid hrow
            clear hrow
            go_wp2_with fail
            go_ret
            exact ⟨_, rfl, HALL.out, HF1.out⟩

end Go.Proofs.Ytkioniffgmalgaa
