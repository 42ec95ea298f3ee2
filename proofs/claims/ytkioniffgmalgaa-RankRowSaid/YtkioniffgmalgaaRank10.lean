/-
  rank's Order walked.
-/
import Derived.Test.YtkioniffgmalgaaRank9
import Derived.Test.YtkioniffgmalgaaRank8
namespace Go.Proofs.Ytkioniffgmalgaa
open Go.RowKit Go.Sort Sp
set_option linter.unusedVariables false

/-- Runners at A, in a block ahead of T. -/
def RowT (w : World) (T : Nat) (A : Option Addr) (l : List Rn) : Prop :=
  0 < l.length → ∃ g, A = some ⟨g, 0, none⟩ ∧ g < T ∧ ∀ (k : Nat) (r : Rn), l[k]? = some r → w.cell? ⟨g, k * 3, none⟩ = some (.int .i64 r.place) ∧ w.cell? ⟨g, k * 3 + 1, none⟩ = some (.int .u64 r.score) ∧ w.cell? ⟨g, k * 3 + 2, none⟩ = some (.bool r.has)
theorem RowT.fr {w w' : World} {T : Nat} {A : Option Addr} {l : List Rn} {L : List Nat} (h : RowT w T A l) (hf : Fr L w w') (hT : T ≤ w.heap.size) (hL : ∀ x ∈ L, T ≤ x) : RowT w' T A l := fun hp => by
  obtain ⟨g, e, hb, hc⟩ := h hp
  have hn : g ∉ L := fun hm => by have := hL g hm; omega
  refine ⟨g, e, hb, fun k r hk => ?_⟩
  obtain ⟨c0, c1, c2⟩ := hc k r hk
  exact ⟨(hf.cell (p := ⟨g, _, none⟩) (Nat.lt_of_lt_of_le hb hT) hn).trans c0, (hf.cell (p := ⟨g, _, none⟩) (Nat.lt_of_lt_of_le hb hT) hn).trans c1, (hf.cell (p := ⟨g, _, none⟩) (Nat.lt_of_lt_of_le hb hT) hn).trans c2⟩
theorem RowR.rowT {w : World} {base : Nat} {A : Option Addr} {l : List Rn} (h : RowR w base A l) : RowT w w.heap.size A l := fun hp => by
  obtain ⟨g, e, _, hlt, hc⟩ := h hp
  exact ⟨g, e, hlt, hc⟩
theorem own_base {w : World} {b b' : Nat} {e : TypeId} {n size : Nat} {v : Value} {xs : List Value} (h : w.ownsRow b e size v n xs) (hb : b' ≤ b) : w.ownsRow b' e size v n xs := by
  refine ⟨h.1, ?_⟩
  rcases h.2 with h1 | ⟨g, cap, cur, h2, h3, h4⟩
  · exact .inl h1
  · exact .inr ⟨g, cap, cur, h2, Nat.le_trans hb h3, h4⟩
theorem icells_one (l : List Int) : ∀ u ∈ icells l, u.oneCell' = true := fun u hu => by
  simp only [icells, List.mem_map] at hu
  obtain ⟨x, _, rfl⟩ := hu
  rfl
theorem own_alloc {w : World} {base : Nat} {e : TypeId} {size n : Nat} {v : Value} {xs : List Value} (h : w.ownsRow base e size v n xs) (o : Obj) : (w.alloc o).ownsRow base e size v n xs := h.alloc o

set_option maxRecDepth 100000 in
set_option maxHeartbeats 2000000 in
theorem order_calls (key : List Int) (A : Option Addr) (ca : Nat) (ns : List ByteArray) (B : Option Addr) (cb : Nat) (ws : List Int) (C : Option Addr) (cc : Nat) (w : World)
    (hX : BytesAt w A key (fun _ => True)) (hb : Byts key) (hkl : key.length ≤ 1000) (hN : StrsAt w B ns (fun _ => True)) (hs : ∀ s ∈ ns, s.size ≤ 100) (hW : IntsAt w C ws (fun _ => True)) (hws : ∀ x ∈ ws, -9223372036854775808 ≤ x ∧ x ≤ 9223372036854775807) (hl : ns.length ≤ 1000) (hl2 : ws.length ≤ 9223372036854775807) :
    Calls Try.prog 26 #[.slice A key.length ca, .slice B ns.length cb, .slice C ws.length cc] w fun e w' => ∃ v, e = .returned v ∧ w'.ownsRow w.heap.size 3 1 v (min ns.length ws.length) (icells (ordS key ns ws)) ∧ Fr [] w w' := by
  have HH := Lib.hid (halves_calls key A ca w hX hb hkl)
  have HC := Lib.hid (fun (k : Nat) (s : ByteArray) (x : Int) (h1 : ns[k]? = some s) (h2 : ws[k]? = some x) W => score_calls key s x W hb (hs s (List.mem_of_getElem? h1)) (hws x (List.mem_of_getElem? h2)))
  have HN := Lib.hid hN
  have HW := Lib.hid hW
  have HRL := Lib.hid (runs_len key ns ws)
  have HRG := Lib.hid (fun (k : Nat) (s : ByteArray) (x : Int) (h1 : ns[k]? = some s) (h2 : ws[k]? = some x) => runs_get key ns ws h1 h2)
  have hod : ordS key ns ws = (ordR (runs key ns ws)).map fun r => (r.place : Int) := rfl
  obtain ⟨rl, hrl⟩ : ∃ rl, runs key ns ws = rl := ⟨_, rfl⟩
  rw [hrl] at HRL HRG hod
  rw [hod]
  obtain ⟨n, hn⟩ : ∃ n, min ns.length ws.length = n := ⟨_, rfl⟩
  rw [hn] at HRL ⊢
  obtain ⟨ol, hol⟩ : ∃ ol, ordR rl = ol := ⟨_, rfl⟩
  have hoL : ol.length = n := by rw [← hol, ordR_len, HRL.out]
  rw [hol]
  have HOL := Lib.hid (And.intro hol hoL)
  clear hol hoL
  obtain ⟨a, ha⟩ : ∃ a, kA key = a := ⟨_, rfl⟩
  obtain ⟨b, hbb⟩ : ∃ b, kB key = b := ⟨_, rfl⟩
  rw [ha, hbb] at HH HC
  have hn2 : min (ns.length : Int) (ws.length : Int) = n := by omega
  have hn3 : n ≤ ns.length ∧ n ≤ ws.length := by omega
  clear hX hb hN hW hod hrl ha hbb hs hws
  go_enter Try.func26, Try.ntmps26
  go_wp2_with fail
  refine HH.out.mono ?_
  rintro e w1 ⟨rfl, hf1⟩
  obtain ⟨h, hh⟩ : ∃ h, w1.heap.size = h := ⟨_, rfl⟩
  have hlo := hf1.size
  have HA := Lib.hid (And.intro (by rw [← hh]; exact Blk.new w1 73 #[.int .u64 a, .int .u64 b] : Blk (w1.alloc (.cells #[.int .u64 a, .int .u64 b] 73)) h 73 #[.int .u64 a, .int .u64 b]) (hf1.alloc (.cells #[.int .u64 a, .int .u64 b] 73)))
  have HF1 := Lib.hid hf1
  have HHH := Lib.hid hh
  rw [hh] at hlo
  clear hf1 hh
  go_upto_region 3 with fail
  rw [HHH.out]
  go_cut [21, 22] from 17 (fun s21 s22 wc => s21 = .int .i64 n ∧ s22 = .int .i64 0 ∧ (w1.alloc (.cells #[.int .u64 a, .int .u64 b] 73)) = wc)
  case first =>
    rcases Nat.lt_or_ge ws.length ns.length with h1 | h1
    · have h2 : (ws.length : Int) < (ns.length : Int) := by omega
      have h3 : ¬ (ns.length : Int) ≤ (ws.length : Int) := by omega
      go_wp2_with fail
      go_meet
      exact ⟨by simp, rfl, rfl⟩
    · have h2 : ¬ (ws.length : Int) < (ns.length : Int) := by omega
      have h3 : (ns.length : Int) ≤ (ws.length : Int) := by omega
      go_wp2_with fail
      go_meet
      exact ⟨by simp, rfl, rfl⟩
  case rest =>
    obtain ⟨rfl, rfl, rfl⟩ := hcut
    clear hn2
    go_wp2_with fail
    go_loopw [8, 22] (fun v8 i wr => ∃ k : Nat, k ≤ n ∧ i = .int .i64 k ∧ wr.ownsRow (h + 1) 78 3 v8 k (rcells (rl.take k)) ∧ Fr [] w wr ∧ Blk wr h 73 #[.int .u64 a, .int .u64 b] ∧ h + 1 ≤ wr.heap.size) (fun _ i _ => n - (intOf i).toNat)
    case atStart => exact ⟨0, by omega, rfl, by simp [rcells]; exact World.ownsRow_nil _ _ _ _, HA.out.2.mono (by simp), HA.out.1, HA.out.1.lt⟩
    case round =>
      obtain ⟨k, hkn, rfl, hown, hfr, hbk, hBw⟩ := hrel
      have HOW := Lib.hid hown
      have HFR := Lib.hid hfr
      have HBK := Lib.hid hbk
      clear hown hfr hbk
      by_cases hlt : k < n
      · obtain ⟨bn, on, rfl, _, hbn, hcn⟩ := HN.out (by omega)
        obtain ⟨bw, ow, rfl, _, hbw, hcw⟩ := HW.out (by omega)
        obtain ⟨s, hs⟩ : ∃ s, ns[k]? = some s := ⟨_, List.getElem?_eq_getElem (by omega)⟩
        obtain ⟨x, hx⟩ : ∃ x, ws[k]? = some x := ⟨_, List.getElem?_eq_getElem (by omega)⟩
        have hC1 : ((wr.drew.cell? ⟨h, 0, none⟩ = some (.int .u64 a) ∧ wr.drew.cell? ⟨h, 1, none⟩ = some (.int .u64 b)) ∧ wr.drew.cell? ⟨bn, on + k, none⟩ = some (.string s)) ∧ wr.drew.cell? ⟨bw, ow + k, none⟩ = some (.int .i64 x) := ⟨⟨⟨HBK.out.cell 0, HBK.out.cell 1⟩, (HFR.out.cell (p := ⟨bn, _, none⟩) hbn (by simp)).trans (hcn k s hs)⟩, (HFR.out.cell (p := ⟨bw, _, none⟩) hbw (by simp)).trans (hcw k x hx)⟩
        have hcs : ∀ W, Fr [] wr.drew W → ((W.cell? ⟨h, 0, none⟩ = some (.int .u64 a) ∧ W.cell? ⟨h, 1, none⟩ = some (.int .u64 b)) ∧ W.cell? ⟨bn, on + k, none⟩ = some (.string s)) ∧ W.cell? ⟨bw, ow + k, none⟩ = some (.int .i64 x) := fun W hf => ⟨⟨⟨(hf.cell (p := ⟨h, 0, none⟩) HBK.out.lt (by simp)).trans hC1.1.1.1, (hf.cell (p := ⟨h, 1, none⟩) HBK.out.lt (by simp)).trans hC1.1.1.2⟩, (hf.cell (p := ⟨bn, _, none⟩) (Nat.lt_of_lt_of_le hbn HFR.out.size) (by simp)).trans hC1.1.2⟩, (hf.cell (p := ⟨bw, _, none⟩) (Nat.lt_of_lt_of_le hbw HFR.out.size) (by simp)).trans hC1.2⟩
        have HCS := Lib.hid hcs
        have hcall := HC.out k s x hs hx
        have hget := HRG.out k s x hs hx
        obtain ⟨sc, hsc⟩ : ∃ sc, scS key s x = sc := ⟨_, rfl⟩
        obtain ⟨q, hq⟩ : ∃ q, decide (0 < x) = q := ⟨_, rfl⟩
        rw [hsc, hq] at hcall hget
        have HCALL := Lib.hid hcall
        have HGET := Lib.hid hget
        clear hcall hget hsc hq hcs hcn hcw hs hx hbn hbw
        have hk1 : k < ns.length := by omega
        have hk2 : k < ws.length := by omega
        go_wp2_with fail
        go_region_held3 (fun w' => ((w'.cell? ⟨h, 0, none⟩ = some (.int .u64 a) ∧ w'.cell? ⟨h, 1, none⟩ = some (.int .u64 b)) ∧ w'.cell? ⟨bn, on + k, none⟩ = some (.string s)) ∧ w'.cell? ⟨bw, ow + k, none⟩ = some (.int .i64 x)) (first | exact hC1 | exact hC2) (first
          | (go_at_call 38; (with_reducible refine (HCALL.out _).mono ?_); rintro e w2 ⟨rfl, hf2⟩; have HF2 := Lib.hid hf2; have hC2 := HCS.out _ hf2; clear hf2))
        obtain ⟨i0, hi, hz0, hz1, hz2⟩ := info_parts info78
        have HOW2 := Lib.hid (HF2.out.own (w := wr.drew) HOW.out (by simp))
        have hBw2 : h + 1 ≤ w2.heap.size := Nat.le_trans hBw HF2.out.size
        go_wp2_with (first
          | (at_builtin; refine wpList_append_any _ rfl (.tmp 38) (.tmp 43) _ rfl (h + 1) 78 i0 _ 3 24 Try.underlying76 hi hz0 hz1 hz2 rfl (by omega) u8 k (rcells (rl.take k)) rfl (own_alloc HOW2.out _) (w2.heap.size + 1) (some ⟨w2.heap.size, 0, none⟩) 1 1 (encR ⟨k, sc, q⟩) rfl (reads_new w2 78 (encR ⟨k, sc, q⟩) 3 rfl) (encR_one _) (by simp only [maxLen]; omega) (by omega) (by simp; omega) ?_; intro v4 w3 hown4 hg4 hat4))
        have hge : ∀ x ∈ u8.ownBlock.toList, h + 1 ≤ x := fun x hx => own_ge HOW2.out (by simpa using hx)
        have hf3 := Fr.of_grownO hg4
        have hz3 := hg4.size
        have hrow : w3.ownsRow (h + 1) 78 3 v4 (k + 1) (rcells (rl.take (k + 1))) := by
          rw [List.take_add_one, HGET.out, Option.toList_some, rcells_append, rcells_one]
          exact hown4
        have HALL := Lib.hid (And.intro hrow (And.intro ((((HFR.out.drew).trans HF2.out (by simp)).alloc (.cells (encR ⟨k, sc, q⟩).toArray 78)).trans hf3 (fun x hx => .inr (by have := hge x hx; omega))) (hf3.blk ((HF2.out.blk (w := wr.drew) HBK.out (by simp)).alloc (.cells (encR ⟨k, sc, q⟩).toArray 78)) (fun hm => by have := hge _ hm; omega))))
        have hz4 : h + 1 ≤ w3.heap.size := by simp at hz3; omega
        clear hown4 hg4 hat4 hge hf3 hrow hz3
        go_wp2_with fail
        go_roundw
        case rel => exact ⟨k + 1, by omega, by go_num, HALL.out.1, HALL.out.2.1, HALL.out.2.2, hz4⟩
        case measure => simp [intOf]; omega
      · obtain rfl : k = n := by omega
        have hrow := HOW.out
        rw [List.take_of_length_le (by rw [HRL.out]; exact Nat.le_refl _), ← HRL.out] at hrow
        obtain ⟨P, cp, rfl, hsort⟩ := sort_any hrow (by rw [HRL.out]; omega)
        rw [HRL.out] at hsort
        rw [HOL.out.1] at hsort
        have HSORT := Lib.hid hsort
        clear hsort hrow
        rw [HRL.out]
        go_wp2_with fail
        refine HSORT.out.mono ?_
        rintro e w2 ⟨rfl, hR, L, hL, hf2⟩
        have HR := Lib.hid hR.rowT
        have HF2 := Lib.hid (HFR.out.trans hf2 (fun x hx => .inr (by have := hL x hx; omega)))
        obtain ⟨T, hT⟩ : ∃ T, w2.heap.size = T := ⟨_, rfl⟩
        have hwT : w.heap.size ≤ T := by rw [← hT]; exact HF2.out.size
        rw [hT] at HR
        have hTw : T ≤ w2.heap.size := by omega
        clear hR hL hf2 hT
        go_wp2_with fail
        go_loopw [12, 50] (fun v12 i wr => ∃ j : Nat, j ≤ k ∧ i = .int .i64 j ∧ wr.ownsRow T 3 1 v12 j (icells ((ol.map fun r => (r.place : Int)).take j)) ∧ Fr [] w wr ∧ RowT wr T P ol ∧ T ≤ wr.heap.size) (fun _ i _ => k - (intOf i).toNat)
        case atStart => exact ⟨0, by omega, rfl, by simp [icells]; exact World.ownsRow_nil _ _ _ _, HF2.out, HR.out, hTw⟩
        case round =>
          obtain ⟨j, hjk, rfl, ho, hfr, hR, hTr⟩ := hrel
          have HO := Lib.hid ho
          have HF := Lib.hid hfr
          have HRR := Lib.hid hR
          clear ho hfr hR
          by_cases hlt2 : j < k
          · obtain ⟨g, rfl, hgT, hcr⟩ := HRR.out (by rw [HOL.out.2]; omega)
            obtain ⟨r, hr⟩ : ∃ r, ol[j]? = some r := ⟨_, List.getElem?_eq_getElem (by rw [HOL.out.2]; omega)⟩
            obtain ⟨c0, c1, c2⟩ := hcr j r hr
            have HRJ := Lib.hid hr
            obtain ⟨rp, rs, rh⟩ := r
            simp only at c0 c1 c2
            clear hr hcr
            obtain ⟨i1, hi, hz0, hz1, hz2⟩ := info_parts info3
            obtain ⟨wb, hwb⟩ : ∃ wb, wr.alloc (.cells #[.int .i64 rp, .int .u64 rs, .bool rh] 78) = wb := ⟨_, rfl⟩
            have hfb : Fr [] wr wb := by rw [← hwb]; exact (Fr.refl [] wr).alloc _
            have hd0 : wb.cell? ⟨wr.heap.size, 0, none⟩ = some (.int .i64 rp) := by rw [← hwb]; exact (Blk.new wr 78 _).cell 0
            have HFB := Lib.hid hfb
            have HWB := Lib.hid hwb
            have hTb : T ≤ wb.heap.size := Nat.le_trans hTr hfb.size
            clear hfb hwb
            go_upto_region 14 with fail
            rw [HWB.out]
            go_wp2_with (first
              | (at_builtin; refine wpList_append_any _ rfl (.tmp 54) (.tmp 57) _ rfl T 3 i1 _ 1 8 Try.underlying40 hi hz0 hz1 hz2 rfl (by omega) u12 j (icells ((ol.map fun r => (r.place : Int)).take j)) rfl (own_alloc (HFB.out.own HO.out (by simp)) _) (wb.heap.size + 1) (some ⟨wb.heap.size, 0, none⟩) 1 1 (icells [(rp : Int)]) rfl (reads_new wb 3 (icells [(rp : Int)]) 1 rfl) (icells_one _) (by simp only [maxLen]; omega) (by omega) (by simp; omega) ?_; intro v4 w3 hown4 hg4 hat4))
            have hge : ∀ x ∈ u12.ownBlock.toList, T ≤ x := fun x hx => own_ge HO.out (by simpa using hx)
            have hf3 := Fr.of_grownO hg4
            have hz3 := hg4.size
            have hrow : w3.ownsRow T 3 1 v4 (j + 1) (icells ((ol.map fun r => (r.place : Int)).take (j + 1))) := by
              rw [List.take_add_one, List.getElem?_map, HRJ.out, Option.map_some, Option.toList_some]
              simp only [icells, List.map_append] at hown4 ⊢
              exact hown4
            have hRw := ((HRR.out.fr HFB.out hTr (by simp)).fr (Fr.alloc (Fr.refl [] wb) (.cells (icells [(rp : Int)]).toArray 3)) hTb (by simp)).fr hf3 (by simp; omega) hge
            have HALL := Lib.hid (And.intro hrow (And.intro (((HF.out.trans HFB.out (by simp)).alloc (.cells (icells [(rp : Int)]).toArray 3)).trans hf3 (fun x hx => .inr (by have := hge x hx; omega))) hRw))
            have hz4 : T ≤ w3.heap.size := by simp at hz3; omega
            clear hown4 hg4 hat4 hge hf3 hrow hz3 hRw
            go_wp2_with fail
            go_roundw
            case rel => exact ⟨j + 1, by omega, by go_num, HALL.out.1, HALL.out.2.1, HALL.out.2.2, hz4⟩
            case measure => simp [intOf]; omega
          · obtain rfl : j = k := by omega
            have hrow2 := own_base HO.out hwT
            rw [List.take_of_length_le (by rw [List.length_map, HOL.out.2]; exact Nat.le_refl _)] at hrow2
            have HALL := Lib.hid hrow2
            clear hrow2
            go_wp2_with fail
            go_ret
            exact ⟨_, rfl, HALL.out, HF.out⟩

end Go.Proofs.Ytkioniffgmalgaa
