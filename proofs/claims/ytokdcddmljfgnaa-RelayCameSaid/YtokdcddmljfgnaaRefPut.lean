/-
  The reference ring's Put.
-/
import Derived.Test.YtokdcddmljfgnaaRef01
import Derived.Deep.RegionLaw
namespace Go.Proofs.Ytokdcddmljfgnaa
open Go.RowKit Go.Shelf
set_option linter.unusedVariables false

set_option maxRecDepth 100000 in
set_option maxHeartbeats 1000000 in
theorem rput_calls (q base N : Nat) (v : Value) (xs bs : List Int) (A : Option Addr) (c : Nat) (w : World) (hB : Blk w q 46 #[.int .i64 N, v]) (ho : w.ownsRow base 5 1 v xs.length (bcells xs)) (hq : q < base) (hbw : base ≤ w.heap.size) (hN : N ≤ 4096) (hxl : xs.length ≤ N)
    (hX : BytesAt w A bs (fun b => b ≠ q ∧ v.ownBlock ≠ some b)) (hl : bs.length ≤ 9223372036854775807) :
    Calls Try.prog 23 #[.pointer (some ⟨q, 0, none⟩), .slice A bs.length c] w fun e w' => e = .returned (.int .i64 (min bs.length (N - xs.length) : Nat)) ∧
      ∃ v', Blk w' q 46 #[.int .i64 N, v'] ∧ w'.ownsRow base 5 1 v' (xs ++ bs.take (min bs.length (N - xs.length))).length (bcells (xs ++ bs.take (min bs.length (N - xs.length)))) ∧ (v'.ownBlock = v.ownBlock ∨ ∃ g, v'.ownBlock = some g ∧ w.heap.size ≤ g) ∧ Fr (q :: v.ownBlock.toList) w w' := by
  obtain ⟨m, hm⟩ : ∃ m, min bs.length (N - xs.length) = m := ⟨_, rfl⟩
  rw [hm]
  obtain ⟨i0, hi, hz0, hz1, hz2⟩ := info_parts info5
  have HX := Lib.hid hX
  have HB := Lib.hid hB
  have HO := Lib.hid ho
  clear hX hB ho
  go_enter Try.func23, Try.ntmps23
  go_wp2_with fail
  go_loopw [5] (fun i wr => ∃ (n : Nat) (u : Value), n ≤ m ∧ i = .int .i64 n ∧ Blk wr q 46 #[.int .i64 N, u] ∧ wr.ownsRow base 5 1 u (xs ++ bs.take n).length (bcells (xs ++ bs.take n)) ∧ (u.ownBlock = v.ownBlock ∨ ∃ g, u.ownBlock = some g ∧ w.heap.size ≤ g) ∧ Fr (q :: v.ownBlock.toList) w wr) (fun i _ => m - (intOf i).toNat)
  case atStart => exact ⟨0, v, by omega, rfl, HB.out, by simpa using HO.out, .inl rfl, Fr.refl _ _⟩
  case round =>
    obtain ⟨n, u, hn, rfl, hBr, hor, hur, hfr⟩ := hrel
    have hln : (xs ++ bs.take n).length = xs.length + n := by simp; omega
    have HOX := Lib.hid hor
    rw [hln] at hor
    obtain ⟨U, cu, rfl⟩ := own_slice hor
    have hq0 : wr.cell? ⟨q, 0, none⟩ = some (.int .i64 N) := hBr.cell 0
    have hq1 : wr.cell? ⟨q, 1, none⟩ = some (.slice U (xs.length + n) cu) := hBr.cell 1
    have hz1' := hBr.frozen 1
    have HBR := Lib.hid hBr
    have HUR := Lib.hid hur
    have HFR := Lib.hid hfr
    clear hBr hur hfr hln
    by_cases hlt : n < m
    · have hd1 : decide ((n : Int) < bs.length) = true := by simp; omega
      have hd2 : decide (((xs.length + n : Nat) : Int) < N) = true := by simp; omega
      have hd3 : (n : Int) < bs.length := by omega
      have hd4 : ((xs.length + n : Nat) : Int) < N := by omega
      obtain ⟨b, o, rfl, hbn, hbl, hce⟩ := HX.out (by omega)
      have hx := hce n (by omega)
      have hbn2 : b ∉ (q :: v.ownBlock.toList) := by
        simp only [List.mem_cons, Option.mem_toList, not_or]
        exact ⟨hbn.1, fun h => hbn.2 h⟩
      have hx2 := (HFR.out.cell (p := ⟨b, o + n, none⟩) hbl hbn2).trans hx
      obtain ⟨x, hxe⟩ : ∃ x, bs.getD n 0 = x := ⟨_, rfl⟩
      rw [hxe] at hx2
      have hsuc : bs.take (n + 1) = bs.take n ++ [x] := by
        rw [List.take_add_one, ← hxe, List.getD_eq_getElem?_getD, List.getElem?_eq_getElem (by omega)]; rfl
      have HSU := Lib.hid hsuc
      clear hsuc hce hxe hx
      go_wp2_with fail
      go_quiet (fail)
      go_wp2_with fail
      have hfq : Fr [] wr (wr.drewN nq).drew := ((Fr.refl [] wr).drewN nq).drew
      have hfd : Fr [] wr ((wr.drewN nq).drew.alloc (.cells #[.int .u8 x] 5)) := hfq.alloc _
      have HOR := Lib.hid (hfd.ownB hor (by simp))
      have HRD : Hid (Reads ((wr.drewN nq).drew.alloc (.cells #[.int .u8 x] 5)) (wr.heap.size + 1) 1 (some ⟨wr.heap.size, 0, none⟩) 1 [.int .u8 x]) := Lib.hid ⟨rfl, fun _ => ⟨_, rfl, by simp, cell_one_new (wr.drewN nq).drew _ _⟩⟩
      have hbwr := HFR.out.size
      have hBd : Blk ((wr.drewN nq).drew.alloc (.cells #[.int .u8 x] 5)) q 46 #[.int .i64 N, .slice U (xs.length + n) cu] := hfd.blk HBR.out (by simp)
      have HBD := Lib.hid hBd
      have hgU : ∀ g, (Value.slice U (xs.length + n) cu).ownBlock = some g → base ≤ g := fun g hg => own_ge hor hg
      have HGU := Lib.hid hgU
      clear hBd hgU
      have hq1d : ((wr.drewN (nq + 1)).alloc (.cells #[.int .u8 x] 5)).cell? ⟨q, 1, none⟩ = some (.slice U (xs.length + n) cu) := HBD.out.cell 1
      go_region_law (first
        | (refine step_append_any _ rfl (.tmp 26) (.tmp 31) _ rfl base 5 i0 _ 1 1 Try.underlying22 hi hz0 hz1 hz2 rfl (by omega) (.slice U (xs.length + n) cu) (xs.length + n) (bcells (xs ++ bs.take n)) rfl HOR.out (wr.heap.size + 1) (some ⟨wr.heap.size, 0, none⟩) 1 1 [.int .u8 x] rfl HRD.out (by simp [Value.oneCell']) (by simp only [maxLen]; omega) (by omega) (by simp; omega) ?_; intro v4 w3 hown4 hg4 hat4; have hb3 := blk_grown HBD.out hg4 (fun e => by have := HGU.out q e; omega); have he3 : w3.cell? ⟨q, 1, none⟩ = some (.slice U (xs.length + n) cu) := hb3.cell 1; have hz3 := hb3.frozen 1; obtain ⟨V4, c4, rfl⟩ := own_slice hown4))
      all_goals (
        have hqq : ∀ x ∈ (Value.slice U (xs.length + n) cu).ownBlock.toList, x ∈ (q :: v.ownBlock.toList) ∨ w.heap.size ≤ x := by
          intro x hx
          have hx' : (Value.slice U (xs.length + n) cu).ownBlock = some x := by simpa using hx
          rcases HUR.out with h | ⟨g, h, hg⟩
          · rw [h] at hx'; exact .inl (by simp [hx'])
          · rw [h] at hx'; cases hx'; exact .inr hg
        have hF3 := ((HFR.out.trans hfd (by simp)).trans (Fr.of_grownO hg4) hqq).setCell (p := ⟨q, 1, none⟩) (.inl (by simp)) (.slice V4 (xs.length + n + 1) c4)
        have hlx : (xs ++ bs.take (n + 1)).length = xs.length + n + 1 := by simp; omega
        have hO3 : (w3.setCell ⟨q, 1, none⟩ (.slice V4 (xs.length + n + 1) c4)).ownsRow base 5 1 (.slice V4 (xs.length + n + 1) c4) (xs ++ bs.take (n + 1)).length (bcells (xs ++ bs.take (n + 1))) := by
          rw [hlx, HSU.out, ← List.append_assoc, bcells_append]
          exact Fr.ownB (L := [q]) ((Fr.refl [q] w3).setCell (p := ⟨q, 1, none⟩) (.inl (by simp)) _) hown4 (by simp; omega)
        have hU3 : (Value.slice V4 (xs.length + n + 1) c4).ownBlock = v.ownBlock ∨ ∃ g, (Value.slice V4 (xs.length + n + 1) c4).ownBlock = some g ∧ w.heap.size ≤ g := by
          rcases hat4 with h | h
          · rw [h]; exact HUR.out
          · exact .inr ⟨_, h, by simp; omega⟩
        have HALL := Lib.hid (And.intro (hb3.set_ 1 (.slice V4 (xs.length + n + 1) c4)) (And.intro hO3 (And.intro hU3 hF3)))
        clear hqq hF3 hO3 hU3 hown4 hg4 hat4 hb3 hlx
        go_wp2_with fail
        go_roundw
        case rel => exact ⟨n + 1, _, by omega, by go_num, HALL.out.1, HALL.out.2.1, HALL.out.2.2.1, HALL.out.2.2.2⟩
        case measure => simp [intOf]; omega)
    · obtain rfl : n = m := by omega
      by_cases hnb : n < bs.length
      · have hd1 : decide ((n : Int) < bs.length) = true := by simp; omega
        have hd2 : decide (((xs.length + n : Nat) : Int) < N) = false := by simp; omega
        have hd4 : ¬ ((xs.length + n : Nat) : Int) < N := by omega
        go_wp2_with fail
        go_quiet (fail)
        go_wp2_with fail
        go_ret
        exact ⟨rfl, _, HBR.out, HOX.out, HUR.out, HFR.out.drewN _⟩
      · have hd1 : decide ((n : Int) < bs.length) = false := by simp; omega
        go_wp2_with fail
        go_quiet (fail)
        go_wp2_with fail
        go_ret
        exact ⟨rfl, _, HBR.out, HOX.out, HUR.out, HFR.out.drewN _⟩

end Go.Proofs.Ytokdcddmljfgnaa
