/-
  RingOrder's walk.
-/
import Derived.Test.YtokdcddmljfgnaaTwo
namespace Go.Proofs.Ytokdcddmljfgnaa
open Go.RowKit Go.Shelf
set_option linter.unusedVariables false

/-- Two rows of the call's own lie apart. -/
def Apart (v u : Value) : Prop := ∀ g, v.ownBlock = some g → u.ownBlock ≠ some g
theorem Apart.symm {v u : Value} (h : Apart v u) : Apart u v := fun g hg hv => h g hv hg
theorem apart_of {v v' u : Value} {w : World} {base : Nat} {e : TypeId} {n : Nat} {xs : List Value} (h : Apart v u) (hu : w.ownsRow base e 1 u n xs) (ha : v'.ownBlock = v.ownBlock ∨ v'.ownBlock = some w.heap.size) : Apart v' u := by
  intro g hg hug
  rcases ha with h1 | h1
  · exact h g (by rw [← h1]; exact hg) hug
  · rw [h1] at hg; cases hg
    exact absurd (own_lt hu hug) (Nat.lt_irrefl _)

set_option maxRecDepth 100000 in
set_option maxHeartbeats 4000000 in
theorem order_calls (size : Int) (l : List ActD) (A : Option Addr) (cl : Nat) (w : World) (hX : Acts w w.heap.size A l) (hl : l.length ≤ 9223372036854775807) (hsz : -9223372036854775808 ≤ size ∧ size ≤ 9223372036854775807) :
    Calls Try.prog 5 #[.int .i64 size, .slice A l.length cl] w fun e w' => e = .returned (.bool true) ∧ Fr [] w w' := by
  have HX := Lib.hid hX
  clear hX
  by_cases hg : 1 ≤ size ∧ size ≤ 300
  · obtain ⟨N, rfl⟩ : ∃ N : Nat, size = N := ⟨size.toNat, by omega⟩
    have hN1 : 1 ≤ N ∧ N ≤ 300 := by omega
    have hd1 : decide ((N : Int) < 1) = false := by simp; omega
    have hd2 : decide (300 < (N : Int)) = false := by simp; omega
    go_enter Try.func5, Try.ntmps5
    go_wp2_with fail
    refine (awake01_calls w).mono ?_
    rintro e wa ⟨rfl, hfa⟩
    have hszf := hfa.size
    have HXA := Lib.hid (HX.out.fr hfa (Nat.le_refl _) (by simp))
    go_wp2_with fail
    refine (great_calls A cl l _ wa HXA.out hl).mono ?_
    rintro e wa' ⟨rfl, rfl⟩
    cases hgr : greatB l
    · obtain ⟨bb, hb1⟩ : ∃ b1, wa.heap.size = b1 := ⟨_, rfl⟩
      obtain ⟨rb, hr1⟩ : ∃ r1, wa.heap.size + 1 = r1 := ⟨_, rfl⟩
      have hn1 := new_good N wa (by omega) (by omega)
      rw [hr1, hb1] at hn1
      have hlen : l.length ≤ 100 := by simp [greatB] at hgr; omega
      have hbl : ∀ a ∈ l, a.bs.length ≤ 300 := by
        intro a ha
        simp [greatB] at hgr
        exact hgr.2 a ha
      have HBL := Lib.hid hbl
      have HFA := Lib.hid hfa
      have HN1 := Lib.hid hn1
      have hlo : w.heap.size ≤ rb ∧ w.heap.size ≤ bb := by omega
      have HBR := Lib.hid (And.intro hb1 hr1)
      clear hbl hfa hn1 hb1 hr1 hgr
      go_wp2_with fail
      refine HN1.out.mono ?_
      rintro e w1 ⟨rfl, hR1, hf1, hz1⟩
      obtain ⟨B, hB⟩ : ∃ B, w1.heap.size = B := ⟨_, rfl⟩
      have hBr : rb < B ∧ bb < B ∧ w.heap.size ≤ B := by have h := HBR.out; omega
      have HR1 := Lib.hid hR1
      have HF1 := Lib.hid (HFA.out.trans hf1 (by simp))
      clear hR1 hf1 hz1
      go_wp2_with fail
      go_loopw [7, 8, 9] (fun v7 v8 i wr => ∃ (k : Nat) (ins outs xs : List Int), k ≤ l.length ∧ i = .int .i64 k ∧ wr.ownsRow B 5 1 v7 ins.length (bcells ins) ∧ wr.ownsRow B 5 1 v8 outs.length (bcells outs) ∧ Apart v7 v8 ∧
        RingS wr rb bb N xs ∧ outs ++ xs = ins ∧ ins.length ≤ 300 * k ∧ Fr [] w wr ∧ B ≤ wr.heap.size) (fun _ _ i _ => l.length - (intOf i).toNat)
      case atStart => exact ⟨0, [], [], [], by omega, rfl, World.ownsRow_nil _ _ _ _, World.ownsRow_nil _ _ _ _, fun g hg => by simp [Value.ownBlock] at hg, HR1.out, rfl, by simp, HF1.out, by omega⟩
      case round =>
        obtain ⟨k, ins, outs, xs, hk, rfl, ho7, ho8, hap, hR, hio, hil, hfr, hBw⟩ := hrel
        have hol : outs.length ≤ ins.length := by rw [← hio]; simp
        obtain ⟨i0, hi, hz0, hz1, hz2⟩ := info_parts info5
        have HO7 := Lib.hid ho7
        have HO8 := Lib.hid ho8
        have HAP := Lib.hid hap
        have HR := Lib.hid hR
        have HIO := Lib.hid hio
        have HFR := Lib.hid hfr
        clear ho7 ho8 hap hR hio hfr
        by_cases hlt : k < l.length
        · obtain ⟨a, ha⟩ : ∃ a, l[k]? = some a := ⟨_, List.getElem?_eq_getElem hlt⟩
          have hacts := HX.out.fr HFR.out (Nat.le_refl _) (by simp)
          obtain ⟨ab, off, rfl, hab, hcell⟩ := hacts.1 (by omega)
          obtain ⟨c0, c1, c2⟩ := hcell k a ha
          have hok := hacts.2 a (List.mem_of_getElem? ha)
          have hbl := HBL.out a (List.mem_of_getElem? ha)
          have hkd := hok.2.2.1
          have hkd2 := hok.2.2.2.1
          have han := And.intro hok.2.2.2.2.1 hok.2.2.2.2.2.1
          have hac := And.intro hok.2.2.2.2.2.2.1 hok.2.2.2.2.2.2.2
          have HOK := Lib.hid hok
          clear hok hcell hacts ha
          obtain ⟨wb, hwb⟩ : ∃ wb, wr.alloc (.cells #[.int .u8 a.kind, .int .i64 a.n, .slice a.at_ a.bs.length a.cap] 24) = wb := ⟨_, rfl⟩
          have hfb : Fr [] wr wb := by rw [← hwb]; exact (Fr.refl [] wr).alloc _
          have hbk : Blk wb wr.heap.size 24 #[.int .u8 a.kind, .int .i64 a.n, .slice a.at_ a.bs.length a.cap] := by rw [← hwb]; exact Blk.new wr 24 _
          have hd0 : wb.cell? ⟨wr.heap.size, 0, none⟩ = some (.int .u8 a.kind) := hbk.cell 0
          have hd1' : wb.cell? ⟨wr.heap.size, 1, none⟩ = some (.int .i64 a.n) := hbk.cell 1
          have hd2' : wb.cell? ⟨wr.heap.size, 2, none⟩ = some (.slice a.at_ a.bs.length a.cap) := hbk.cell 2
          have hR2 := HR.out.fr hfb (by simp) (by simp)
          have HRB := Lib.hid hR2
          have HFB := Lib.hid hfb
          have HBK := Lib.hid hbk
          have HWB := Lib.hid hwb
          have hbw := hfb.size
          clear hfb hbk hR2 hwb
          have hcase : a.kind % 4 = 0 ∨ a.kind % 4 = 1 ∨ a.kind % 4 = 2 ∨ a.kind % 4 = 3 := by omega
          rcases hcase with hk4 | hk4 | hk4 | hk4
          case inl =>
            have hxp := (HOK.out.1.fr HFB.out (by simp)).imp (ok' := fun b => b ≠ rb ∧ b ≠ bb) (fun b _ hb => by omega)
            have hpt := put_calls rb bb N xs a.bs a.at_ a.cap wb HRB.out hxp HOK.out.2.1 hac.1 hac.2
            obtain ⟨n, hn⟩ : ∃ n, min a.bs.length (N - xs.length) = n := ⟨_, rfl⟩
            rw [hn] at hpt
            have hnl : n ≤ a.bs.length := by omega
            have HPT := Lib.hid hpt
            clear hpt hxp hn
            go_wp2_with fail
            rw [HWB.out]
            refine HPT.out.mono ?_
            rintro e w2 ⟨rfl, hR2, hf2⟩
            have hbk2 := hf2.blk HBK.out (by simp; omega)
            have he2 : w2.cell? ⟨wr.heap.size, 2, none⟩ = some (.slice a.at_ a.bs.length a.cap) := hbk2.cell 2
            have hq1 : decide ((n : Int) < 0) = false := by simp
            have hq2 : decide ((a.bs.length : Int) < n) = false := by simp; omega
            have hsl := fun wx => slice_h a.at_ a.bs.length a.cap n (by omega) wx
            have hxq := cut_at (m := a.cap) (l := 0) (n := n) ((HOK.out.1.fr HFB.out (by simp)).fr hf2 (fun b hb _ hm => by simp at hm; omega)) (by omega) hac.1
            have hrd := hxq.reads
            have hln : ((a.bs.drop 0).take n).length = n := by simp; omega
            rw [hln] at hrd
            have HRD := Lib.hid hrd
            have HO82 := Lib.hid (hf2.ownB (HFB.out.ownB HO8.out (by simp)) (by simp; omega))
            have HO72 := Lib.hid (hf2.ownB (HFB.out.ownB HO7.out (by simp)) (by simp; omega))
            have HF2 := Lib.hid ((HFR.out.trans HFB.out (by simp)).trans hf2 (by simp; omega))
            have HR2 := Lib.hid hR2
            have hz2' := hf2.size
            clear hxq hrd hR2 hf2 hbk2 hln
            go_wp2_with (first
              | (at_builtin; refine wpList_append_any _ rfl (.tmp 73) (.tmp 77) _ rfl B 5 i0 _ 1 1 Try.underlying22 hi hz0 hz1 hz2 rfl (by omega) u7 ins.length (bcells ins) rfl HO72.out w2.heap.size (cutA a.at_ a.cap 0) n a.cap (bcells ((a.bs.drop 0).take n)) rfl HRD.out (bcells_one _) (by simp only [maxLen]; omega) (by omega) (by omega) ?_; intro v4 w3 hown4 hg4 hat4))
            have hge : ∀ x ∈ u7.ownBlock.toList, B ≤ x := fun x hx => own_ge HO72.out (by simpa using hx)
            have hf3 := Fr.of_grownO hg4
            have hrel' : w3.ownsRow B 5 1 v4 (ins ++ a.bs.take n).length (bcells (ins ++ a.bs.take n)) := by
              rw [← bcells_append, List.drop_zero] at hown4
              rw [show (ins ++ a.bs.take n).length = ins.length + n by simp; omega]
              exact hown4
            have HALL := Lib.hid (And.intro hrel' (And.intro (hf3.own HO82.out (fun g hg hm => HAP.out g (by simpa using hm) hg)) (And.intro (apart_of HAP.out HO82.out hat4)
              (And.intro (HR2.out.fr hf3 (fun hm => by have := hge _ hm; omega) (fun hm => by have := hge _ hm; omega)) (HF2.out.trans hf3 (fun x hx => .inr (by have := hge x hx; omega)))))))
            have hz3 := hg4.size
            clear hown4 hg4 hat4 hge hf3 hrel'
            go_wp2_with fail
            go_roundw
            case rel => exact ⟨k + 1, ins ++ a.bs.take n, outs, xs ++ a.bs.take n, by omega, by go_num, HALL.out.1, HALL.out.2.1, HALL.out.2.2.1, HALL.out.2.2.2.1, by rw [← List.append_assoc, HIO.out], by simp; omega, HALL.out.2.2.2.2, by omega⟩
            case measure => simp [intOf]; omega
          case inr.inl =>
            have hxp := (HOK.out.1.fr HFB.out (by simp)).imp (ok' := fun b => b ≠ rb ∧ b ≠ bb) (fun b _ hb => by omega)
            have hpt := put_calls rb bb N xs a.bs a.at_ a.cap wb HRB.out hxp HOK.out.2.1 hac.1 hac.2
            obtain ⟨n, hn⟩ : ∃ n, min a.bs.length (N - xs.length) = n := ⟨_, rfl⟩
            rw [hn] at hpt
            have hnl : n ≤ a.bs.length := by omega
            have HPT := Lib.hid hpt
            clear hpt hxp hn
            go_wp2_with fail
            rw [HWB.out]
            refine HPT.out.mono ?_
            rintro e w2 ⟨rfl, hR2, hf2⟩
            have hbk2 := hf2.blk HBK.out (by simp; omega)
            have he2 : w2.cell? ⟨wr.heap.size, 2, none⟩ = some (.slice a.at_ a.bs.length a.cap) := hbk2.cell 2
            have hq1 : decide ((n : Int) < 0) = false := by simp
            have hq2 : decide ((a.bs.length : Int) < n) = false := by simp; omega
            have hsl := fun wx => slice_h a.at_ a.bs.length a.cap n (by omega) wx
            have hxq := cut_at (m := a.cap) (l := 0) (n := n) ((HOK.out.1.fr HFB.out (by simp)).fr hf2 (fun b hb _ hm => by simp at hm; omega)) (by omega) hac.1
            have hrd := hxq.reads
            have hln : ((a.bs.drop 0).take n).length = n := by simp; omega
            rw [hln] at hrd
            have HRD := Lib.hid hrd
            have HO82 := Lib.hid (hf2.ownB (HFB.out.ownB HO8.out (by simp)) (by simp; omega))
            have HO72 := Lib.hid (hf2.ownB (HFB.out.ownB HO7.out (by simp)) (by simp; omega))
            have HF2 := Lib.hid ((HFR.out.trans HFB.out (by simp)).trans hf2 (by simp; omega))
            have HR2 := Lib.hid hR2
            have hz2' := hf2.size
            clear hxq hrd hR2 hf2 hbk2 hln
            go_wp2_with (first
              | (at_builtin; refine wpList_append_any _ rfl (.tmp 73) (.tmp 77) _ rfl B 5 i0 _ 1 1 Try.underlying22 hi hz0 hz1 hz2 rfl (by omega) u7 ins.length (bcells ins) rfl HO72.out w2.heap.size (cutA a.at_ a.cap 0) n a.cap (bcells ((a.bs.drop 0).take n)) rfl HRD.out (bcells_one _) (by simp only [maxLen]; omega) (by omega) (by omega) ?_; intro v4 w3 hown4 hg4 hat4))
            have hge : ∀ x ∈ u7.ownBlock.toList, B ≤ x := fun x hx => own_ge HO72.out (by simpa using hx)
            have hf3 := Fr.of_grownO hg4
            have hrel' : w3.ownsRow B 5 1 v4 (ins ++ a.bs.take n).length (bcells (ins ++ a.bs.take n)) := by
              rw [← bcells_append, List.drop_zero] at hown4
              rw [show (ins ++ a.bs.take n).length = ins.length + n by simp; omega]
              exact hown4
            have HALL := Lib.hid (And.intro hrel' (And.intro (hf3.own HO82.out (fun g hg hm => HAP.out g (by simpa using hm) hg)) (And.intro (apart_of HAP.out HO82.out hat4)
              (And.intro (HR2.out.fr hf3 (fun hm => by have := hge _ hm; omega) (fun hm => by have := hge _ hm; omega)) (HF2.out.trans hf3 (fun x hx => .inr (by have := hge x hx; omega)))))))
            have hz3 := hg4.size
            clear hown4 hg4 hat4 hge hf3 hrel'
            go_wp2_with fail
            go_roundw
            case rel => exact ⟨k + 1, ins ++ a.bs.take n, outs, xs ++ a.bs.take n, by omega, by go_num, HALL.out.1, HALL.out.2.1, HALL.out.2.2.1, HALL.out.2.2.2.1, by rw [← List.append_assoc, HIO.out], by simp; omega, HALL.out.2.2.2.2, by omega⟩
            case measure => simp [intOf]; omega
          case inr.inr.inl =>
            obtain ⟨j, hj⟩ : ∃ j, min a.n.toNat xs.length = j := ⟨_, rfl⟩
            have htk := take_calls rb bb N xs a.n wb HRB.out han
            rw [hj] at htk
            have HTK := Lib.hid htk
            have hxn := HRB.out.lt
            clear htk
            go_wp2_with fail
            rw [HWB.out]
            refine HTK.out.mono ?_
            rintro e w2 ⟨v, rfl, ho, hR2, hf2⟩
            obtain ⟨A1, c1, rfl, hl1, hb1, hc1, hcm1⟩ := own_form ho
            have hrd := hb1.reads
            rw [hl1] at hrd
            have HRD := Lib.hid hrd
            have HLN := Lib.hid hl1
            have HO82 := Lib.hid (hf2.ownB (HFB.out.ownB HO8.out (by simp)) (by simp; omega))
            have HO72 := Lib.hid (hf2.ownB (HFB.out.ownB HO7.out (by simp)) (by simp; omega))
            have HF2 := Lib.hid ((HFR.out.trans HFB.out (by simp)).trans hf2 (by simp; omega))
            have HR2 := Lib.hid hR2
            have hz2' := hf2.size
            clear ho hb1 hrd hR2 hf2 hl1
            go_wp2_with (first
              | (at_builtin; refine wpList_append_any _ rfl (.tmp 81) (.tmp 85) _ rfl B 5 i0 _ 1 1 Try.underlying22 hi hz0 hz1 hz2 rfl (by omega) u8 outs.length (bcells outs) rfl HO82.out w2.heap.size A1 j c1 (bcells (xs.take j)) rfl HRD.out (bcells_one _) (by simp only [maxLen]; omega) (by omega) (by omega) ?_; intro v4 w3 hown4 hg4 hat4))
            have hge : ∀ x ∈ u8.ownBlock.toList, B ≤ x := fun x hx => own_ge HO82.out (by simpa using hx)
            have hf3 := Fr.of_grownO hg4
            have hrel' : w3.ownsRow B 5 1 v4 (outs ++ xs.take j).length (bcells (outs ++ xs.take j)) := by
              rw [← bcells_append] at hown4
              rw [show (outs ++ xs.take j).length = outs.length + j by rw [List.length_append, HLN.out]]
              exact hown4
            have HALL := Lib.hid (And.intro hrel' (And.intro (hf3.own HO72.out (fun g hg hm => HAP.out g hg (by simpa using hm))) (And.intro (apart_of HAP.out.symm HO72.out hat4).symm
              (And.intro (HR2.out.fr hf3 (fun hm => by have := hge _ hm; omega) (fun hm => by have := hge _ hm; omega)) (HF2.out.trans hf3 (fun x hx => .inr (by have := hge x hx; omega)))))))
            have hz3 := hg4.size
            clear hown4 hg4 hat4 hge hf3 hrel'
            go_wp2_with fail
            go_roundw
            case rel => exact ⟨k + 1, ins, outs ++ xs.take j, xs.drop j, by omega, by go_num, HALL.out.2.1, HALL.out.1, HALL.out.2.2.1, HALL.out.2.2.2.1, by rw [List.append_assoc, List.take_append_drop, HIO.out], by omega, HALL.out.2.2.2.2, by omega⟩
            case measure => simp [intOf]; omega
          case inr.inr.inr =>
            obtain ⟨j, hj⟩ : ∃ j, min a.n.toNat xs.length = j := ⟨_, rfl⟩
            have hpk := peek_calls rb bb N xs a.n wb HRB.out han
            rw [hj] at hpk
            have HPK := Lib.hid hpk
            have hxn := HRB.out.lt
            clear hpk
            go_wp2_with fail
            rw [HWB.out]
            refine HPK.out.mono ?_
            rintro e w2 ⟨v, rfl, ho, hf2⟩
            obtain ⟨A1, c1, rfl, hl1, hb1, hc1, hcm1⟩ := own_form ho
            have HB1 := Lib.hid (hb1.imp (ok' := fun b => b ≠ rb) (fun b _ hb => by omega))
            have HLN := Lib.hid hl1
            have hbk2 := hf2.blk HBK.out (by simp)
            have he1 : w2.cell? ⟨wr.heap.size, 1, none⟩ = some (.int .i64 a.n) := hbk2.cell 1
            have hR2a := HRB.out.fr hf2 (by simp) (by simp)
            have HR2A := Lib.hid hR2a
            have HF2A := Lib.hid hf2
            have hz2' := hf2.size
            clear ho hb1 hf2 hl1 hbk2 hR2a
            by_cases hbad : a.n < 0 ∨ (xs.length : Int) < a.n
            · go_wp2_with fail
              refine (skip_bad rb bb N xs a.n w2 HR2A.out hbad).mono ?_
              rintro e w3 ⟨rfl, rfl⟩
              have HALL := Lib.hid (And.intro (HF2A.out.ownB (HFB.out.ownB HO7.out (by simp)) (by simp)) (And.intro (HF2A.out.ownB (HFB.out.ownB HO8.out (by simp)) (by simp)) ((HFR.out.trans HFB.out (by simp)).trans HF2A.out (by simp))))
              go_wp2_with fail
              go_roundw
              case rel => exact ⟨k + 1, ins, outs, xs, by omega, by go_num, HALL.out.1, HALL.out.2.1, HAP.out, HR2A.out, HIO.out, by omega, HALL.out.2.2, by omega⟩
              case measure => simp [intOf]; omega
            · have hsk := skip_fit rb bb N j xs w2 HR2A.out (by omega)
              have hjn : (j : Int) = a.n := by omega
              rw [hjn] at hsk
              have HSK := Lib.hid hsk
              clear hsk hjn
              go_wp2_with fail
              refine HSK.out.mono ?_
              rintro e w4 ⟨rfl, hR4, hf4⟩
              have hrd := (HB1.out.fr hf4 (fun b hb _ hm => by simp at hm; exact hb hm)).reads
              rw [HLN.out] at hrd
              have HRD := Lib.hid hrd
              have HO82 := Lib.hid (hf4.ownB (HF2A.out.ownB (HFB.out.ownB HO8.out (by simp)) (by simp)) (by simp; omega))
              have HO72 := Lib.hid (hf4.ownB (HF2A.out.ownB (HFB.out.ownB HO7.out (by simp)) (by simp)) (by simp; omega))
              have HF2 := Lib.hid (((HFR.out.trans HFB.out (by simp)).trans HF2A.out (by simp)).trans hf4 (by simp; omega))
              have HR2 := Lib.hid hR4
              have hz4' := hf4.size
              clear hrd hR4 hf4
              go_wp2_with (first
                | (at_builtin; refine wpList_append_any _ rfl (.tmp 54) (.tmp 55) _ rfl B 5 i0 _ 1 1 Try.underlying22 hi hz0 hz1 hz2 rfl (by omega) u8 outs.length (bcells outs) rfl HO82.out w4.heap.size A1 j c1 (bcells (xs.take j)) rfl HRD.out (bcells_one _) (by simp only [maxLen]; omega) (by omega) (by omega) ?_; intro v4 w3 hown4 hg4 hat4))
              have hge : ∀ x ∈ u8.ownBlock.toList, B ≤ x := fun x hx => own_ge HO82.out (by simpa using hx)
              have hf3 := Fr.of_grownO hg4
              have hrel' : w3.ownsRow B 5 1 v4 (outs ++ xs.take j).length (bcells (outs ++ xs.take j)) := by
                rw [← bcells_append] at hown4
                rw [show (outs ++ xs.take j).length = outs.length + j by rw [List.length_append, HLN.out]]
                exact hown4
              have HALL := Lib.hid (And.intro hrel' (And.intro (hf3.own HO72.out (fun g hg hm => HAP.out g hg (by simpa using hm))) (And.intro (apart_of HAP.out.symm HO72.out hat4).symm
                (And.intro (HR2.out.fr hf3 (fun hm => by have := hge _ hm; omega) (fun hm => by have := hge _ hm; omega)) (HF2.out.trans hf3 (fun x hx => .inr (by have := hge x hx; omega)))))))
              have hz3 := hg4.size
              clear hown4 hg4 hat4 hge hf3 hrel'
              go_wp2_with fail
              go_roundw
              case rel => exact ⟨k + 1, ins, outs ++ xs.take j, xs.drop j, by omega, by go_num, HALL.out.2.1, HALL.out.1, HALL.out.2.2.1, HALL.out.2.2.2.1, by rw [List.append_assoc, List.take_append_drop, HIO.out], by omega, HALL.out.2.2.2.2, by omega⟩
              case measure => simp [intOf]; omega
        · obtain rfl : k = l.length := by omega
          go_wp2_with fail
          have hpk := peek_calls rb bb N xs N wr HR.out (by omega)
          have hxn := HR.out.lt
          rw [Int.toNat_natCast, Nat.min_eq_right hxn.2.2.2.2.2, List.take_length] at hpk
          refine hpk.mono ?_
          rintro e w2 ⟨v, rfl, ho, hf⟩
          obtain ⟨A1, c1, rfl, hl1, hb1, hc1, hcm1⟩ := own_form ho
          have hrd := hb1.reads
          have HRD := Lib.hid hrd
          have HO82 := Lib.hid (hf.ownB HO8.out (by simp))
          have HO72 := Lib.hid (hf.ownB HO7.out (by simp))
          have HF2 := Lib.hid (HFR.out.trans hf (by simp))
          have hz2' := hf.size
          have hio := congrArg List.length HIO.out
          simp at hio
          clear hpk ho hb1 hrd hf
          go_wp2_with (first
            | (at_builtin; refine wpList_append_any _ rfl (.tmp 87) (.tmp 90) _ rfl B 5 i0 _ 1 1 Try.underlying22 hi hz0 hz1 hz2 rfl (by omega) u8 outs.length (bcells outs) rfl HO82.out w2.heap.size A1 xs.length c1 (bcells xs) rfl HRD.out (bcells_one _) (by simp only [maxLen]; omega) (by omega) (by omega) ?_; intro v4 w3 hown4 hg4 hat4))
          have hge : ∀ x ∈ u8.ownBlock.toList, B ≤ x := fun x hx => own_ge HO82.out (by simpa using hx)
          have hf3 := Fr.of_grownO hg4
          rw [← bcells_append, HIO.out, hio] at hown4
          have ho7' := hf3.own HO72.out (fun g hg hm => HAP.out g hg (by simpa using hm))
          obtain ⟨A4, c4, rfl, _, hb4, hc4, hcm4⟩ := own_form hown4
          obtain ⟨A7, c7, rfl, _, hb7, hc7, hcm7⟩ := own_form ho7'
          have HF3 := Lib.hid (HF2.out.trans hf3 (fun x hx => .inr (by have := hge x hx; omega)))
          have hsm := same_self ins A4 A7 c4 c7 w3 (hb4.imp (fun _ _ _ => trivial)) (hb7.imp (fun _ _ _ => trivial)) (by omega)
          refine hsm.mono ?_
          rintro e w5 ⟨rfl, hf5⟩
          have HF5 := Lib.hid (HF3.out.trans hf5 (by simp))
          clear hown4 hg4 hat4 hge hf3 ho7' hb4 hb7 hsm hf5
          go_wp2_with fail
          go_ret
          exact ⟨rfl, HF5.out⟩
    · go_wp2_with fail
      go_ret
      exact ⟨rfl, hfa⟩
  · rcases Int.lt_or_le size 1 with h1 | h1
    · have hd1 : decide (size < 1) = true := by simp; omega
      go_enter Try.func5, Try.ntmps5
      go_wp2_with fail
      refine (awake01_calls w).mono ?_
      rintro e wa ⟨rfl, hfa⟩
      go_wp2_with fail
      go_ret
      exact ⟨rfl, hfa⟩
    · have hd1 : decide (size < 1) = false := by simp; omega
      have hd2 : decide (300 < size) = true := by simp; omega
      go_enter Try.func5, Try.ntmps5
      go_wp2_with fail
      refine (awake01_calls w).mono ?_
      rintro e wa ⟨rfl, hfa⟩
      go_wp2_with fail
      go_ret
      exact ⟨rfl, hfa⟩

end Go.Proofs.Ytokdcddmljfgnaa
