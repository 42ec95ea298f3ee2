/-
  QuotaApart's walk.
-/
import Derived.Test.YtlhogpnfongfmaaGreat
import Derived.Test.YtlhogpnfongfmaaAwake
import Derived.Test.YtlhogpnfongfmaaMost
import Derived.Deep.RegionHeld3
import Derived.Deep.QuietTactic
import Derived.BigQuiet
namespace Go.Proofs.Ytlhogpnfongfmaa
open Go.RowKit Go.Maps

/-- The two quotas, side by side. -/
structure Two (w : World) (q m q2 m2 n : Nat) (f f2 : Bs → Nat) (name : Bs) : Prop where
  one : QAt w q m n f
  two : QAt w q2 m2 n f2
  ne1 : m ≠ q2
  ne2 : m ≠ m2
  ne3 : m2 ≠ q
  same : ∀ t, t ≠ name → f t = f2 t
  none : f2 name = 0

theorem QAt.drew {w : World} {q m n : Nat} {f : Bs → Nat} (h : QAt w q m n f) : QAt w.drew q m n f := ⟨h.blk, h.map⟩
theorem QAt.drewN {w : World} {q m n : Nat} {f : Bs → Nat} (h : QAt w q m n f) (j : Nat) : QAt (w.drewN j) q m n f := ⟨h.blk, h.map⟩
theorem QAt.alloc {w : World} {q m n : Nat} {f : Bs → Nat} (h : QAt w q m n f) (o : Obj) : QAt (w.alloc o) q m n f := ⟨h.blk.alloc o, h.map.alloc o⟩

theorem Two.mine {wr w4 : World} {q m q2 m2 k : Nat} {f f2 f' : Bs → Nat} {name : Bs} {o : Obj} (hT : Two wr q m q2 m2 k f f2 name) (hf : Fr [m] (wr.alloc o) w4) (hQ : QAt w4 q m (k + 1) f') (hd : ∀ t, t ≠ name → f' t = f t) :
    Two w4 q m q2 m2 (k + 1) f' f2 name :=
  ⟨hQ, ((hT.two.alloc o).fr hf (by simp; exact hT.ne1.symm) (by simp; exact hT.ne2.symm)).more (by omega), hT.ne1, hT.ne2, hT.ne3, fun t ht => (hd t ht).trans (hT.same t ht), hT.none⟩
theorem giveF_other {f : Bs → Nat} {s t : Bs} (h : t ≠ s) : giveF f s t = f t := by simp [giveF, upd, h]
theorem takeF_other {f : Bs → Nat} {s t : Bs} {mo : Int} (h : t ≠ s) : takeF f s mo t = f t := by unfold takeF; split <;> simp [upd, h]
theorem giveF_same {f f2 : Bs → Nat} {s : Bs} (h : f s = f2 s) : giveF f s s = giveF f2 s s := by simp [giveF, upd, h]
theorem takeF_same {f f2 : Bs → Nat} {s : Bs} {mo : Int} (h : f s = f2 s) : takeF f s mo s = takeF f2 s mo s := by unfold takeF; rw [h]; split <;> simp [upd, h]
theorem Two.give {wr w4 : World} {q m q2 m2 k : Nat} {f f2 : Bs → Nat} {name s : Bs} (hT : Two wr q m q2 m2 k f f2 name) (hs : s ≠ name) (h1 : QAt w4 q m (k + 1) (giveF f s)) (h2 : QAt w4 q2 m2 (k + 1) (giveF f2 s)) :
    Two w4 q m q2 m2 (k + 1) (giveF f s) (giveF f2 s) name :=
  ⟨h1, h2, hT.ne1, hT.ne2, hT.ne3, fun t ht => by
    by_cases e : t = s
    · subst e; exact giveF_same (hT.same _ hs)
    · rw [giveF_other e, giveF_other e]; exact hT.same t ht, by rw [giveF_other hs.symm]; exact hT.none⟩
theorem Two.take {wr w4 : World} {q m q2 m2 k : Nat} {f f2 : Bs → Nat} {name s : Bs} {mo : Int} (hT : Two wr q m q2 m2 k f f2 name) (hs : s ≠ name) (h1 : QAt w4 q m (k + 1) (takeF f s mo)) (h2 : QAt w4 q2 m2 (k + 1) (takeF f2 s mo)) :
    Two w4 q m q2 m2 (k + 1) (takeF f s mo) (takeF f2 s mo) name :=
  ⟨h1, h2, hT.ne1, hT.ne2, hT.ne3, fun t ht => by
    by_cases e : t = s
    · subst e; exact takeF_same (hT.same _ hs)
    · rw [takeF_other e, takeF_other e]; exact hT.same t ht, by rw [takeF_other hs.symm]; exact hT.none⟩

theorem bytes_ne {a b : ByteArray} (h : a ≠ b) : a.data.toList ≠ b.data.toList := fun e => h (ByteArray.ext (Array.toList_inj.1 e))
theorem bytes_beq {a b : ByteArray} (h : a ≠ b) : (a.toList == b.toList) = false := by
  rw [ByteArray.toList_eq, ByteArray.toList_eq]
  exact beq_eq_false_iff_ne.2 (bytes_ne h)

set_option maxHeartbeats 1000000 in
theorem apart_calls (A : Option Addr) (c : Nat) (l : List ActD) (name : ByteArray) (hname : name.size ≤ maxLen) (w : World) (h : Acts w w.heap.size A l) (hl : l.length ≤ 9223372036854775807) :
    Calls Try.prog 4 #[.slice A l.length c, .string name] w fun e w' => e = .returned (.bool true) ∧ Fr [] w w' := by
  have HG := fun W (hW : Acts W w.heap.size A l) => great_calls A c l w.heap.size W hW hl
  cases hg : greatB l with
  | true =>
    rw [hg] at HG
    have HG := Lib.hid HG; have hg := Lib.hid hg
    go_enter Try.func4, Try.ntmps4
    go_wp2_with fail
    refine (awake_calls w).mono ?_
    rintro e w1 ⟨rfl, hf1⟩
    go_wp2_with fail
    refine (HG.out _ (h.fr hf1 (Nat.le_refl _) (by simp))).mono ?_
    rintro e w2 ⟨rfl, rfl⟩
    go_wp2_with fail
    go_ret
    exact ⟨rfl, hf1⟩
  | false =>
    obtain ⟨hlen, hnames⟩ := greatB_false hg
    rw [hg] at HG
    have HG := Lib.hid HG; have hg := Lib.hid hg; have HN := Lib.hid hnames
    clear hnames
    go_enter Try.func4, Try.ntmps4
    go_wp2_with fail
    refine (awake_calls w).mono ?_
    rintro e w1 ⟨rfl, hf1⟩
    go_wp2_with fail
    refine (HG.out _ (h.fr hf1 (Nat.le_refl _) (by simp))).mono ?_
    rintro e w2 ⟨rfl, rfl⟩
    go_wp2_with fail
    refine (new_calls _).mono ?_
    rintro e w2 ⟨q, m, rfl, h0, hf2, hq, hm⟩
    go_wp2_with fail
    refine (new_calls _).mono ?_
    rintro e w3 ⟨q2, m2, rfl, h02, hf3, hq2, hm2⟩
    go_wp2_with fail
    have hmw : ∀ x ∈ [m], x ∈ ([] : List Nat) ∨ w.heap.size ≤ x := by have := hf1.size; simp; omega
    have hmw2 : ∀ x ∈ [m2], x ∈ ([] : List Nat) ∨ w.heap.size ≤ x := by have := hf1.size; have := hf2.size; simp; omega
    have hfw := (hf1.trans hf2 (by simp)).trans hf3 (by simp)
    have hT0 : Two w3 q m q2 m2 0 (fun _ => 0) (fun _ => 0) name.data.toList :=
      ⟨h0.fr hf3 (by simp) (by simp), h02, by have := h0.map.lt; omega, by have := h0.map.lt; omega, by have := h0.blk.lt; omega, fun _ _ => rfl, rfl⟩
    go_loopw [7] (fun i wr => ∃ (k : Nat) (f f2 : Bs → Nat), k ≤ l.length ∧ i = .int .i64 k ∧ Two wr q m q2 m2 k f f2 name.data.toList ∧ Fr [] w wr) (fun i _ => l.length - (intOf i).toNat)
    case atStart => exact ⟨0, _, _, Nat.zero_le _, rfl, hT0, hfw⟩
    case round =>
      obtain ⟨k, f, f2, hk, rfl, hT, hfr⟩ := hrel
      by_cases hlt : k < l.length
      · obtain ⟨b, off, rfl, hb, hc⟩ := (h.fr hfr (Nat.le_refl _) (by simp)) (by omega)
        obtain ⟨⟨g, nm, mo⟩, ha⟩ : ∃ a, l[k]? = some a := ⟨_, List.getElem?_eq_getElem hlt⟩
        obtain ⟨c0, c1, c2⟩ := hc k _ ha
        have hns := HN.out k _ ha
        have hs : nm.size ≤ maxLen := by unfold maxLen; simp only at hns; omega
        simp only at c0 c1 c2
        clear hc ha
        have hT1 := hT.one.alloc (.cells #[.bool g, .string nm, .int .i64 mo] 28)
        have hT2 := hT.two.alloc (.cells #[.bool g, .string nm, .int .i64 mo] 28)
        have hfa := hfr.alloc (.cells #[.bool g, .string nm, .int .i64 mo] 28)
        have hB := Blk.new wr 28 #[.bool g, .string nm, .int .i64 mo]
        by_cases hnm : nm = name
        · subst hnm
          cases g with
          | true =>
            go_wp2_with fail
            refine (give_any q m k f nm hs _ hT1 (by omega)).mono ?_
            rintro e w4 ⟨rfl, hQ3, hf4⟩
            go_wp2_with fail
            go_roundw
            case rel => exact ⟨k + 1, _, _, by omega, by go_num, hT.mine hf4 hQ3 (fun t ht => giveF_other ht), hfa.trans hf4 hmw⟩
            case measure => simp [intOf]; omega
          | false =>
            go_wp2_with fail
            refine (take_any q m k f nm hs mo _ hT1 (by omega)).mono ?_
            rintro e w4 ⟨rfl, hQ3, hf4⟩
            go_wp2_with fail
            go_roundw
            case rel => exact ⟨k + 1, _, _, by omega, by go_num, hT.mine hf4 hQ3 (fun t ht => takeF_other ht), hfa.trans hf4 hmw⟩
            case measure => simp [intOf]; omega
        · have hnm1 := bytes_beq hnm
          have hnm2 := bytes_ne hnm
          have hsame := hT.same nm.data.toList hnm2
          have HS := Lib.hid hsame
          have HN2 := Lib.hid hnm2
          clear hsame hnm hnm2
          cases g with
          | true =>
            have hC1 : (wr.alloc (.cells #[.bool true, .string nm, .int .i64 mo] 28)).drew.cell? ⟨wr.heap.size, 1, none⟩ = some (.string nm) := hB.cell 1
            have hg2 : ∀ W, QAt W q2 m2 k f2 → Calls Try.prog 10 #[.pointer (some ⟨q2, 0, none⟩), .string nm] W fun e w' => e = .returned (.bool (decide (0 < f nm.data.toList))) ∧ QAt w' q2 m2 (k + 1) (giveF f2 nm.data.toList) ∧ Fr [m2] W w' :=
              fun W hW => by rw [HS.out]; exact give_any q2 m2 k f2 nm hs W hW (by omega)
            have HG2 := Lib.hid hg2; clear hg2
            go_wp2_with fail
            go_region_held3 (fun w' => w'.cell? ⟨wr.heap.size, 1, none⟩ = some (.string nm)) (first | exact hC1 | exact hC2 | exact hC3) (first
              | (go_at_call 10; with_reducible refine (give_any q m k f nm hs _ ?_ (by omega)).mono ?_; exact hT1.drew; rintro e w4 ⟨rfl, hQ4, hf4⟩; have hC2 := (hf4.cell (p := ⟨wr.heap.size, 1, none⟩) (by simp) (by simp; have := hT.one.map.lt; omega)).trans hC1)
              | (go_at_call 10; with_reducible refine (HG2.out _ ?_).mono ?_; exact hT2.drew.fr hf4 (by simp; exact hT.ne1.symm) (by simp; exact hT.ne2.symm); rintro e w5 ⟨rfl, hQ5, hf5⟩; have hC3 := (hf5.cell (p := ⟨wr.heap.size, 1, none⟩) (by have := hf4.size; simp at this; simp; omega) (by simp; have := hT.two.map.lt; omega)).trans hC2))
            have hQ4' := hQ4.fr hf5 (by simp; exact hT.ne3.symm) (by simp; exact hT.ne2)
            have hm1 : ∀ W, QAt W q m (k + 1) (giveF f nm.data.toList) → Calls Try.prog 9 #[.pointer (some ⟨q, 0, none⟩), .string nm] W fun e w' => e = .returned (.int .i64 (f nm.data.toList - 1 : Nat)) ∧ W = w' :=
              fun W hW => by have := many_calls q m (k + 1) _ nm hs W hW; rwa [giveF, upd_at] at this
            have hm2 : ∀ W, QAt W q2 m2 (k + 1) (giveF f2 nm.data.toList) → Calls Try.prog 9 #[.pointer (some ⟨q2, 0, none⟩), .string nm] W fun e w' => e = .returned (.int .i64 (f nm.data.toList - 1 : Nat)) ∧ W = w' :=
              fun W hW => by have := many_calls q2 m2 (k + 1) _ nm hs W hW; rwa [giveF, upd_at, ← HS.out] at this
            have HM1 := Lib.hid hm1; have HM2 := Lib.hid hm2; clear hm1 hm2
            go_wp2_with fail
            go_quiet (first
              | ((go_at_call 9; with_reducible refine Calls.quiet_of_same ((HM1.out _ ?_).mono fun _ _ h => ⟨h.1, h.2.symm⟩); exact hQ4'.drewN _))
              | ((go_at_call 9; with_reducible refine Calls.quiet_of_same ((HM2.out _ ?_).mono fun _ _ h => ⟨h.1, h.2.symm⟩); exact hQ5.drewN _)))
            go_wp2_with fail
            go_roundw
            case rel => exact ⟨k + 1, _, _, by omega, by go_num, hT.give HN2.out (hQ4'.drewN _) (hQ5.drewN _), ((hfa.drew.trans hf4 hmw).trans hf5 hmw2).drewN _⟩
            case measure => simp [intOf]; omega
          | false =>
            have hC1 : (wr.alloc (.cells #[.bool false, .string nm, .int .i64 mo] 28)).drew.cell? ⟨wr.heap.size, 1, none⟩ = some (.string nm) ∧ (wr.alloc (.cells #[.bool false, .string nm, .int .i64 mo] 28)).drew.cell? ⟨wr.heap.size, 2, none⟩ = some (.int .i64 mo) := ⟨hB.cell 1, hB.cell 2⟩
            have hg2 : ∀ W, QAt W q2 m2 k f2 → Calls Try.prog 11 #[.pointer (some ⟨q2, 0, none⟩), .string nm, .int .i64 mo] W fun e w' => e = .returned (.bool (decide ((f nm.data.toList : Int) < mo))) ∧ QAt w' q2 m2 (k + 1) (takeF f2 nm.data.toList mo) ∧ Fr [m2] W w' :=
              fun W hW => by rw [HS.out]; exact take_any q2 m2 k f2 nm hs mo W hW (by omega)
            have HG2 := Lib.hid hg2; clear hg2
            go_wp2_with fail
            go_region_held3 (fun w' => w'.cell? ⟨wr.heap.size, 1, none⟩ = some (.string nm) ∧ w'.cell? ⟨wr.heap.size, 2, none⟩ = some (.int .i64 mo)) (first | exact hC1 | exact hC2 | exact hC3) (first
              | (go_at_call 11; with_reducible refine (take_any q m k f nm hs mo _ ?_ (by omega)).mono ?_; exact hT1.drew; rintro e w4 ⟨rfl, hQ4, hf4⟩; have hC2 := And.intro ((hf4.cell (p := ⟨wr.heap.size, 1, none⟩) (by simp) (by simp; have := hT.one.map.lt; omega)).trans hC1.1) ((hf4.cell (p := ⟨wr.heap.size, 2, none⟩) (by simp) (by simp; have := hT.one.map.lt; omega)).trans hC1.2))
              | (go_at_call 11; with_reducible refine (HG2.out _ ?_).mono ?_; exact hT2.drew.fr hf4 (by simp; exact hT.ne1.symm) (by simp; exact hT.ne2.symm); rintro e w5 ⟨rfl, hQ5, hf5⟩; have hC3 := And.intro ((hf5.cell (p := ⟨wr.heap.size, 1, none⟩) (by have := hf4.size; simp at this; simp; omega) (by simp; have := hT.two.map.lt; omega)).trans hC2.1) ((hf5.cell (p := ⟨wr.heap.size, 2, none⟩) (by have := hf4.size; simp at this; simp; omega) (by simp; have := hT.two.map.lt; omega)).trans hC2.2)))
            have hQ4' := hQ4.fr hf5 (by simp; exact hT.ne3.symm) (by simp; exact hT.ne2)
            have hm1 : ∀ W, QAt W q m (k + 1) (takeF f nm.data.toList mo) → Calls Try.prog 9 #[.pointer (some ⟨q, 0, none⟩), .string nm] W fun e w' => e = .returned (.int .i64 (takeF f nm.data.toList mo nm.data.toList : Nat)) ∧ W = w' :=
              fun W hW => many_calls q m (k + 1) _ nm hs W hW
            have hm2 : ∀ W, QAt W q2 m2 (k + 1) (takeF f2 nm.data.toList mo) → Calls Try.prog 9 #[.pointer (some ⟨q2, 0, none⟩), .string nm] W fun e w' => e = .returned (.int .i64 (takeF f nm.data.toList mo nm.data.toList : Nat)) ∧ W = w' :=
              fun W hW => by rw [takeF_same HS.out]; exact many_calls q2 m2 (k + 1) _ nm hs W hW
            have HM1 := Lib.hid hm1; have HM2 := Lib.hid hm2; clear hm1 hm2
            have hcc : wr.heap.size + 1 ≤ w4.heap.size := by have := hf4.size; simp at this; omega
            go_wp2_with fail
            go_quiet (first
              | ((go_at_call 9; with_reducible refine Calls.quiet_of_same ((HM1.out _ ?_).mono fun _ _ h => ⟨h.1, h.2.symm⟩); exact hQ4'.drewN _))
              | ((go_at_call 9; with_reducible refine Calls.quiet_of_same ((HM2.out _ ?_).mono fun _ _ h => ⟨h.1, h.2.symm⟩); exact hQ5.drewN _)))
            go_wp2_with fail
            go_roundw
            case rel => exact ⟨k + 1, _, _, by omega, by go_num, hT.take HN2.out (hQ4'.drewN _) (hQ5.drewN _), ((hfa.drew.trans hf4 hmw).trans hf5 hmw2).drewN _⟩
            case measure => simp [intOf]; omega
      · have hmn := many_calls q2 m2 k f2 name hname wr hT.two
        rw [hT.none] at hmn
        have HMN := Lib.hid hmn; clear hmn
        go_wp2_with fail
        refine HMN.out.mono ?_
        rintro e w4 ⟨rfl, rfl⟩
        go_wp2_with fail
        go_ret
        exact ⟨rfl, hfr⟩

end Go.Proofs.Ytlhogpnfongfmaa
