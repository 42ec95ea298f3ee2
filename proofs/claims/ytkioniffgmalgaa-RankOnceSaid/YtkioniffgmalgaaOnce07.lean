/-
  RankOnce's walk.
-/
import Derived.Test.YtkioniffgmalgaaReg18
namespace Go.Proofs.Ytkioniffgmalgaa
open Go.RowKit Go.Sort Sp
set_option linter.unusedVariables false

theorem info4 : (Try.prog.info? 4).map (fun i => (i.zero, i.size, i.bytes)) = some (some (.bool false), 1, 1) := by kernel_rfl
theorem made_falses (n : Nat) : (madeCells (Value.cells (.bool false)) n) = Array.replicate n (.bool false) := by
  apply Array.ext
  · simp [madeCells, Value.cells]
  · intro i h1 h2
    simp [madeCells, Value.cells, Nat.mod_one]
/-- The row of those that are seen. -/
def seenA (n : Nat) (pl : List Nat) (i : Nat) : Array Value := ((List.range n).map fun p => Value.bool (decide (p ∈ pl.take i))).toArray
theorem seenA_zero (n : Nat) (pl : List Nat) : seenA n pl 0 = Array.replicate n (.bool false) := by
  apply Array.ext'
  simp [seenA, List.map_const']
theorem seenA_get {n : Nat} {pl : List Nat} {i p : Nat} (hp : p < n) : (seenA n pl i)[p]? = some (.bool (decide (p ∈ pl.take i))) := by
  simp only [seenA, List.getElem?_toArray, List.getElem?_map, List.getElem?_range hp, Option.map_some]
theorem seenA_set {n : Nat} {pl : List Nat} {i p : Nat} (h : pl[i]? = some p) : (seenA n pl i).setIfInBounds p (.bool true) = seenA n pl (i + 1) := by
  apply Array.ext_getElem?
  intro q
  rw [Array.getElem?_setIfInBounds]
  have hm : ∀ q, q ∈ pl.take (i + 1) ↔ q ∈ pl.take i ∨ q = p := fun q => by
    rw [List.take_add_one, h]; simp
  rcases Nat.lt_or_ge q n with hq | hq
  · rw [seenA_get hq, seenA_get hq]
    have hs : q < (seenA n pl i).size := by simpa [seenA] using hq
    by_cases e : p = q
    · subst e; simp [hs, hm]
    · rw [if_neg e]
      have : (q ∈ pl.take (i + 1)) = (q ∈ pl.take i) := by
        rw [hm]; simp; intro h; exact absurd h.symm e
      simp only [this]
  · have e1 : (seenA n pl i)[q]? = none := Array.getElem?_eq_none (by simpa [seenA] using hq)
    have e2 : (seenA n pl (i + 1))[q]? = none := Array.getElem?_eq_none (by simpa [seenA] using hq)
    rw [e1, e2]
    split <;> simp_all [seenA] <;> omega

set_option maxRecDepth 100000 in
set_option maxHeartbeats 4000000 in
theorem once_good (key : List Int) (A : Option Addr) (ca : Nat) (l : List (ByteArray × Int)) (B : Option Addr) (c : Nat) (w : World) (hX : BytesAt w A key (fun _ => True)) (hb : Byts key) (h : RunsAt w B l (fun _ => True)) (hkl : key.length ≤ 9223372036854775807) (hl : l.length * 24 ≤ 140737488355328) (hz : ∀ r ∈ l, r.1.size ≤ 9223372036854775807) (hw : ∀ r ∈ l, -9223372036854775808 ≤ r.2 ∧ r.2 ≤ 9223372036854775807) (hg : greatL key l = false) :
    Calls Try.prog 5 #[.slice A key.length ca, .slice B l.length c] w fun e w' => e = .returned (.bool true) ∧ Fr [] w w' := by
  have hgr : key.length ≤ 100 ∧ l.length ≤ 16 ∧ ∀ r ∈ l, r.1.size ≤ 40 := by
    simp [greatL, greatK] at hg
    refine ⟨by omega, by omega, fun r hr => by have := hg.2 r.1 r.2 hr; omega⟩
  have HG := Lib.hid (fun W hW => hg ▸ greatL_calls key A ca l B c W hW hkl hl hz)
  have HO := Lib.hid (fun W hX hW => orderL_calls key A ca l B c W hX hb hW (by omega) (by omega) (fun r hr => by have := hgr.2.2 r hr; omega) hw)
  have HSC := Lib.hid (fun (p : Nat) (r : ByteArray × Int) (hr : l[p]? = some r) W hX => Score_calls key A ca r.1 r.2 W hX hb (by omega) (by have := hgr.2.2 r (List.mem_of_getElem? hr); omega) (hw r (List.mem_of_getElem? hr)))
  have HX := Lib.hid hX
  have HR := Lib.hid h
  have HAT := Lib.hid (fun i hi => once_at key l (i := i) hi)
  have HNEW := Lib.hid (fun i x hi => once_new key l (i := i) (x := x) hi)
  have HLE := Lib.hid (fun i x y hx hy => once_le key l (i := i) (x := x) (y := y) hx hy)
  have HEQ := Lib.hid (ordL_eq key l)
  have hlen := ordL_len key l
  obtain ⟨ol, hol⟩ : ∃ ol, ordL key l = ol := ⟨_, rfl⟩
  obtain ⟨rn, hrn⟩ : ∃ rn, ordR (runsL key l) = rn := ⟨_, rfl⟩
  rw [hol] at HO HEQ hlen
  rw [hrn] at HAT HNEW HLE HEQ
  obtain ⟨n, hn⟩ : ∃ n, l.length = n := ⟨_, rfl⟩
  have HN := Lib.hid hn
  have hn16 : n ≤ 16 := by omega
  rw [hn] at HG HO HAT hlen ⊢
  have HLEN := Lib.hid hlen
  have hmk : ∀ wx : World, (Instr.makeSlice 42 (.int .i64 n) (.int .i64 n)).run Try.prog wx = .ok (.slice (some ⟨wx.heap.size, 0, none⟩) n n) (wx.alloc (.cells (Array.replicate n (.bool false)) 4)) := fun wx => by
    obtain ⟨i0, hi, hz0, hz1, hz2⟩ := info_parts info4
    have := run_make (P := Try.prog) wx 42 4 i0 (.bool false) Try.underlying42 hi hz0 .i64 .i64 n n (by omega) (by omega) (by rw [hz2]; omega) (by omega)
    simp only [Int.toNat_natCast, hz1, Nat.mul_one] at this
    rw [made_falses] at this
    exact this
  clear hX h hz hw hg hol hrn hn hlen hgr hb
  go_enter Try.func5, Try.ntmps5
  go_wp2_with fail
  refine (awake_calls w).mono ?_
  rintro e w1 ⟨rfl, hf1⟩
  have HF1 := Lib.hid hf1
  clear hf1
  go_wp2_with fail
  refine (HG.out w1 (HR.out.fr HF1.out (by simp))).mono ?_
  rintro e w2 ⟨rfl, hf2⟩
  have HF2 := Lib.hid (HF1.out.trans hf2 (by simp))
  clear hf2
  go_wp2_with fail
  refine (HO.out w2 (HX.out.fr HF2.out (by simp)) (HR.out.fr HF2.out (by simp))).mono ?_
  rintro e w3 ⟨O, co, rfl, hI, hf3⟩
  have HF3 := Lib.hid (HF2.out.trans hf3 (by simp))
  have HI := Lib.hid hI
  clear hI hf3
  go_wp2_with fail
  obtain ⟨S, hS⟩ : ∃ S, w3.heap.size = S := ⟨_, rfl⟩
  rw [hS]
  obtain ⟨pl, hpl⟩ : ∃ pl, rn.map (·.place) = pl := ⟨_, rfl⟩
  rw [hpl] at HNEW
  have hwS : w.heap.size ≤ S := by rw [← hS]; exact HF3.out.size
  have HB0 : Hid (Blk (w3.alloc (.cells (Array.replicate n (.bool false)) 4)) S 4 (seenA n pl 0)) := Lib.hid (by rw [seenA_zero, ← hS]; exact Blk.new w3 4 _)
  have HI0 : Hid (IntsAt (w3.alloc (.cells (Array.replicate n (.bool false)) 4)) O ol (fun b => b < S)) := Lib.hid (fun hp => by
    obtain ⟨b, off, e, _, hlt, r⟩ := (HI.out.fr (Fr.alloc (Fr.refl [] w3) (.cells (Array.replicate n (.bool false)) 4)) (by simp)) hp
    obtain ⟨b', off', e', _, hlt', _⟩ := HI.out hp
    rw [e] at e'
    have : b = b' := by injection e' with e'; injection e'
    exact ⟨b, off, e, by rw [← hS, this]; exact hlt', hlt, r⟩)
  have HPL := Lib.hid hpl
  clear hS hpl hmk
  go_loopw [7] (fun i wr => ∃ k : Nat, k ≤ n ∧ i = .int .i64 k ∧ Blk wr S 4 (seenA n pl k) ∧ IntsAt wr O ol (fun b => b < S) ∧ Fr [] w wr) (fun i _ => n - (intOf i).toNat)
  case atStart => exact ⟨0, by omega, rfl, HB0.out, HI0.out, HF3.out.alloc _⟩
  case round =>
    obtain ⟨k, hkn, rfl, hblk, hint, hfr⟩ := hrel
    have HBK := Lib.hid hblk
    have HIN := Lib.hid hint
    have HF := Lib.hid hfr
    clear hblk hint hfr
    by_cases hlt : k < n
    · obtain ⟨p, r, hx, hr⟩ := HAT.out k hlt
      have hpn : p < n := by
        rw [← HN.out]
        rcases Nat.lt_or_ge p l.length with h | h
        · exact h
        · rw [List.getElem?_eq_none h] at hr; cases hr
      have hnew := HNEW.out k _ hx
      simp only at hnew
      have hplk : pl[k]? = some p := by rw [← HPL.out, List.getElem?_map, hx]; rfl
      have hok : ol[k]? = some (p : Int) := by rw [HEQ.out, List.getElem?_map, hx]; rfl
      obtain ⟨ob, oo, rfl, hoS, hob, hoc⟩ := HIN.out (by rw [HLEN.out]; omega)
      have hc1 := hoc k _ hok
      have hc2 : wr.cell? ⟨S, p, none⟩ = some (.bool false) := by
        rw [HBK.out.cell p, seenA_get hpn]; simp [hnew]
      have hfz := HBK.out.frozen p
      have HX1 := Lib.hid (And.intro hx (And.intro hr (And.intro hplk hok)))
      have hne : ob ≠ S := by omega
      clear hx hr hnew hplk hok hoc
      obtain ⟨wx, hwx⟩ : ∃ wx, wr.setCell ⟨S, p, none⟩ (.bool true) = wx := ⟨_, rfl⟩
      have hfx : Fr [S] wr wx := by rw [← hwx]; exact (Fr.refl [S] wr).setCell (.inl (by simp)) _
      have hbx : Blk wx S 4 (seenA n pl (k + 1)) := by rw [← seenA_set HX1.out.2.2.1, ← hwx]; exact HBK.out.set_ p (.bool true)
      have HFX := Lib.hid (HF.out.trans hfx (fun x hx => by simp at hx; omega))
      have HIX := Lib.hid (HIN.out.fr hfx (fun b hb _ hm => by simp at hm; omega))
      have HBX := Lib.hid hbx
      have HWX := Lib.hid hwx
      clear hfx hbx hwx
      rcases Nat.eq_zero_or_pos k with h0 | h0
      · have hk0 : ((k : Int) == 0) = true := by simp; omega
        clear h0
        go_wp2_with fail
        rw [HWX.out]
        go_roundw
        case rel => exact ⟨k + 1, by omega, by go_num, HBX.out, HIX.out, HFX.out⟩
        case measure => simp [intOf]; omega
      · have hk0 : ((k : Int) == 0) = false := by simp; omega
        obtain ⟨j, hj⟩ : ∃ j, k = j + 1 := ⟨k - 1, by omega⟩
        have hk1 : IntKind.i64.wrap ((k : Int) - 1) = (j : Int) := by rw [IntWalk.i64_in _ (by omega)]; omega
        obtain ⟨p', r', hx', hr'⟩ := HAT.out j (by omega)
        have hpn' : p' < n := by
          rw [← HN.out]
          rcases Nat.lt_or_ge p' l.length with h | h
          · exact h
          · rw [List.getElem?_eq_none h] at hr'; cases hr'
        have hok' : ol[j]? = some (p' : Int) := by rw [HEQ.out, List.getElem?_map, hx']; rfl
        have hbad := badTwo_le (HLE.out j _ _ hx' (hj ▸ HX1.out.1))
        obtain ⟨ob2, oo2, he2, _, hob2, hoc2⟩ := HIX.out (by rw [HLEN.out]; omega)
        obtain ⟨rfl, rfl⟩ : ob = ob2 ∧ oo = oo2 := by injection he2 with he2; injection he2 with h1 h2; exact ⟨h1, h2⟩
        have hq1 := hoc2 j _ hok'
        have hq2 := hoc2 k _ HX1.out.2.2.2
        obtain ⟨lb, lo, rfl, _, hlb, hlc⟩ := HR.out (by rw [HN.out]; omega)
        obtain ⟨hn1, hn2⟩ := hlc p' r' hr'
        obtain ⟨hn3, hn4⟩ := hlc p r HX1.out.2.1
        have hC1 : (wx.drew.cell? ⟨ob, oo + j, none⟩ = some (.int .i64 p') ∧ wx.drew.cell? ⟨lb, lo + p' * 2, none⟩ = some (.string r'.1)) ∧ wx.drew.cell? ⟨lb, lo + p' * 2 + 1, none⟩ = some (.int .i64 r'.2) := ⟨⟨hq1, (HFX.out.cell (p := ⟨lb, _, none⟩) hlb (by simp)).trans hn1⟩, (HFX.out.cell (p := ⟨lb, _, none⟩) hlb (by simp)).trans hn2⟩
        have hlx : lb < wx.heap.size := Nat.lt_of_lt_of_le hlb HFX.out.size
        have hcs1 : ∀ W, Fr [] wx.drew W → (W.cell? ⟨ob, oo + j, none⟩ = some (.int .i64 p') ∧ W.cell? ⟨lb, lo + p' * 2, none⟩ = some (.string r'.1)) ∧ W.cell? ⟨lb, lo + p' * 2 + 1, none⟩ = some (.int .i64 r'.2) := fun W hf => ⟨⟨(hf.cell (p := ⟨ob, _, none⟩) hob2 (by simp)).trans hC1.1.1, (hf.cell (p := ⟨lb, _, none⟩) hlx (by simp)).trans hC1.1.2⟩, (hf.cell (p := ⟨lb, _, none⟩) hlx (by simp)).trans hC1.2⟩
        have HCS1 := Lib.hid hcs1
        have hcs2 : ∀ W, Fr [] wx W → (W.cell? ⟨ob, oo + k, none⟩ = some (.int .i64 p) ∧ W.cell? ⟨lb, lo + p * 2, none⟩ = some (.string r.1)) ∧ W.cell? ⟨lb, lo + p * 2 + 1, none⟩ = some (.int .i64 r.2) := fun W hf => ⟨⟨(hf.cell (p := ⟨ob, _, none⟩) hob2 (by simp)).trans hq2, (hf.cell (p := ⟨lb, _, none⟩) hlx (by simp)).trans ((HFX.out.cell (p := ⟨lb, _, none⟩) hlb (by simp)).trans hn3)⟩, (hf.cell (p := ⟨lb, _, none⟩) hlx (by simp)).trans ((HFX.out.cell (p := ⟨lb, _, none⟩) hlb (by simp)).trans hn4)⟩
        have HCS2 := Lib.hid hcs2
        have HS1 := Lib.hid (fun W hW => HSC.out p' r' hr' W hW)
        have HS2 := Lib.hid (fun W hW => HSC.out p r HX1.out.2.1 W hW)
        obtain ⟨x1, hx1⟩ : ∃ x, scS key r'.1 r'.2 = x := ⟨_, rfl⟩
        obtain ⟨x2, hx2⟩ : ∃ x, scS key r.1 r.2 = x := ⟨_, rfl⟩
        obtain ⟨q1, hq1'⟩ : ∃ q, decide (0 < r'.2) = q := ⟨_, rfl⟩
        obtain ⟨q2, hq2'⟩ : ∃ q, decide (0 < r.2) = q := ⟨_, rfl⟩
        rw [hx1, hq1'] at HS1
        rw [hx2, hq2'] at HS2
        rw [hx1, hq1', hx2, hq2'] at hbad
        have HBAD := Lib.hid hbad
        clear hx1 hx2 hq1' hq2' hbad hcs1 hcs2 hn1 hn2 hn3 hn4 hlc hoc2 hx' hr' hok' he2 hq1 hq2
        have hjn : j < n := by omega
        clear hj h0
        go_upto_region 16 with fail
        rw [HWX.out]
        go_region_held3 (fun w' => (w'.cell? ⟨ob, oo + j, none⟩ = some (.int .i64 p') ∧ w'.cell? ⟨lb, lo + p' * 2, none⟩ = some (.string r'.1)) ∧ w'.cell? ⟨lb, lo + p' * 2 + 1, none⟩ = some (.int .i64 r'.2)) (first | exact hC1 | exact hC2) (first
          | (go_at_call 20; (with_reducible refine (HS1.out wx.drew (HX.out.fr HFX.out.drew (by simp))).mono ?_); rintro e w4 ⟨rfl, hf4⟩; have HF4 := Lib.hid hf4; have hC2 := HCS1.out _ hf4; clear hf4))
        have HF4' := Lib.hid (((Fr.refl [] wx).drew).trans HF4.out (by simp))
        have HFW := Lib.hid (HFX.out.trans HF4'.out (by simp))
        have hD1 := HCS2.out w4.drew HF4'.out.drew
        have HCS3 := Lib.hid (fun W (hf : Fr [] w4.drew W) => HCS2.out W (HF4'.out.drew.trans hf (by simp)))
        have HC4 := Lib.hid hC2.1.1
        have hob4 : ob < w4.heap.size := Nat.lt_of_lt_of_le hob2 HF4'.out.size
        clear hC1 hC2 hc1 hc2 hfz
        go_wp2_with fail
        go_region_held3 (fun w' => (w'.cell? ⟨ob, oo + k, none⟩ = some (.int .i64 p) ∧ w'.cell? ⟨lb, lo + p * 2, none⟩ = some (.string r.1)) ∧ w'.cell? ⟨lb, lo + p * 2 + 1, none⟩ = some (.int .i64 r.2)) (first | exact hD1 | exact hD2) (first
          | (go_at_call 20; (with_reducible refine (HS2.out w4.drew (HX.out.fr HFW.out.drew (by simp))).mono ?_); rintro e w5 ⟨rfl, hf5⟩; have HF5 := Lib.hid hf5; have hD2 := HCS3.out _ hf5; clear hf5))
        have hE1 : w5.cell? ⟨ob, oo + j, none⟩ = some (.int .i64 p') := (HF5.out.cell (p := ⟨ob, _, none⟩) hob4 (by simp)).trans HC4.out
        have hE2 : w5.cell? ⟨ob, oo + k, none⟩ = some (.int .i64 p) := hD2.1.1
        have HF5' := Lib.hid (((Fr.refl [] w4).drew).trans HF5.out (by simp))
        have HFE := Lib.hid (HF4'.out.trans HF5'.out (by simp))
        have HALL := Lib.hid (And.intro (HFE.out.blk HBX.out (by simp)) (And.intro (HIX.out.fr HFE.out (by simp)) (HFX.out.trans HFE.out (by simp))))
        clear hD1 hD2
        go_wp2_with fail
        refine wp_only (r18_wp ob oo n co j k p' p x1 x2 q1 q2 w5 hjn hlt hk1 (by omega) hE1 hE2 HBAD.out ?_)
        intro m d109 d110 d111 d112 d113 d114 d115 d116 d117 d118 d119 d120 d121 d122 d123 d124 d125 d126 d127 d128 d129 d130 d131 d132 d133 d134 d135 d136 d137 d138 d139 d140 d141 d142 d143 d144 d145
        go_wp2_with fail
        go_roundw
        case rel => exact ⟨k + 1, by omega, by go_num, HALL.out.1, HALL.out.2.1, HALL.out.2.2.drewN _⟩
        case measure => simp [intOf]; omega
    · obtain rfl : k = n := by omega
      go_wp2_with fail
      go_ret
      exact ⟨rfl, HF.out⟩

end Go.Proofs.Ytkioniffgmalgaa
