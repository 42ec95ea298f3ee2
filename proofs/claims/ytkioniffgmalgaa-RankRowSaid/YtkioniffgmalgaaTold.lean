/-
  What a hash tells, by a contract.
-/
import Derived.Test.YtkioniffgmalgaaAdd
import Derived.Test.YtkioniffgmalgaaPlain3
import Derived.Lib.SliceRun
import Derived.Deep.RegionHeld3
import Derived.Deep.DeepCutAuto
namespace Go.Proofs.Ytkioniffgmalgaa
open Go.RowKit Sp

theorem zero5 (w : World) : (zeroValue 5).run Try.prog w = .ok (.int .u8 0) w := by kernel_rfl

set_option maxRecDepth 100000 in
theorem slice_tail (n : Nat) (wx : World) (g : Nat) : (Instr.sliceAt 28 (.pointer (some ⟨g, 0, none⟩)) (some (.int .i64 ((n : Int) % 8))) none none).run Try.prog wx = .ok (.slice (some ⟨g, n % 8, none⟩) (8 - n % 8) (8 - n % 8)) wx := by
  have ha : Try.prog.arrayLen 28 = 8 := by kernel_rfl
  have he : (sizeOf (Try.prog.elem 28)).run Try.prog wx = .ok 1 wx := by kernel_rfl
  have hu : Try.prog.underlying 28 = some (.array (Try.prog.arrayLen 28) (Try.prog.elem 28)) := by kernel_rfl
  have h1 := run_sliceAt_array_l wx 28 ⟨g, 0, none⟩ hu .i64 ((n : Int) % 8) (by omega) (by rw [ha]; omega)
  refine h1.trans ?_
  rw [he]
  have e1 : ((n : Int) % 8).toNat = n % 8 := by omega
  simp only [Result.andThen, slicedAt, ha, e1, Nat.mul_one]
  rw [if_neg (by omega)]
  rcases Nat.eq_zero_or_pos (n % 8) with h0 | h0
  · rw [h0]; rfl
  · unfold Addr.add; rw [if_neg (by omega), Nat.zero_add]
theorem Blk.newd (w : World) (t : TypeId) (cs : Array Value) : Blk (w.alloc (.cells cs t)).drew w.heap.size t cs := Blk.new w t cs
/-- Cells written in a row into a block known whole. -/
theorem Blk.setCells {g : Nat} {t : TypeId} : ∀ (vs : List Value) (o : Nat) (w : World) (cs : Array Value), Blk w g t cs → o + vs.length ≤ cs.size →
    ∃ cs', Blk (w.setCells g o vs) g t cs' ∧ cs'.size = cs.size ∧ ∀ i, cs'[i]? = if o ≤ i ∧ i < o + vs.length then vs[i - o]? else cs[i]?
  | [], o, _, cs, h, _ => ⟨cs, h, rfl, fun i => by rw [if_neg (by simp only [List.length_nil]; omega)]⟩
  | v :: vs, o, w, cs, h, hl => by
    simp only [List.length_cons] at hl
    obtain ⟨cs', h1, h2, h3⟩ := Blk.setCells vs (o + 1) (w.setCell ⟨g, o, none⟩ v) _ (h.set_ o v) (by simp; omega)
    refine ⟨cs', h1, by simpa using h2, fun i => ?_⟩
    rw [h3]
    by_cases e : i = o
    · subst e
      rw [if_neg (by omega), if_pos (by simp)]
      simp only [Array.getElem?_setIfInBounds, if_true]
      rw [if_pos (by omega)]
      simp
    · by_cases hi : o + 1 ≤ i ∧ i < o + 1 + vs.length
      · rw [if_pos hi, if_pos (by simp only [List.length_cons]; omega), show i - o = i - (o + 1) + 1 from by omega]
        simp
      · rw [if_neg hi, if_neg (by simp only [List.length_cons]; omega), Array.getElem?_setIfInBounds, if_neg (by omega)]

theorem setCells_far {g g' : Nat} {t : TypeId} {cs : Array Value} (hne : g' ≠ g) : ∀ (vs : List Value) (o : Nat) (w : World), Blk w g' t cs → Blk (w.setCells g o vs) g' t cs
  | [], _, _, h => h
  | v :: vs, o, _, h => setCells_far hne vs (o + 1) _ (h.far (p := ⟨g, o, none⟩) hne v)
theorem Fr.setCells {L : List Nat} {a : World} {g : Nat} (hg : a.heap.size ≤ g) : ∀ (vs : List Value) (o : Nat) (w : World), Fr L a w → Fr L a (w.setCells g o vs)
  | [], _, _, h => h
  | v :: vs, o, _, h => Fr.setCells hg vs (o + 1) _ (h.setCell (p := ⟨g, o, none⟩) (.inr hg) v)

theorem cleared_cells {L : List Int} (hL : L.length = 8) (j : Nat) (hj : j < 8) {cs' : Array Value}
    (h : ∀ i, cs'[i]? = if j ≤ i ∧ i < j + (List.replicate (8 - j) (Value.int .u8 0)).length then (List.replicate (8 - j) (Value.int .u8 0))[i - j]? else (L.map (Value.int .u8)).toArray[i]?) :
    cs' = ((L.take j ++ List.replicate (8 - j) 0).map (Value.int .u8)).toArray := by
  apply Array.ext_getElem?
  intro i
  rw [h]
  simp only [List.length_replicate, List.getElem?_toArray, List.getElem?_map, List.getElem?_replicate, List.getElem?_append, List.length_take, List.getElem?_take, hL]
  by_cases h1 : j ≤ i ∧ i < j + (8 - j)
  · rw [if_pos h1, if_pos (by omega), if_neg (by omega), if_pos (by omega)]; rfl
  · rw [if_neg h1]
    by_cases h2 : i < j
    · rw [if_pos (by omega), if_pos h2]
    · rw [if_neg (by omega), if_neg (by omega), List.getElem?_eq_none (by omega)]

set_option maxRecDepth 100000 in
set_option maxHeartbeats 4000000 in
theorem told_walk (h n : Nat) (s : St) (L : List Int) (w : World) (hB : Blk w h 30 (hashC s L n)) (hL8 : L.length = 8) (hLb : Byts L) (hsW : s.W) (hl : n < 1099511627776) :
    Calls Try.prog 14 #[.pointer (some ⟨h, 0, none⟩)] w fun e w' => e = .returned (.int .u64 (endS (wordS s (numTo (lastL L n) 8)))) ∧ Fr [] w w' := by
  match L, hL8 with
  | [a0, a1, a2, a3, a4, a5, a6, a7], _ =>
  have HLB := Lib.hid hLb
  clear hLb
  unfold hashC at hB
  simp only [List.getD_cons_zero, List.getD_cons_succ] at hB
  have c0 := hB.cell 0
  have c5 := hB.cell 5
  have c6 := hB.cell 6
  have c7 := hB.cell 7
  have c8 := hB.cell 8
  have c9 := hB.cell 9
  have c10 := hB.cell 10
  have c11 := hB.cell 11
  have c12 := hB.cell 12
  have c13 := hB.cell 13
  simp at c0 c5 c6 c7 c8 c9 c10 c11 c12 c13
  have hB1 := hB.alloc (.cells #[.int .u8 a0, .int .u8 a1, .int .u8 a2, .int .u8 a3, .int .u8 a4, .int .u8 a5, .int .u8 a6, .int .u8 a7] 28)
  have hG1 := Blk.new w 28 #[.int .u8 a0, .int .u8 a1, .int .u8 a2, .int .u8 a3, .int .u8 a4, .int .u8 a5, .int .u8 a6, .int .u8 a7]
  have d13 := hB1.cell 13
  simp at d13
  obtain ⟨cs', hC1, hC2, hC3⟩ := Blk.setCells (List.replicate (8 - n % 8) (.int .u8 0)) (n % 8) _ _ hG1 (by show n % 8 + (List.replicate (8 - n % 8) (Value.int .u8 0)).length ≤ 8; rw [List.length_replicate]; omega)
  have hcl : ∀ ty, (Builtin.clear_ #[31] ty #[.slice (some ⟨w.heap.size, n % 8, none⟩) (8 - n % 8) (8 - n % 8)]).run Try.prog (w.alloc (.cells #[.int .u8 a0, .int .u8 a1, .int .u8 a2, .int .u8 a3, .int .u8 a4, .int .u8 a5, .int .u8 a6, .int .u8 a7] 28)) =
      .ok (.tuple #[]) ((w.alloc (.cells #[.int .u8 a0, .int .u8 a1, .int .u8 a2, .int .u8 a3, .int .u8 a4, .int .u8 a5, .int .u8 a6, .int .u8 a7] 28)).setCells w.heap.size (n % 8) (List.replicate (8 - n % 8) (.int .u8 0))) :=
    fun ty => Lib.run_clear_slice _ 31 5 ty (.int .u8 0) Try.underlying31 zero5 rfl rfl w.heap.size (n % 8) (8 - n % 8) (8 - n % 8) (by omega)
      (fun j hj => by rw [hG1.cell]; simp; omega) (fun j hj => hG1.frozen _)
  have hB2 := setCells_far (g := w.heap.size) (by have := hB.lt; omega) (List.replicate (8 - n % 8) (.int .u8 0)) (n % 8) _ hB1
  have hf2 := Fr.setCells (L := []) (a := w) (Nat.le_refl _) (List.replicate (8 - n % 8) (.int .u8 0)) (n % 8) _ ((Fr.refl [] w).alloc (.cells #[.int .u8 a0, .int .u8 a1, .int .u8 a2, .int .u8 a3, .int .u8 a4, .int .u8 a5, .int .u8 a6, .int .u8 a7] 28))
  generalize (w.alloc (.cells #[.int .u8 a0, .int .u8 a1, .int .u8 a2, .int .u8 a3, .int .u8 a4, .int .u8 a5, .int .u8 a6, .int .u8 a7] 28)).setCells w.heap.size (n % 8) (List.replicate (8 - n % 8) (.int .u8 0)) = W2 at *
  have e13 := hB2.cell 13
  simp at e13
  have hcs := cleared_cells (L := [a0, a1, a2, a3, a4, a5, a6, a7]) rfl (n % 8) (by omega) hC3
  have c27 : W2.cell? ⟨w.heap.size, 7, none⟩ = some (.int .u8 0) := by
    rw [hC1.cell, hC3, if_pos (by rw [List.length_replicate]; omega), List.getElem?_replicate, if_pos (by omega)]
  have f27 := hC1.frozen 7
  have HCS := Lib.hid hcs
  clear hcs hC2 hC3
  have hsl : ∀ (wx : World) (g : Nat), (Instr.sliceAt 28 (.pointer (some ⟨g, 0, none⟩)) (some (.int .i64 ((n : Int) % 8))) none none).run Try.prog wx = .ok (.slice (some ⟨g, n % 8, none⟩) (8 - n % 8) (8 - n % 8)) wx := fun wx g => slice_tail n wx g
  obtain ⟨r, hr⟩ : ∃ r, endS (wordS s (numTo (lastL [a0, a1, a2, a3, a4, a5, a6, a7] n) 8)) = r := ⟨_, rfl⟩
  rw [hr]
  have HR := Lib.hid hr
  clear hr
  go_enter Try.func14, Try.ntmps14
  go_wp2_with fail
  have hG3 := hC1.set_ 7 (.int .u8 ((n : Int) % 256))
  rw [HCS.out] at hG3
  have hB3 := hB2.far (p := ⟨w.heap.size, 7, none⟩) (by have := hB.lt; simp; omega) (.int .u8 ((n : Int) % 256))
  have hf3 := hf2.setCell (p := ⟨w.heap.size, 7, none⟩) (.inr (Nat.le_refl _)) (.int .u8 ((n : Int) % 256))
  generalize W2.setCell ⟨w.heap.size, 7, none⟩ (.int .u8 ((n : Int) % 256)) = W3 at *
  have hG3' : Blk W3 w.heap.size 28 ((lastL [a0, a1, a2, a3, a4, a5, a6, a7] n).map (Value.int .u8)).toArray := by
    unfold lastL
    rw [List.map_set]
    simpa using hG3
  obtain ⟨LL, hLL⟩ : ∃ LL, lastL [a0, a1, a2, a3, a4, a5, a6, a7] n = LL := ⟨_, rfl⟩
  have hll8 : LL.length = 8 := by rw [← hLL]; simp [lastL]; omega
  have hllb : Byts LL := by rw [← hLL]; exact lastL_byts HLB.out n
  rw [hLL] at hG3'
  have HLL := Lib.hid hLL
  clear hLL hG3 hcl hsl c27 f27 e13 hB2 hf2
  match LL, hll8 with
  | [b0, b1, b2, b3, b4, b5, b6, b7], _ =>
  have hnum := fun W => number_calls [b0, b1, b2, b3, b4, b5, b6, b7] rfl hllb W
  have hwd := fun W => word_calls s hsW (numTo [b0, b1, b2, b3, b4, b5, b6, b7] 8) (numTo_W hllb) W
  have HNUM := Lib.hid hnum
  have HWD := Lib.hid hwd
  have HLLB := Lib.hid hllb
  clear hnum hllb hwd
  simp only [List.map_cons, List.map_nil] at hG3'
  have i0 := hG3'.cell 0
  have i1 := hG3'.cell 1
  have i2 := hG3'.cell 2
  have i3 := hG3'.cell 3
  have i4 := hG3'.cell 4
  have i5 := hG3'.cell 5
  have i6 := hG3'.cell 6
  have i7 := hG3'.cell 7
  obtain ⟨j1, j2, j3, j4⟩ := blk_s hB3
  simp at i0 i1 i2 i3 i4 i5 i6 i7
  have hB3d : Blk W3.drew h 30 #[.bool true, .int .u64 s.a, .int .u64 s.b, .int .u64 s.c, .int .u64 s.d, .int .u8 a0, .int .u8 a1, .int .u8 a2, .int .u8 a3, .int .u8 a4, .int .u8 a5, .int .u8 a6, .int .u8 a7, .int .i64 (n : Int)] := hB3
  have hlt1 := hG3'.lt
  have hlt2 := hB3.lt
  have hw3 := hf3.size
  go_cut [4] (fun v w' => ∃ g, v = .pointer (some ⟨g, 0, none⟩) ∧ w.heap.size ≤ g ∧ Blk w' g 27 (stC (wordS s (numTo [b0, b1, b2, b3, b4, b5, b6, b7] 8))) ∧ Fr [] w w')
  case first =>
    go_region_law (first
      | (go_simp; go_at_call 33; refine (HNUM.out _).mono ?_; rintro e W4 ⟨rfl, hf4⟩; have hB4 := hf4.blk hB3d (by simp); obtain ⟨k1, k2, k3, k4⟩ := blk_s hB4; have hlt4 := hB4.lt; have hq4 := hf3.drew.trans hf4 (by simp))
      | (go_simp; go_at_call 33; refine (HNUM.out _).mono ?_; rintro e W4 ⟨rfl, hf4⟩; have hB4 := hf4.blk (hB3d.alloc _) (by simp); obtain ⟨k1, k2, k3, k4⟩ := blk_s hB4; have hlt4 := hB4.lt; have hz4 := hf4.blk (Blk.newd W3 27 #[.int .u64 0, .int .u64 0, .int .u64 0, .int .u64 0]) (by simp); have hq4 := (hf3.alloc _).drew.trans hf4 (by simp))
      | (go_simp; go_at_call 32; refine (HWD.out _).mono ?_; rintro e W5 ⟨rfl, hf5⟩; have hz5 := hf5.blk hz4 (by simp); obtain ⟨⟨l0, l1, l2, l3⟩, m0, m1, m2, m3⟩ := hz5.four; have hq5 := hq4.trans hf5 (by simp))
      | (go_simp; go_at_call 32; refine (HWD.out _).mono ?_; rintro e W5 ⟨rfl, hf5⟩; have hz5 := hf5.blk (Blk.new W4 27 #[.int .u64 0, .int .u64 0, .int .u64 0, .int .u64 0]) (by simp); obtain ⟨⟨l0, l1, l2, l3⟩, m0, m1, m2, m3⟩ := hz5.four; have hq5 := (hq4.alloc _).trans hf5 (by simp); have hw4 := hq4.size)
      | (go_simp; go_at_call 32; refine (HWD.out _).mono ?_; rintro e W5 ⟨rfl, hf5⟩; have hq5 := hq4.trans hf5 (by simp)))
    all_goals (go_wp2_with fail; go_meet)
    all_goals first
      | exact ⟨_, rfl, hq5.size, Blk.new W5 27 _, hq5.alloc _⟩
      | exact ⟨_, rfl, hw4, hz5.set4 _ _ _ _, hq5.set4 hw4 _ _ _ _⟩
      | exact ⟨_, rfl, hw3, hz5.set4 _ _ _ _, hq5.set4 hw3 _ _ _ _⟩
  case rest =>
    obtain ⟨g, rfl, hg, hG, hfc⟩ := hcut
    obtain ⟨⟨p0, p1, p2, p3⟩, q0, q1, q2, q3⟩ := hG.four
    have hws := wordS_W hsW (numTo_W HLLB.out)
    generalize hu : wordS s (numTo [b0, b1, b2, b3, b4, b5, b6, b7] 8) = u at *
    have HWS := Lib.hid hu
    clear hu
    go_wp2_with fail
    have hW4 : St.W ⟨u.a, u.b, xo u.c 255, u.d⟩ := ⟨hws.a, hws.b, W.xo hws.c (by unfold Sp.W; omega), hws.d⟩
    refine (rounds_calls ⟨u.a, u.b, xo u.c 255, u.d⟩ hW4 4 (by omega) _).mono ?_
    rintro e W6 ⟨rfl, hf6⟩
    have hG6 := hf6.blk (hG.set_ 2 (.int .u64 (xo u.c 255))) (by simp)
    have hfr6 := (hfc.setCell (p := ⟨g, 2, none⟩) (.inr hg) (.int .u64 (xo u.c 255))).trans hf6 (by simp)
    have hend : endS u = xo (xo (xo (rnds 4 ⟨u.a, u.b, xo u.c 255, u.d⟩).a (rnds 4 ⟨u.a, u.b, xo u.c 255, u.d⟩).b) (rnds 4 ⟨u.a, u.b, xo u.c 255, u.d⟩).c) (rnds 4 ⟨u.a, u.b, xo u.c 255, u.d⟩).d := rfl
    generalize rnds 4 ⟨u.a, u.b, xo u.c 255, u.d⟩ = v at *
    have HEND := Lib.hid hend
    clear hend
    obtain ⟨⟨r0, r1, r2, r3⟩, t0, t1, t2, t3⟩ := Blk.four (x0 := .int .u64 u.a) (x1 := .int .u64 u.b) (x2 := .int .u64 (xo u.c 255)) (x3 := .int .u64 u.d) hG6
    go_wp2_with fail
    go_ret
    refine ⟨?_, hfr6.set4 hg _ _ _ _⟩
    rw [← HR.out, HLL.out, HWS.out, HEND.out]
    rfl

theorem told_calls (h : Nat) (k0 k1 : Int) (bs : List Int) (w : World) (hH : HashIs w h k0 k1 bs) (hb : Byts bs) (hk0 : W k0) (hk1 : W k1) (hl : bs.length < 1099511627776) :
    Calls Try.prog 14 #[.pointer (some ⟨h, 0, none⟩)] w fun e w' => e = .returned (.int .u64 (sumS k0 k1 bs)) ∧ Fr [] w w' := by
  obtain ⟨L, hT, hB⟩ := hH
  refine (told_walk h bs.length _ L w hB hT.1 hT.2.1 (stOf_W hk0 hk1 hb _) hl).mono fun e w' ⟨he, hf⟩ => ⟨?_, hf⟩
  rw [he, lastL_tail hT]
  rfl

end Go.Proofs.Ytkioniffgmalgaa
