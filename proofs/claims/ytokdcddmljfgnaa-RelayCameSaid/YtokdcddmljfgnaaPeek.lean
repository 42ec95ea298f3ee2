/-
  Peek, by its contract.
-/
import Derived.Test.YtokdcddmljfgnaaPut
import Derived.Test.YtokdcddmljfgnaaAppend
namespace Go.Proofs.Ytokdcddmljfgnaa
open Go.RowKit Go.Shelf
attribute [local go_sem] Oper.semAt_some
set_option linter.unusedVariables false

theorem info5 : (Try.prog.info? 5).map (fun i => (i.zero, i.size, i.bytes)) = some (some (.int .u8 0), 1, 1) := by kernel_rfl

theorem own_heap {w w' : World} {base g n cap : Nat} {e : TypeId} {xs : List Value} (h : w.ownsRow base e 1 (.slice (some ⟨g, 0, none⟩) n cap) n xs) (hg : w'.heap[g]? = w.heap[g]?) : w'.ownsRow base e 1 (.slice (some ⟨g, 0, none⟩) n cap) n xs := by
  obtain ⟨h1, h2⟩ := h
  rcases h2 with ⟨h, _⟩ | ⟨g', cap', cur, hv, hb, hh, hr⟩
  · cases h
  · cases hv
    exact ⟨h1, .inr ⟨g, cap, cur, rfl, hb, hg.trans hh, hr⟩⟩

/-- Between two rounds of Peek: d bytes are copied. -/
def PeekI (w : World) (L : List Value) (rb bb N f m H : Nat) (mem xs : List Int) (i : Nat) (W : World) : Prop :=
  ∃ d fi : Nat, d ≤ m ∧ fi ≤ 4611686018427387904 ∧ i ≤ L.length ∧ L.drop i = pcs bb N fi (m - d) ∧ fi % N = (f + d) % N ∧
    W.ownsRow H 5 1 (.slice (some ⟨H, 0, none⟩) d m) d (bcells (xs.take d)) ∧ Blk W (H + 1) 22 #[.slice (some ⟨H, 0, none⟩) d m] ∧ Blk W bb 5 (mem.map (Value.int .u8)).toArray ∧
    Blk W rb 29 #[.slice (some ⟨bb, 0, none⟩) N N, .int .i64 f, .int .i64 xs.length] ∧ Blk W (H + 1 + 1) 27 #[.pointer (some ⟨rb, 0, none⟩)] ∧ Fr [] w W ∧ H + 5 ≤ W.heap.size

set_option maxRecDepth 100000 in
set_option maxHeartbeats 2000000 in
theorem peek_some (rb bb N f : Nat) (mem xs : List Int) (k : Int) (w : World) (hR : RingM w rb bb N f mem xs) (hb : Byts xs) (hk : 0 < k ∧ k ≤ 9223372036854775807) (h1 : 0 < xs.length) :
    Calls Try.prog 14 #[.pointer (some ⟨rb, 0, none⟩), .int .i64 k] w fun e w' => ∃ v, e = .returned v ∧ w'.ownsRow w.heap.size 5 1 v (min k.toNat xs.length) (bcells (xs.take (min k.toNat xs.length))) ∧ Fr [] w w' := by
  obtain ⟨m, hm⟩ : ∃ m, min k.toNat xs.length = m := ⟨_, rfl⟩
  rw [hm]
  have HR := Lib.hid hR
  obtain ⟨hB1, hB2, hne, hml, hN0, hN1, hfN, hxl, hheld⟩ := hR
  have HB := Lib.hid hb
  have HH := Lib.hid hheld
  clear hb hheld
  have hm0 : ¬ m = 0 := by omega
  have hmle : m ≤ xs.length := by omega
  have hm3 : ((m : Int) == 0) = false := by simp; omega
  have hr1 : w.cell? ⟨rb, 1, none⟩ = some (.int .i64 f) := hB1.cell 1
  refine (callsIn_wide (n := 3)).1 ?_
  refine callsIn_of_wp_marks Try.func14 rfl trivial ?_ rfl
  simp only [Try.ntmps14, List.size_toArray, List.length_cons, List.length_nil, Nat.reduceAdd, Nat.reduceSub, Array.replicate_succ, Array.replicate_zero, List.push_toArray, List.append_toArray, List.nil_append, List.cons_append]
  refine wpIn_wide.2 ?_
  go_upto_region 1 with fail
  go_cut [0, 1, 4] from 5 (fun s0 s1 s4 wc => s0 = .pointer (some ⟨rb, 0, none⟩) ∧ s1 = .int .i64 m ∧ s4 = .slice none 0 0 ∧ w = wc)
  case first =>
    rcases Int.lt_or_le (xs.length : Int) k with hc1 | hc1
    · have hc2 : (m : Int) = xs.length := by omega
      go_wp2_with fail
      refine (len_calls (some ⟨rb, 0, none⟩) N xs.length w HR.out.rd).mono ?_
      rintro e w1 ⟨rfl, rfl⟩
      have hc3 : ¬ (xs.length : Int) < 0 := by omega
      have hc4 : ¬ (xs.length : Int) ≤ 0 := by omega
      have hc5 : (0 : Int) < xs.length := by omega
      go_wp2_with fail
      all_goals go_meet
      all_goals exact ⟨rfl, by first | rfl | rw [hc2] | (simp only [hc2]; congr 1; omega) , rfl, rfl⟩
    · have hc2 : (m : Int) = k := by omega
      have hc3 : ¬ k < 0 := by omega
      have hc5 : ¬ k ≤ 0 := by omega
      go_wp2_with fail
      refine (len_calls (some ⟨rb, 0, none⟩) N xs.length w HR.out.rd).mono ?_
      rintro e w1 ⟨rfl, rfl⟩
      have hc4 : ¬ (xs.length : Int) < k := by omega
      go_wp2_with fail
      all_goals go_meet
      all_goals exact ⟨rfl, by first | rfl | rw [hc2], rfl, rfl⟩
  case rest =>
    obtain ⟨rfl, rfl, rfl, rfl⟩ := hcut
    obtain ⟨i0, hi, hz0, hz1, hz2⟩ := info_parts info5
    have hmk := run_make (P := Try.prog) w 22 5 i0 (.int .u8 0) Try.underlying22 hi hz0 .i64 .i64 0 m (by omega) (by omega) (by rw [hz2]; omega) (by omega)
    simp only [Int.toNat_zero, Int.toNat_natCast, hz1, Nat.mul_one] at hmk
    have hown0 := World.ownsRow_made (e := 5) (size := 1) w (madeCells (Value.cells (.int .u8 0)) m) m (base := w.heap.size) (Nat.le_refl _) (by simp only [maxLen]; omega) (by rw [size_madeCells, Nat.mul_one])
    obtain ⟨H, hH⟩ : ∃ H, w.heap.size = H := ⟨_, rfl⟩
    have hlr := hB1.lt
    have hlb := hB2.lt
    rw [hH] at hmk hown0 hlr hlb
    obtain ⟨wm, hwm⟩ : ∃ wm, w.alloc (.cells (madeCells (Value.cells (.int .u8 0)) m) 5) = wm := ⟨_, rfl⟩
    have hfm : Fr [] w wm := by rw [← hwm]; exact (Fr.refl [] w).alloc _
    have hzm : wm.heap.size = H + 1 := by rw [← hwm]; simp; omega
    rw [hwm] at hmk hown0
    have hm1 : wm.cell? ⟨rb, 1, none⟩ = some (.int .i64 f) := (hfm.cell (p := ⟨rb, 1, none⟩) hB1.lt (by simp)).trans hr1
    clear hwm
    go_wp2_with fail
    refine (pieces_calls (some ⟨rb, 0, none⟩) f m _).mono ?_
    rintro e w2 ⟨rfl, rfl⟩
    go_wp2_with fail
    obtain ⟨wc, hwc⟩ : ∃ wc, (((wm.alloc (.cells #[.slice (some ⟨H, 0, none⟩) 0 m] 22)).alloc (.cells #[.pointer (some ⟨rb, 0, none⟩)] 27)).alloc (.cells #[.int .i64 f] 3)).alloc (.cells #[.int .i64 m] 3) = wc := ⟨_, rfl⟩
    have hzc : wc.heap.size = H + 5 := by rw [← hwc]; simp; omega
    have hfc : Fr [] w wc := by rw [← hwc]; exact (((hfm.alloc _).alloc _).alloc _).alloc _
    have hoc : wc.ownsRow H 5 1 (.slice (some ⟨H, 0, none⟩) 0 m) 0 [] := by
      refine own_heap hown0 ?_
      have hf : Fr [] wm wc := by rw [← hwc]; exact ((((Fr.refl [] wm).alloc _).alloc _).alloc _).alloc _
      exact hf.block H (by omega) (by simp)
    have hbc : Blk wc (H + 1) 22 #[.slice (some ⟨H, 0, none⟩) 0 m] := by
      rw [← hwc]
      have := (((Blk.new wm 22 #[.slice (some ⟨H, 0, none⟩) 0 m]).alloc (.cells #[.pointer (some ⟨rb, 0, none⟩)] 27)).alloc (.cells #[.int .i64 f] 3)).alloc (.cells #[.int .i64 m] 3)
      rwa [hzm] at this
    have hrc : Blk wc (H + 1 + 1) 27 #[.pointer (some ⟨rb, 0, none⟩)] := by
      rw [← hwc]
      have := ((Blk.new (wm.alloc (.cells #[.slice (some ⟨H, 0, none⟩) 0 m] 22)) 27 #[.pointer (some ⟨rb, 0, none⟩)]).alloc (.cells #[.int .i64 f] 3)).alloc (.cells #[.int .i64 m] 3)
      rwa [World.size_alloc, hzm] at this
    have hfc3 : Blk wc (H + 1 + 1 + 1) 3 #[.int .i64 f] := by
      rw [← hwc]
      have := (Blk.new ((wm.alloc (.cells #[.slice (some ⟨H, 0, none⟩) 0 m] 22)).alloc (.cells #[.pointer (some ⟨rb, 0, none⟩)] 27)) 3 #[.int .i64 f]).alloc (.cells #[.int .i64 m] 3)
      rwa [World.size_alloc, World.size_alloc, hzm] at this
    have hnc3 : Blk wc (H + 1 + 1 + 2) 3 #[.int .i64 m] := by
      rw [← hwc]
      have := Blk.new (((wm.alloc (.cells #[.slice (some ⟨H, 0, none⟩) 0 m] 22)).alloc (.cells #[.pointer (some ⟨rb, 0, none⟩)] 27)).alloc (.cells #[.int .i64 f] 3)) 3 #[.int .i64 m]
      rwa [World.size_alloc, World.size_alloc, World.size_alloc, hzm] at this
    rw [hwc]
    clear hwc hfm hzm hown0 hm1 hmk
    refine (wpIn_wide (n := 3)).1 ?_
    refine range_walk (n := 3) (by omega) (gf := 50) (lb := #[.pointer (some ⟨H + 1 + 1 + 2, 0, none⟩), .pointer (some ⟨H + 1 + 1 + 1, 0, none⟩), .pointer (some ⟨H + 1 + 1, 0, none⟩)]) rfl (enters_of Try.func50 (by kernel_rfl) rfl) rfl
      (pcs bb N f m) (fun b => b = H + 1 + 1 + 2 ∨ b = H + 1 + 1 + 1) (fun b hb => by omega) (PeekI w (pcs bb N f m) rb bb N f m H mem xs) ?hI ?hIX ?hseq ?h0
      (fun x => { tmps := #[.pointer (some ⟨rb, 0, none⟩), .int .i64 m, undef, undef, .slice none 0 0, .pointer (some ⟨H + 1, 0, none⟩), x, u7, u8, u9, u10, u11, .int .i64 m, .bool false, .int .i64 m, .slice (some ⟨H, 0, none⟩) 0 m,
        .pointer (some ⟨rb, 0, none⟩), .pointer (some ⟨rb, 0, none⟩), .pointer (some ⟨rb, 0, none⟩), .pointer (some ⟨rb, 1, none⟩), .int .i64 f, .int .i64 m,
        .func (.func 50) #[] #[.pointer (some ⟨H + 1 + 1 + 2, 0, none⟩), .pointer (some ⟨H + 1 + 1 + 1, 0, none⟩), .pointer (some ⟨H + 1 + 1, 0, none⟩)],
        x, u24, u25, u26, u27], defers := [] }) ?hassign ?hbody ?hdone
    case hI =>
      rintro i W W' row ⟨d, fi, e1, e2, e3, e4, e5, k0, k3, k1, k2, k4, k5, k9⟩ hg hr
      have hr' : ∀ g, g < H + 5 → row ≠ some g := fun g hg e => by have := (hr g e).1; omega
      have hHl := (k0.lt H rfl).2
      exact ⟨d, fi, e1, e2, e3, e4, e5, own_heap k0 (hg.block H hHl (Ne.symm (hr' H (by omega)))), blk_grown k3 hg (hr' _ (by omega)), blk_grown k1 hg (hr' _ (by omega)), blk_grown k2 hg (hr' _ (by omega)), blk_grown k4 hg (hr' _ (by omega)),
        k5.grownRow hg (fun r e => by have := (hr r e).1; omega), Nat.le_trans k9 hg.size⟩
    case hIX =>
      rintro i W b v hb ⟨d, fi, e1, e2, e3, e4, e5, k0, k3, k1, k2, k4, k5, k9⟩
      exact ⟨d, fi, e1, e2, e3, e4, e5, own_heap k0 (Below.heap_setCell W _ v H (by simp; omega)), k3.far (by simp; omega) v, k1.far (by simp; omega) v, k2.far (by simp; omega) v, k4.far (by simp; omega) v, k5.setCell (.inr (by simp; omega)) v, by simpa [World.setCell] using k9⟩
    case hseq =>
      intro l W J hold hJI hJd hJX hY hJ0
      exact iter_in 2 (by omega) l (H + 1 + 1 + 2) (H + 1 + 1 + 1) (H + 1 + 1) rb bb N f m J (by omega) hN0 (by omega) (by omega) (by omega) hJd hJX
        (fun i W hJ => by obtain ⟨d, fi, e1, e2, e3, e4, e5, k0, k3, k1, k2, k4, k5, k9⟩ := hJI i W hJ; exact ⟨k4.cell 0, k2.cell 0⟩)
        hY W ((hold _ (by omega)).trans hnc3) ((hold _ (by omega)).trans hfc3) hJ0
    case h0 =>
      exact ⟨0, f, by omega, by omega, by omega, rfl, rfl, by simpa [bcells] using hoc, hbc, hfc.blk hB2 (by simp), hfc.blk hB1 (by simp), hrc, hfc, by omega⟩
    case hassign =>
      intro l x W K hK
      gi_wp2
      exact hK
    case hbody =>
      rintro l i x W ⟨d, fi, e1, e2, e3, e4, e5, k0, k3, k1, k2, k4, k5, k9⟩ hx
      have hd : d < m := by
        rcases Nat.lt_or_ge d m with h | h
        · exact h
        · obtain rfl : d = m := by omega
          rw [Nat.sub_self, pcs_zero] at e4
          have hi1 := (List.getElem?_eq_some_iff.1 hx).1
          have := congrArg List.length e4
          simp at this; omega
      obtain ⟨f', hf'⟩ : ∃ f', fi % N = f' := ⟨_, rfl⟩
      obtain ⟨en, hen⟩ : ∃ en, min (f' + (m - d)) N = en := ⟨_, rfl⟩
      have hf'N : f' < N := by rw [← hf']; exact Nat.mod_lt _ hN0
      have hst := pcs_step bb N fi (m - d) hN0 (by omega) (by omega)
      rw [hf', hen] at hst
      obtain ⟨len, hlen⟩ : ∃ len, en - f' = len := ⟨_, rfl⟩
      rw [hlen] at hst
      have hx2 : x = .slice (some ⟨bb, f', none⟩) len len := by
        have := congrArg (·[0]?) (e4.trans hst)
        simp [hx] at this
        exact this
      have e4' : (pcs bb N f m).drop (i + 1) = pcs bb N en (m - (d + len)) := by
        have := congrArg List.tail (e4.trans hst)
        rw [show m - (d + len) = m - d - len by omega]
        simpa using this
      have hi2 := (List.getElem?_eq_some_iff.1 hx).1
      have hl0 : 0 < len ∧ len ≤ m - d ∧ f' + len ≤ N ∧ en = f' + len := by omega
      subst hx2
      rw [hf'] at e5
      have hyl : (bcells ((xs.drop d).take len)).length = len * 1 := by simp [bcells]; omega
      have hsrc : ∀ j u, (bcells ((xs.drop d).take len))[j]? = some u → W.cell? ((⟨bb, f', none⟩ : Addr).add j) = some u := by
        intro j u hu
        have hj : j < len := by
          have := (List.getElem?_eq_some_iff.1 hu).1
          omega
        have hp : (f + (d + j)) % N = f' + j := by rw [← Nat.add_assoc, ← Nat.mod_add_mod, ← e5, Nat.mod_eq_of_lt (by omega)]
        have hh := HH.out (d + j) (by omega)
        rw [hp] at hh
        have ea : (⟨bb, f', none⟩ : Addr).add j = ⟨bb, f' + j, none⟩ := by unfold Addr.add; split <;> simp_all
        rw [ea, k1.cell (f' + j), ← hu]
        simp only [bcells, List.getElem?_map, List.getElem?_take, if_pos hj, List.getElem?_drop, List.getElem?_toArray]
        rw [List.getElem?_eq_getElem (by omega : d + j < xs.length), List.getElem?_eq_getElem (by omega : f' + j < mem.length)]
        rw [List.getD_eq_getElem?_getD, List.getD_eq_getElem?_getD, List.getElem?_eq_getElem (by omega : d + j < xs.length), List.getElem?_eq_getElem (by omega : f' + j < mem.length)] at hh
        simpa using hh
      have hbx : W.cell? ⟨H + 1, 0, none⟩ = some (.slice (some ⟨H, 0, none⟩) d m) := k3.cell 0
      have htk : bcells (xs.take d) ++ bcells ((xs.drop d).take len) = bcells (xs.take (d + len)) := by
        rw [← bcells_append, List.take_add]
      have HT := Lib.hid htk
      have HS := Lib.hid hsrc
      have HY := Lib.hid hyl
      have hsz := k5.size
      clear htk hsrc hyl hst hen hf'
      gi_wp2_with (first
        | (gi_at_builtin; refine wpListIn_append_fits _ rfl _ _ 22 rfl H 5 i0 1 Try.underlying22 hi hz1 H d m (bcells (xs.take d)) rfl k0 ⟨bb, f', none⟩ len len (bcells ((xs.drop d).take len)) rfl HY.out HS.out (bcells_one _) (by omega) ?_; intro w3 hown3 hg3; have hb3 := blk_grown k3 hg3 (by simp); have hc3 : w3.cell? ⟨H + 1, 0, none⟩ = some (.slice (some ⟨H, 0, none⟩) d m) := hb3.cell 0; have hz3 := hb3.frozen 0))
      have hcl : ∀ (j : Nat) (o : Obj), some H = some j → W.heap[j]? = some o → o.isCells = true := by
        intro j o hj ho
        cases hj
        rcases k0.2 with ⟨h, _⟩ | ⟨g', cap', cur, hv, _, hh, _⟩
        · cases h
        · cases hv
          rw [hh] at ho; cases ho; rfl
      have hfar : ∀ b, b ≠ H → b ≠ H + 1 → b < W.heap.size → (w3.setCell ⟨H + 1, 0, none⟩ (.slice (some ⟨H, 0, none⟩) (d + len) m)).heap[b]? = W.heap[b]? := fun b h1 h2 h3 =>
        (Below.heap_setCell w3 _ _ b (by simp; omega)).trans (hg3.block b h3 (by simp; omega))
      have hWl := k4.lt
      refine ⟨(KeepsOthers.of_grownBy hg3 hcl).trans (KeepsOthers.setCell _ _ _), ?_, ?_⟩
      · have hX : ∀ b, b = H + 1 + 1 + 2 ∨ b = H + 1 + 1 + 1 → (w3.setCell ⟨H + 1, 0, none⟩ (.slice (some ⟨H, 0, none⟩) (d + len) m)).heap[b]? = W.heap[b]? := fun b hb => by
          exact hfar b (by omega) (by omega) (by omega)
        exact ⟨hX _ (.inl rfl), hX _ (.inr rfl)⟩
      · refine ⟨d + len, en, by omega, by omega, by omega, e4', ?_, by rw [← HT.out]; exact own_heap hown3 (Below.heap_setCell w3 _ _ H (by simp)), hb3.set_ 0 _, (hfar bb (by omega) (by omega) k1.lt).trans k1, (hfar rb (by omega) (by omega) k2.lt).trans k2,
          (hfar (H + 1 + 1) (by omega) (by omega) k4.lt).trans k4, (k5.grownRow hg3 (fun r e => by cases e; omega)).setCell (.inr (by simp; omega)) _, by have := hg3.size; simp [World.setCell]; omega⟩
        rw [hl0.2.2.2, show f + (d + len) = f + d + len by omega, ← Nat.mod_add_mod (f + d), ← e5]
    case hdone =>
      rintro D W hD ⟨d, fi, e1, e2, e3, e4, e5, k0, k3, k1, k2, k4, k5, k9⟩ hK
      have hd : d = m := by
        rcases Nat.lt_or_ge d m with h | h
        · have hst := pcs_step bb N fi (m - d) hN0 (by omega) (by omega)
          rw [List.drop_length] at e4
          rw [hst] at e4; cases e4
        · omega
      subst hd
      have hbx : W.cell? ⟨H + 1, 0, none⟩ = some (.slice (some ⟨H, 0, none⟩) d d) := k3.cell 0
      have hF' : Fr [] w (W.putObj D (.deferred none)) := k5.grownRow (grownBy_putObj' _ D _) (fun r e => by cases e; omega)
      have hO' : (W.putObj D (.deferred none)).ownsRow H 5 1 (.slice (some ⟨H, 0, none⟩) d d) d (bcells (xs.take d)) := own_heap k0 (World.putObj_heap_other (by omega))
      go_wp2_with fail
      refine ⟨by simp, .inl ⟨_, _, rfl, run_takeDeferred hK, ?_⟩⟩
      exact ⟨_, results_tmp rfl _ _ _, _, rfl, by rw [hH]; exact hO', hF'⟩

end Go.Proofs.Ytokdcddmljfgnaa
