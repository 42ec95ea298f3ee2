/-
  Put, by its contract.
-/
import Derived.Test.YtokdcddmljfgnaaRange
import Derived.Test.YtokdcddmljfgnaaGreat
import Derived.Laws.CopyRow
import Derived.Test.YtokdcddmljfgnaaRingP
import Derived.StillTailTactics
import Derived.Deep.Cut
namespace Go.Proofs.Ytokdcddmljfgnaa
open Go.RowKit Go.Shelf
attribute [local go_sem] Oper.semAt_some
set_option linter.unusedVariables false

theorem pieces_calls (p : Option Addr) (f n : Int) (w : World) : Calls Try.prog 47 #[.pointer p, .int .i64 f, .int .i64 n] w fun e w' =>
    e = .returned (.func (.func 50) #[] #[.pointer (some ⟨w.heap.size + 2, 0, none⟩), .pointer (some ⟨w.heap.size + 1, 0, none⟩), .pointer (some ⟨w.heap.size, 0, none⟩)]) ∧
    w' = ((w.alloc (.cells #[.pointer p] 27)).alloc (.cells #[.int .i64 f] 3)).alloc (.cells #[.int .i64 n] 3) := by
  go_enter Try.func47, Try.ntmps47
  go_wp2_with fail
  go_ret
  exact ⟨rfl, rfl⟩

/-- A ring's memory: where its bytes lie, which are held. -/
def RingM (w : World) (rb bb N f : Nat) (mem xs : List Int) : Prop :=
  Blk w rb 29 #[.slice (some ⟨bb, 0, none⟩) N N, .int .i64 f, .int .i64 xs.length] ∧ Blk w bb 5 (mem.map (Value.int .u8)).toArray ∧ rb ≠ bb ∧
  mem.length = N ∧ 0 < N ∧ N ≤ 4096 ∧ f < N ∧ xs.length ≤ N ∧ (∀ k, k < xs.length → mem.getD ((f + k) % N) 0 = xs.getD k 0)

theorem RingM.rd {w : World} {rb bb N f : Nat} {mem xs : List Int} (h : RingM w rb bb N f mem xs) : Rd w (some ⟨rb, 0, none⟩) N xs.length := by
  obtain ⟨h1, h2, h3, h4, h5, h6, h7, h8, h9⟩ := h
  exact .inr ⟨rb, _, _, rfl, h1.lt, h1.cell 0, h1.cell 2, by omega, h8⟩

theorem blk_grown {W W' : World} {g : Nat} {t : TypeId} {cs : Array Value} {row : Option Nat} (h : Blk W g t cs) (hg : W.grownBy W' row) (hr : row ≠ some g) : Blk W' g t cs := (hg.block g h.lt (Ne.symm hr)).trans h
theorem Fr.grownRow {L : List Nat} {w W W' : World} {row : Option Nat} (h : Fr L w W) (hg : W.grownBy W' row) (hr : ∀ r, row = some r → w.heap.size ≤ r) : Fr L w W' :=
  ⟨hg.os.trans h.os, hg.tape.trans h.tape, hg.output.trans h.output, Nat.le_trans h.size hg.size, fun k hk hn => (hg.block k (Nat.lt_of_lt_of_le hk h.size) (fun e => by have := hr k e.symm; omega)).trans (h.block k hk hn)⟩
theorem slice_l22 (b o len cap l : Nat) (h2 : l ≤ len) (wx : World) :
    (Instr.sliceAt 22 (.slice (some ⟨b, o, none⟩) len cap) (some (.int .i64 l)) none none).run Try.prog wx = .ok (.slice (some (if cap = l then ⟨b, o, none⟩ else ⟨b, o + l, none⟩)) (len - l) (cap - l)) wx := by
  rw [run_sliceAt_slice wx 22 _ _ _ _ und22, run_slice_l wx 22 _ len cap und22 .i64 l (by omega) (by omega), elem22]
  simp only [Result.andThen, sliced, Int.toNat_natCast]
  split
  · rfl
  · next hne =>
    simp [Addr.add]

theorem setRow_far (w : World) {g g' : Nat} (cs : Array Value) (h : g ≠ g') : (w.setRow g cs).heap[g']? = w.heap[g']? := by
  simp [World.setRow, Array.getElem?_modify, h]
theorem setRow_size (w : World) (g : Nat) (cs : Array Value) : (w.setRow g cs).heap.size = w.heap.size := by simp [World.setRow]

/-- Between two rounds of Put: d bytes are over. -/
def PutI (w : World) (L : List Value) (rb bb N f m H b0 off0 c : Nat) (xs bs : List Int) (i : Nat) (W : World) : Prop :=
  ∃ (d fi : Nat) (mem : List Int) (Ab : Addr), d ≤ m ∧ fi ≤ 4611686018427387904 ∧ i ≤ L.length ∧ L.drop i = pcs bb N fi (m - d) ∧ fi % N = (f + (xs.length + d)) % N ∧ mem.length = N ∧
    (∀ k, k < xs.length + d → mem.getD ((f + k) % N) 0 = (xs ++ bs).getD k 0) ∧ Blk W bb 5 (mem.map (Value.int .u8)).toArray ∧
    Blk W rb 29 #[.slice (some ⟨bb, 0, none⟩) N N, .int .i64 f, .int .i64 xs.length] ∧ Blk W H 22 #[.slice (some Ab) (bs.length - d) (c - d)] ∧ (d < bs.length → Ab = ⟨b0, off0 + d, none⟩) ∧
    Blk W (H + 1) 27 #[.pointer (some ⟨rb, 0, none⟩)] ∧ Fr [rb, bb] w W

set_option maxRecDepth 100000 in
set_option maxHeartbeats 2000000 in
theorem put_some (rb bb N f : Nat) (mem xs bs : List Int) (A : Option Addr) (c : Nat) (w : World) (hR : RingM w rb bb N f mem xs) (hX : BytesAt w A bs (fun b => b ≠ rb ∧ b ≠ bb)) (hb : Byts bs) (hl : bs.length ≤ c) (hc : c ≤ 9223372036854775807)
    (h1 : 0 < bs.length) (h2 : xs.length < N) :
    Calls Try.prog 13 #[.pointer (some ⟨rb, 0, none⟩), .slice A bs.length c] w fun e w' => e = .returned (.int .i64 (min bs.length (N - xs.length) : Nat)) ∧
      (∃ mem', RingM w' rb bb N f mem' (xs ++ bs.take (min bs.length (N - xs.length)))) ∧ Fr [rb, bb] w w' := by
  obtain ⟨m, hm⟩ : ∃ m, min bs.length (N - xs.length) = m := ⟨_, rfl⟩
  rw [hm]
  have HR := Lib.hid hR
  obtain ⟨hB1, hB2, hne, hml, hN0, hN1, hfN, hxl, hheld⟩ := hR
  have HX := Lib.hid hX
  have HB := Lib.hid hb
  have HH := Lib.hid hheld
  clear hX hb hheld
  refine (callsIn_wide (n := 3)).1 ?_
  refine callsIn_of_wp_marks Try.func13 rfl trivial ?_ rfl
  simp only [Try.ntmps13, List.size_toArray, List.length_cons, List.length_nil, Nat.reduceAdd, Nat.reduceSub, Array.replicate_succ, Array.replicate_zero, List.push_toArray, List.append_toArray, List.nil_append, List.cons_append]
  refine wpIn_wide.2 ?_
  go_wp2_with fail
  go_cut [0, 1, 3, 4, 5] from 6 (fun s0 s1 s3 s4 s5 wc => s0 = .pointer (some ⟨rb, 0, none⟩) ∧ s1 = .slice A bs.length c ∧ s3 = .pointer (some ⟨w.heap.size, 0, none⟩) ∧ s4 = .int .i64 0 ∧ s5 = .int .i64 m ∧ ∃ k, wc = (w.alloc (.cells #[.slice A bs.length c] 22)).drewN k)
  case first =>
    rcases Nat.lt_or_ge (N - xs.length) bs.length with hc1 | hc1
    · have hc2 : (N : Int) - xs.length < bs.length := by omega
      have hc3 : (N : Int) - xs.length = m := by omega
      go_quiet (first | (go_at_call 18; with_reducible refine Calls.quiet_of_same ((room_calls (some ⟨rb, 0, none⟩) N xs.length _ ((HR.out.rd.alloc _).drewN _)).mono fun _ _ h => ⟨h.1, h.2.symm⟩)))
      all_goals (go_wp2_with fail; go_meet)
      all_goals exact ⟨rfl, rfl, rfl, rfl, by first | rfl | rw [hc3], _, rfl⟩
    · have hc2 : ¬ (N : Int) - xs.length < bs.length := by omega
      obtain rfl : m = bs.length := by omega
      go_quiet (first | (go_at_call 18; with_reducible refine Calls.quiet_of_same ((room_calls (some ⟨rb, 0, none⟩) N xs.length _ ((HR.out.rd.alloc _).drewN _)).mono fun _ _ h => ⟨h.1, h.2.symm⟩)))
      all_goals (go_wp2_with fail; go_meet)
      all_goals exact ⟨rfl, rfl, rfl, rfl, rfl, _, rfl⟩
  case rest =>
    obtain ⟨rfl, rfl, rfl, rfl, rfl, kd, rfl⟩ := hcut
    have hm0 : ¬ m = 0 := by omega
    have hmle : m ≤ N - xs.length ∧ m ≤ bs.length := by omega
    have hm3 : ((m : Int) == 0) = false := by simp; omega
    obtain ⟨wa, hwa⟩ : ∃ wa, (w.alloc (.cells #[.slice A bs.length c] 22)).drewN kd = wa := ⟨_, rfl⟩
    have hfa : Fr [] w wa := by rw [← hwa]; exact ((Fr.refl [] w).alloc _).drewN _
    have hba : Blk wa w.heap.size 22 #[.slice A bs.length c] := by rw [← hwa]; exact Blk.new w 22 _
    have hza : wa.heap.size = w.heap.size + 1 := by rw [← hwa]; simp [World.drewN]
    rw [hwa]
    clear hwa
    have hRa := hfa.blk hB1 (by simp)
    have hMa := hfa.blk hB2 (by simp)
    have hr1 : wa.cell? ⟨rb, 1, none⟩ = some (.int .i64 f) := hRa.cell 1
    have hr2 : wa.cell? ⟨rb, 2, none⟩ = some (.int .i64 xs.length) := hRa.cell 2
    have hwr : IntKind.i64.wrap ((f : Int) + xs.length) = ((f + xs.length : Nat) : Int) := by rw [IntWalk.i64_in _ (by omega)]; omega
    go_wp2_with fail
    go_still_tail 11, (by kernel_rfl)
    change wpList _ _ _ _ _ wa.drew
    obtain ⟨wb, hwb⟩ : ∃ wb, wa.drew = wb := ⟨_, rfl⟩
    have hfb : Fr [] w wb := by rw [← hwb]; exact hfa.drew
    have hbb : Blk wb w.heap.size 22 #[.slice A bs.length c] := by rw [← hwb]; exact hba
    have hzb : wb.heap.size = w.heap.size + 1 := by rw [← hwb]; exact hza
    rw [hwb]
    clear hwb hfa hba hza hRa hMa hr1 hr2
    go_wp2_with fail
    refine (pieces_calls (some ⟨rb, 0, none⟩) ((f : Int) + xs.length) m wb).mono ?_
    rintro e w2 ⟨rfl, rfl⟩
    go_wp2_with fail
    obtain ⟨b0, off0, rfl, hok, hb0, hcells⟩ := HX.out h1
    obtain ⟨H, hH⟩ : ∃ H, w.heap.size = H := ⟨_, rfl⟩
    rw [hH] at hbb hzb ⊢
    obtain ⟨wc, hwc⟩ : ∃ wc, ((wb.alloc (.cells #[.pointer (some ⟨rb, 0, none⟩)] 27)).alloc (.cells #[.int .i64 ((f : Int) + xs.length)] 3)).alloc (.cells #[.int .i64 m] 3) = wc := ⟨_, rfl⟩
    have hzc : wc.heap.size = H + 4 := by rw [← hwc]; simp; omega
    have hfc : Fr [] w wc := by rw [← hwc]; exact ((hfb.alloc _).alloc _).alloc _
    have hbc : Blk wc H 22 #[.slice (some ⟨b0, off0, none⟩) bs.length c] := by rw [← hwc]; exact ((hbb.alloc _).alloc _).alloc _
    have hrc : Blk wc (H + 1) 27 #[.pointer (some ⟨rb, 0, none⟩)] := by
      rw [← hwc]
      have := ((Blk.new wb 27 #[.pointer (some ⟨rb, 0, none⟩)]).alloc (.cells #[.int .i64 ((f : Int) + xs.length)] 3)).alloc (.cells #[.int .i64 m] 3)
      rwa [hzb] at this
    have hfc3 : Blk wc (H + 1 + 1) 3 #[.int .i64 ((f + xs.length : Nat) : Int)] := by
      rw [← hwc]
      have := (Blk.new (wb.alloc (.cells #[.pointer (some ⟨rb, 0, none⟩)] 27)) 3 #[.int .i64 ((f : Int) + xs.length)]).alloc (.cells #[.int .i64 m] 3)
      rw [World.size_alloc, hzb] at this
      rw [Int.natCast_add]
      exact this
    have hnc3 : Blk wc (H + 1 + 2) 3 #[.int .i64 m] := by
      rw [← hwc]
      have := Blk.new ((wb.alloc (.cells #[.pointer (some ⟨rb, 0, none⟩)] 27)).alloc (.cells #[.int .i64 ((f : Int) + xs.length)] 3)) 3 #[.int .i64 m]
      rw [World.size_alloc, World.size_alloc, hzb] at this
      exact this
    have hlr := hB1.lt
    have hlb := hB2.lt
    rw [hH] at hlr hlb
    rw [hwc]
    clear hwc hfb hbb hzb
    refine (wpIn_wide (n := 3)).1 ?_
    refine range_walk (n := 3) (by omega) (gf := 50) (lb := #[.pointer (some ⟨H + 1 + 2, 0, none⟩), .pointer (some ⟨H + 1 + 1, 0, none⟩), .pointer (some ⟨H + 1, 0, none⟩)]) rfl (enters_of Try.func50 (by kernel_rfl) rfl) rfl
      (pcs bb N (f + xs.length) m) (fun b => b = H + 1 + 2 ∨ b = H + 1 + 1) (fun b hb => by omega) (PutI w (pcs bb N (f + xs.length) m) rb bb N f m H b0 off0 c xs bs) ?hI ?hIX ?hseq ?h0
      (fun x => { tmps := #[.pointer (some ⟨rb, 0, none⟩), .slice (some ⟨b0, off0, none⟩) bs.length c, undef, .pointer (some ⟨H, 0, none⟩), .int .i64 0, .int .i64 m, x, u7, u8, u9, u10, u11, .int .i64 m, .bool false,
        .pointer (some ⟨rb, 0, none⟩), .pointer (some ⟨rb, 0, none⟩), .pointer (some ⟨rb, 0, none⟩), .pointer (some ⟨rb, 1, none⟩), .int .i64 f, .pointer (some ⟨rb, 0, none⟩), .pointer (some ⟨rb, 0, none⟩), .pointer (some ⟨rb, 2, none⟩),
        .int .i64 xs.length, .int .i64 ((f : Int) + xs.length), .int .i64 m, .func (.func 50) #[] #[.pointer (some ⟨H + 1 + 2, 0, none⟩), .pointer (some ⟨H + 1 + 1, 0, none⟩), .pointer (some ⟨H + 1, 0, none⟩)],
        x, u27, u28, u29, u30, u31, u32, u33, u34, u35, u36, u37, u38, u39, u40], defers := [] }) ?hassign ?hbody ?hdone
    case hI =>
      rintro i W W' row ⟨d, fi, mem', Ab, e1, e2, e3, e4, e5, e6, e7, k1, k2, k3, e8, k4, k5⟩ hg hr
      have hr' : ∀ g, g < H + 4 → row ≠ some g := fun g hg e => by have := (hr g e).1; omega
      exact ⟨d, fi, mem', Ab, e1, e2, e3, e4, e5, e6, e7, blk_grown k1 hg (hr' _ (by omega)), blk_grown k2 hg (hr' _ (by omega)), blk_grown k3 hg (hr' _ (by omega)), e8, blk_grown k4 hg (hr' _ (by omega)),
        k5.grownRow hg (fun r e => by have := (hr r e).1; omega)⟩
    case hIX =>
      rintro i W b v hb ⟨d, fi, mem', Ab, e1, e2, e3, e4, e5, e6, e7, k1, k2, k3, e8, k4, k5⟩
      exact ⟨d, fi, mem', Ab, e1, e2, e3, e4, e5, e6, e7, k1.far (by simp; omega) v, k2.far (by simp; omega) v, k3.far (by simp; omega) v, e8, k4.far (by simp; omega) v, k5.setCell (.inr (by simp; omega)) v⟩
    case hseq =>
      intro l W J hold hJI hJd hJX hY hJ0
      exact iter_in 2 (by omega) l (H + 1 + 2) (H + 1 + 1) (H + 1) rb bb N (f + xs.length) m J (by omega) hN0 (by omega) (by omega) (by omega) hJd hJX
        (fun i W hJ => by obtain ⟨d, fi, mem', Ab, e1, e2, e3, e4, e5, e6, e7, k1, k2, k3, e8, k4, k5⟩ := hJI i W hJ; exact ⟨k4.cell 0, k2.cell 0⟩)
        hY W ((hold _ (by omega)).trans hnc3) ((hold _ (by omega)).trans hfc3) hJ0
    case h0 =>
      exact ⟨0, f + xs.length, mem, ⟨b0, off0, none⟩, by omega, by omega, by omega, rfl, rfl, hml, fun k hk => by rw [HH.out k (by omega)]; simp [List.getD_eq_getElem?_getD, List.getElem?_append_left hk],
        hfc.blk hB2 (by simp), hfc.blk hB1 (by simp), hbc, fun _ => rfl, hrc, hfc.mono (by simp)⟩
    case hassign =>
      intro l x W K hK
      gi_wp2
      exact hK
    case hbody =>
      rintro l i x W ⟨d, fi, mem', Ab, e1, e2, e3, e4, e5, e6, e7, k1, k2, k3, e8, k4, k5⟩ hx
      have hd : d < m := by
        rcases Nat.lt_or_ge d m with h | h
        · exact h
        · obtain rfl : d = m := by omega
          rw [Nat.sub_self, pcs_zero] at e4
          have hi1 := (List.getElem?_eq_some_iff.1 hx).1
          have := congrArg List.length e4
          simp at this; omega
      obtain ⟨f', hf'⟩ : ∃ f', fi % N = f' := ⟨_, rfl⟩
      obtain ⟨en, hen⟩ : ∃ en, min (f' + (m - d)) N = en := ⟨_, rfl⟩
      have hf'N : f' < N := by rw [← hf']; exact Nat.mod_lt _ hN0
      have hst := pcs_step bb N fi (m - d) hN0 (by omega) (by omega)
      rw [hf', hen] at hst
      obtain ⟨len, hlen⟩ : ∃ len, en - f' = len := ⟨_, rfl⟩
      rw [hlen] at hst
      have hx2 : x = .slice (some ⟨bb, f', none⟩) len len := by
        have := congrArg (·[0]?) (e4.trans hst)
        simp [hx] at this
        exact this
      have e4' : (pcs bb N (f + xs.length) m).drop (i + 1) = pcs bb N en (m - (d + len)) := by
        have := congrArg List.tail (e4.trans hst)
        rw [show m - (d + len) = m - d - len by omega]
        simpa using this
      have hi2 := (List.getElem?_eq_some_iff.1 hx).1
      have hl0 : 0 < len ∧ len ≤ m - d ∧ f' + len ≤ N ∧ en = f' + len := by omega
      obtain rfl := e8 (by omega)
      subst hx2
      rw [hf'] at e5
      have hms : (mem'.take f' ++ (bs.drop d).take len ++ mem'.drop (f' + len)).length = N := by simp; omega
      have hyl : ((bs.drop d).take len).length = len := by simp; omega
      have hheld2 := held_put (v := fun k => (xs ++ bs).getD k 0) e6 hyl e7 (by rw [← e5]; omega) (by omega) (fun j hj => by
        simp only [List.getD_eq_getElem?_getD, List.getElem?_take, if_pos hj, List.getElem?_drop]
        rw [List.getElem?_append_right (by omega)]
        congr 2; omega)
      rw [← e5] at hheld2
      have hcp : (Builtin.copy_ #[22, 22] 3 #[.slice (some ⟨bb, f', none⟩) len len, .slice (some ⟨b0, off0 + d, none⟩) (bs.length - d) (c - d)]).run Try.prog W.drew = .ok (.int .i64 len) (W.drew.setRow bb ((mem'.take f' ++ (bs.drop d).take len ++ mem'.drop (f' + len)).map (Value.int .u8)).toArray) := by
        have hsrc : ∀ j v, (((bs.drop d).take len).map (Value.int .u8))[j]? = some v → W.drew.cell? ((⟨b0, off0 + d, none⟩ : Addr).add j) = some v := by
          intro j v hv
          have hj : j < len := by
            have := (List.getElem?_eq_some_iff.1 hv).1
            simp at this; omega
          have hc1 := hcells (d + j) (by omega)
          have hc2 : W.drew.cell? ⟨b0, off0 + (d + j), none⟩ = some (.int .u8 (bs.getD (d + j) 0)) := (k5.cell (p := ⟨b0, off0 + (d + j), none⟩) hb0 (by simp; exact hok)).trans hc1
          have ea : (⟨b0, off0 + d, none⟩ : Addr).add j = ⟨b0, off0 + (d + j), none⟩ := by unfold Addr.add; split <;> simp_all <;> omega
          rw [ea, hc2, ← hv]
          simp [hj, List.getElem?_eq_getElem (by omega : d + j < bs.length), List.getD_eq_getElem?_getD]
        have := run_copy_row (P := Try.prog) W.drew 22 22 3 5 bb f' len len ⟨b0, off0 + d, none⟩ (bs.length - d) (c - d) (mem'.map (Value.int .u8)).toArray 5 (((bs.drop d).take len).map (Value.int .u8)) Try.underlying22 (by kernel_rfl) k1
          (by rw [List.length_map, hyl]; show len = min (bs.length - d) len; omega) hsrc (by simp; omega) (fun v hv => by obtain ⟨y, _, rfl⟩ := List.mem_map.1 hv; rfl)
        rw [this]
        have hl2 : (((bs.drop d).take len).map (Value.int .u8)).length = len := by simp; omega
        rw [hl2]
        simp [goInt, List.map_append, List.map_take, List.map_drop]
      obtain ⟨wN, hwN⟩ : ∃ wN, W.drew.setRow bb ((mem'.take f' ++ (bs.drop d).take len ++ mem'.drop (f' + len)).map (Value.int .u8)).toArray = wN := ⟨_, rfl⟩
      rw [hwN] at hcp
      have hNb : Blk wN bb 5 ((mem'.take f' ++ (bs.drop d).take len ++ mem'.drop (f' + len)).map (Value.int .u8)).toArray := by rw [← hwN]; exact setRow_heap W.drew bb _ _ 5 (0, 0) k1
      have hNo : ∀ g, g ≠ bb → wN.heap[g]? = W.heap[g]? := fun g hg => by rw [← hwN]; exact setRow_far W.drew _ (Ne.symm hg)
      have hNk : KeepsOthers W wN := ⟨by rw [← hwN, setRow_size]; exact Nat.le_refl _, fun k o hk ho => by
        by_cases hkb : k = bb
        · subst hkb
          have : W.heap[k]? = some (.cells _ _ _) := k1
          rw [this] at hk; cases hk; cases ho
        · rw [hNo k hkb]; exact hk⟩
      have hNf : Fr [rb, bb] w wN := ⟨by rw [← hwN]; exact k5.os, by rw [← hwN]; exact k5.tape, by rw [← hwN]; exact k5.output, by rw [← hwN, setRow_size]; exact k5.size, fun k hk hn => by
        rw [hNo k (fun e => hn (by simp [e]))]; exact k5.block k hk hn⟩
      have hNH : Blk wN H 22 #[.slice (some ⟨b0, off0 + d, none⟩) (bs.length - d) (c - d)] := (hNo H (by omega)).trans k3
      have hq1 : W.drew.cell? ⟨H, 0, none⟩ = some (.slice (some ⟨b0, off0 + d, none⟩) (bs.length - d) (c - d)) := k3.cell 0
      have hq2 : wN.cell? ⟨H, 0, none⟩ = some (.slice (some ⟨b0, off0 + d, none⟩) (bs.length - d) (c - d)) := hNH.cell 0
      have hq3 := hNH.frozen 0
      have hsl := fun wx => slice_l22 b0 (off0 + d) (bs.length - d) (c - d) len (by omega) wx
      obtain ⟨An, hAn⟩ : ∃ An : Addr, (if c - d = len then (⟨b0, off0 + d, none⟩ : Addr) else ⟨b0, off0 + d + len, none⟩) = An := ⟨_, rfl⟩
      rw [hAn] at hsl
      have hend : KeepsOthers W (wN.setCell ⟨H, 0, none⟩ (.slice (some An) (bs.length - d - len) (c - d - len))) ∧ (∀ b, (b = H + 1 + 2 ∨ b = H + 1 + 1) → (wN.setCell ⟨H, 0, none⟩ (.slice (some An) (bs.length - d - len) (c - d - len))).heap[b]? = W.heap[b]?) ∧
          PutI w (pcs bb N (f + xs.length) m) rb bb N f m H b0 off0 c xs bs (i + 1) (wN.setCell ⟨H, 0, none⟩ (.slice (some An) (bs.length - d - len) (c - d - len))) := by
        refine ⟨hNk.trans (KeepsOthers.setCell _ _ _), fun b hb => (Below.heap_setCell wN _ _ b (by simp; omega)).trans (hNo b (by omega)), d + len, en, _, An, by omega, by omega, by omega, e4', ?_, hms, ?_, hNb.far (by simp; omega) _, Blk.far (w := wN) ((hNo rb hne).trans k2) (by simp; omega) _, ?_, ?_,
          Blk.far (w := wN) ((hNo (H + 1) (by omega)).trans k4) (by simp) _, hNf.setCell (.inr (by simp; omega)) _⟩
        · rw [hl0.2.2.2, show f + (xs.length + (d + len)) = f + (xs.length + d) + len by omega, ← Nat.mod_add_mod (f + (xs.length + d)), ← e5]
        · intro k hk
          exact hheld2 k (by omega)
        · rw [show bs.length - (d + len) = bs.length - d - len by omega, show c - (d + len) = c - d - len by omega]
          exact hNH.set_ 0 _
        · intro h
          rw [← hAn, if_neg (by omega), Nat.add_assoc]
      have HE := Lib.hid hend
      clear hend hheld2 e7 hms hNo hNf hNk hNb e4 e4' hst hx hcells e5 hf' hen
      gi_wp2
      gi_region
      all_goals gi_wp2
      all_goals exact ⟨HE.out.1, ⟨HE.out.2.1 _ (.inl rfl), HE.out.2.1 _ (.inr rfl)⟩, HE.out.2.2⟩
    case hdone =>
      rintro D W hD ⟨d, fi, mem', Ab, e1, e2, e3, e4, e5, e6, e7, k1, k2, k3, e8, k4, k5⟩ hK
      have hd : d = m := by
        rcases Nat.lt_or_ge d m with h | h
        · have hst := pcs_step bb N fi (m - d) hN0 (by omega) (by omega)
          rw [List.drop_length] at e4
          rw [hst] at e4; cases e4
        · omega
      subst hd
      have hq1 : W.cell? ⟨rb, 2, none⟩ = some (.int .i64 xs.length) := k2.cell 2
      have hq2 := k2.frozen 2
      have hw1 : IntKind.i64.wrap ((xs.length : Int) + d) = ((xs.length + d : Nat) : Int) := by rw [IntWalk.i64_in _ (by omega)]; omega
      have hk2 : Blk W rb 29 #[.slice (some ⟨bb, 0, none⟩) N N, .int .i64 f, .int .i64 xs.length] := k2
      have hDl := (Array.getElem?_eq_some_iff.1 hK).1
      have hK' : (W.setCell ⟨rb, 2, none⟩ (.int .i64 ((xs.length : Int) + d))).heap[D]? = some (.deferred (some [])) := (Below.heap_setCell W _ _ D (by simp; omega)).trans hK
      have hB1' : Blk ((W.setCell ⟨rb, 2, none⟩ (.int .i64 ((xs.length : Int) + d))).putObj D (.deferred none)) rb 29 #[.slice (some ⟨bb, 0, none⟩) N N, .int .i64 f, .int .i64 ((xs.length : Int) + d)] := (World.putObj_heap_other (by omega)).trans (hk2.set_ 2 _)
      have hB2' : Blk ((W.setCell ⟨rb, 2, none⟩ (.int .i64 ((xs.length : Int) + d))).putObj D (.deferred none)) bb 5 (mem'.map (Value.int .u8)).toArray := (World.putObj_heap_other (by omega)).trans (k1.far (p := ⟨rb, 2, none⟩) (Ne.symm hne) _)
      have hF' : Fr [rb, bb] w ((W.setCell ⟨rb, 2, none⟩ (.int .i64 ((xs.length : Int) + d))).putObj D (.deferred none)) := (k5.setCell (p := ⟨rb, 2, none⟩) (.inl (by simp)) _).grownRow (grownBy_putObj' _ D _) (fun r e => by cases e; omega)
      have hlen2 : (xs ++ bs.take d).length = xs.length + d := by simp; omega
      have hR' : RingM ((W.setCell ⟨rb, 2, none⟩ (.int .i64 ((xs.length : Int) + d))).putObj D (.deferred none)) rb bb N f mem' (xs ++ bs.take d) := by
        refine ⟨?_, hB2', hne, e6, hN0, hN1, hfN, by omega, fun k hk => ?_⟩
        · rw [hlen2, Int.natCast_add]; exact hB1'
        · rw [hlen2] at hk
          rw [e7 k hk]
          simp only [List.getD_eq_getElem?_getD]
          rcases Nat.lt_or_ge k xs.length with h | h
          · rw [List.getElem?_append_left h, List.getElem?_append_left h]
          · rw [List.getElem?_append_right h, List.getElem?_append_right h, List.getElem?_take, if_pos (by omega)]
      have HRR := Lib.hid (And.intro hR' hF')
      clear hR' hF' hB1' hB2' e7
      go_wp2_with fail
      refine ⟨by simp, .inl ⟨_, _, rfl, run_takeDeferred hK', ?_⟩⟩
      exact ⟨_, results_tmp rfl _ _ _, rfl, ⟨_, HRR.out.1⟩, HRR.out.2⟩

end Go.Proofs.Ytokdcddmljfgnaa
