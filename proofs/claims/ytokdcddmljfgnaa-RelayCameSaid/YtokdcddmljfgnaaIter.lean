/-
  The ring's pieces: the iterator by its contract. It keeps its state in cells of its own (from, n): the rounds' word J abides stores there.
-/
import Derived.RangeFuncNested
import Derived.RangeFuncBound
import Derived.RangeFuncCalls
import Derived.RangeFuncLeaves
import Derived.Shelf.Abstract
import Derived.Shelf.RegionOpen
import Derived.OwnWalkIn
import Derived.TacticsInMore
import Derived.LoopNIn
import Derived.LoopIn
import Derived.BigRegionIn
import Derived.IntWalk
import Derived.Sort.CutIn
import Derived.Sort.QuietIn
import Derived.Stop.RegionWithIn
import Derived.Test.YtokdcddmljfgnaaRing0
namespace Go.Proofs.Ytokdcddmljfgnaa
open Go.RowKit Go.Shelf
attribute [local go_sem] Oper.semAt_some
set_option linter.unusedVariables false

/-- The pieces of m bytes from place f on, in N bytes at block bb. -/
def pcs (bb N f m : Nat) : List Value :=
  if m = 0 then [] else
  if f % N + m ≤ N then [.slice (some ⟨bb, f % N, none⟩) m m]
  else [.slice (some ⟨bb, f % N, none⟩) (N - f % N) (N - f % N), .slice (some ⟨bb, 0, none⟩) (m - (N - f % N)) (m - (N - f % N))]

theorem pcs_zero (bb N f : Nat) : pcs bb N f 0 = [] := by simp [pcs]
theorem pcs_step (bb N f m : Nat) (hN : 0 < N) (hm : 0 < m) (hmN : m ≤ N) :
    pcs bb N f m = .slice (some ⟨bb, f % N, none⟩) (min (f % N + m) N - f % N) (min (f % N + m) N - f % N) :: pcs bb N (min (f % N + m) N) (m - (min (f % N + m) N - f % N)) := by
  have hlt : f % N < N := Nat.mod_lt _ hN
  by_cases h : f % N + m ≤ N
  · have e1 : min (f % N + m) N = f % N + m := by omega
    have e2 : f % N + m - f % N = m := by omega
    rw [e1, e2, Nat.sub_self, pcs_zero]
    simp [pcs, h]; omega
  · have e1 : min (f % N + m) N = N := by omega
    rw [e1]
    have e3 : ¬ (m - (N - f % N) = 0) := by omega
    have e4 : m - (N - f % N) ≤ N := by omega
    have e5 : ¬ m = 0 := by omega
    simp [pcs, h, e3, e4, e5]

theorem elem22 (w : World) : (sizeOf (Try.prog.elem 22)).run Try.prog w = .ok 1 w := by kernel_rfl
theorem und22 : Try.prog.underlying 22 = some (.slice (Try.prog.elem 22)) := by kernel_rfl
theorem slice_lhm (bb N l h : Nat) (h1 : l < h) (h2 : h ≤ N) (wx : World) :
    (Instr.sliceAt 22 (.slice (some ⟨bb, 0, none⟩) N N) (some (.int .i64 l)) (some (.int .i64 h)) (some (.int .i64 h))).run Try.prog wx = .ok (.slice (some ⟨bb, l, none⟩) (h - l) (h - l)) wx := by
  rw [run_sliceAt_slice wx 22 _ _ _ _ und22, run_slice_lhm wx 22 _ N N und22 .i64 .i64 .i64 l h h (by omega) (by omega) (by omega) (by omega), elem22]
  simp only [Result.andThen, sliced, Int.toNat_natCast]
  rw [if_neg (by omega)]
  simp [Addr.add]
  intro h0; omega

theorem if_ge {a b N en : Nat} (h : min (a + b) N = en) : Value.int .i64 (if (N : Int) < (a : Int) + b then (N : Int) else (a : Int) + b) = .int .i64 en := by
  congr 1
  split <;> omega

def leftN (bn : Nat) (w : World) : Nat := match w.cell? ⟨bn, 0, none⟩ with | some (.int _ x) => x.toNat | _ => 0

theorem leftN_lt {bn a b : Nat} {w w' : World} (h : Blk w bn 3 #[.int .i64 a]) (h' : Blk w' bn 3 #[.int .i64 b]) (hb : b < a) : leftN bn w' < leftN bn w := by
  have e1 : w.cell? ⟨bn, 0, none⟩ = some (.int .i64 a) := h.cell 0
  have e2 : w'.cell? ⟨bn, 0, none⟩ = some (.int .i64 b) := h'.cell 0
  simp [leftN, e1, e2]; omega

set_option maxRecDepth 100000 in
set_option maxHeartbeats 2000000 in
theorem iter_in (n : Nat) (hn : 1 ≤ n) (l bn bf br rb bb N f m : Nat) (J : Nat → World → Prop)
    (hf : f ≤ 4611686018427387904) (hN : 0 < N) (hN2 : N ≤ 4611686018427387904) (hm : m ≤ N) (hne : bn ≠ bf)
    (hJd : ∀ i W W', W.grownBy W' none → J i W → J i W') (hJX : ∀ i W b v, (b = bn ∨ b = bf) → J i W → J i (W.setCell ⟨b, 0, none⟩ v))
    (hK : ∀ i W, J i W → W.cell? ⟨br, 0, none⟩ = some (.pointer (some ⟨rb, 0, none⟩)) ∧ W.cell? ⟨rb, 0, none⟩ = some (.slice (some ⟨bb, 0, none⟩) N N))
    (hY : ∀ i x W, J i W → (pcs bb N f m)[i]? = some x → YieldAt Fence.wide (n - 1) Try.prog l #[x] W fun e W' => e = .returned (.bool true) ∧ J (i + 1) W' ∧ ∀ b, (b = bn ∨ b = bf) → W'.heap[b]? = W.heap[b]?)
    (W : World) (hbn : Blk W bn 3 #[.int .i64 m]) (hbf : Blk W bf 3 #[.int .i64 f]) (h0 : J 0 W) :
    CallsIn Fence.wide n Try.prog 50 #[.func (.yield l) #[] #[], .pointer (some ⟨bn, 0, none⟩), .pointer (some ⟨bf, 0, none⟩), .pointer (some ⟨br, 0, none⟩)] W fun e W' => (∃ v, e = .returned v) ∧ J (pcs bb N f m).length W' := by
  have HY := Lib.hid hY
  have HJD := Lib.hid hJd
  have HJX := Lib.hid hJX
  have HK := Lib.hid hK
  clear hY hJd hJX hK
  refine callsIn_of_wp Try.func50 rfl trivial ?_ rfl
  simp only [Try.ntmps50, List.size_toArray, List.length_cons, List.length_nil, Nat.reduceAdd, Nat.reduceSub, Array.replicate_succ, Array.replicate_zero, List.push_toArray, List.append_toArray, List.nil_append, List.cons_append]
  gi_wp2
  gi_loopw [5] (fun p wr => ∃ i fi mi : Nat, fi ≤ 4611686018427387904 ∧ mi ≤ N ∧ i ≤ (pcs bb N f m).length ∧ (pcs bb N f m).drop i = pcs bb N fi mi ∧ J i wr ∧ Blk wr bn 3 #[.int .i64 mi] ∧ Blk wr bf 3 #[.int .i64 fi]) (fun p wr => leftN bn wr)
  case atStart => exact ⟨0, f, m, hf, hm, by omega, rfl, h0, hbn, hbf⟩
  case round =>
    obtain ⟨i, fi, mi, hfi, hmi, hil, hdr, hJ, hbn1, hbf1⟩ := hrel
    obtain ⟨hk1, hk2⟩ := HK.out i wr hJ
    have hc1 : wr.cell? ⟨bn, 0, none⟩ = some (.int .i64 mi) := hbn1.cell 0
    have hc2 : wr.cell? ⟨bf, 0, none⟩ = some (.int .i64 fi) := hbf1.cell 0
    by_cases hz : 0 < mi
    · have hstep := pcs_step bb N fi mi hN hz hmi
      have hlt : fi % N < N := Nat.mod_lt _ hN
      obtain ⟨f', hf'⟩ : ∃ f', fi % N = f' := ⟨_, rfl⟩
      obtain ⟨en, hen⟩ : ∃ en, min (f' + mi) N = en := ⟨_, rfl⟩
      rw [hf', hen] at hstep
      have hx : (pcs bb N f m)[i]? = some (.slice (some ⟨bb, f', none⟩) (en - f') (en - f')) := by
        have := congrArg (·[0]?) (hdr.trans hstep)
        simpa using this
      have hdr2 : (pcs bb N f m).drop (i + 1) = pcs bb N en (mi - (en - f')) := by
        have := congrArg List.tail (hdr.trans hstep)
        simpa using this
      have hi2 : i + 1 ≤ (pcs bb N f m).length := (List.getElem?_eq_some_iff.1 hx).1
      have hmod : (fi : Int).tmod N = f' := by rw [← hf']; rfl
      have hN0 : ¬ N = 0 := by omega
      have hN3 : ((N : Int) == 0) = false := by simp; omega
      have hfz2 := hbf1.frozen 0
      have hfz1 := hbn1.frozen 0
      have hbb : f' < N := by omega
      have hen1 : f' < en ∧ en ≤ N ∧ en - f' ≤ mi := by omega
      have HS := Lib.hid (And.intro hx (And.intro hdr2 hen))
      clear hstep hx hdr2 hdr hf' hlt hen
      gi_wp2
      gi_cut [0] from 8 (fun s0 wc => s0 = .func (.yield l) #[] #[] ∧ wc = (wr.setCell ⟨bf, 0, none⟩ (.int .i64 f')).drew)
      case first =>
        gi_region
        all_goals (gi_wp2; gi_meet)
        all_goals exact ⟨rfl, rfl⟩
      case rest =>
        obtain ⟨rfl, rfl⟩ := hcut
        have hbf2 : Blk (wr.setCell ⟨bf, 0, none⟩ (.int .i64 f')).drew bf 3 #[.int .i64 f'] := hbf1.set_ 0 (.int .i64 f')
        have hbn2 : Blk (wr.setCell ⟨bf, 0, none⟩ (.int .i64 f')).drew bn 3 #[.int .i64 mi] := hbn1.far (p := ⟨bf, 0, none⟩) hne _
        have hJ2 := HJD.out i (wr.setCell ⟨bf, 0, none⟩ (.int .i64 f')) (wr.setCell ⟨bf, 0, none⟩ (.int .i64 f')).drew ⟨rfl, rfl, rfl, Nat.le_refl _, fun _ _ _ => rfl⟩ (HJX.out i wr bf (.int .i64 f') (.inr rfl) hJ)
        obtain ⟨w2, hw2⟩ : ∃ w2, (wr.setCell ⟨bf, 0, none⟩ (.int .i64 f')).drew = w2 := ⟨_, rfl⟩
        rw [hw2] at hbf2 hbn2 hJ2 ⊢
        obtain ⟨hk1, hk2⟩ := HK.out i w2 hJ2
        have hc1 : w2.cell? ⟨bn, 0, none⟩ = some (.int .i64 mi) := hbn2.cell 0
        have hc2 : w2.cell? ⟨bf, 0, none⟩ = some (.int .i64 f') := hbf2.cell 0
        have hwr : IntKind.i64.wrap ((f' : Int) + mi) = f' + mi := IntWalk.i64_in _ (by omega)
        have hen2 := HS.out.2.2
        gi_wp2
        gi_cut [0, 5] from 8 (fun s0 s5 wc => s0 = .func (.yield l) #[] #[] ∧ s5 = .int .i64 en ∧ ∃ k, wc = w2.drewN k)
        case first =>
          rcases Nat.lt_or_ge N (f' + mi) with hc | hc
          · obtain rfl : en = N := by omega
            have hc' : (en : Int) < (f' : Int) + mi := by omega
            gi_quiet (fail)
            all_goals (gi_wp2; gi_meet)
            all_goals exact ⟨rfl, rfl, _, rfl⟩
          · obtain rfl : en = f' + mi := by omega
            have hc' : ¬ (N : Int) < (f' : Int) + mi := by omega
            gi_quiet (fail)
            all_goals (gi_wp2; gi_meet)
            all_goals exact ⟨rfl, by simp, _, rfl⟩
        case rest =>
          obtain ⟨rfl, rfl, kd, rfl⟩ := hcut
          have hJ3 := HJD.out i w2 ((w2.drewN (kd + 1))) ⟨rfl, rfl, rfl, Nat.le_refl _, fun _ _ _ => rfl⟩ hJ2
          have hbf3 : Blk (w2.drewN (kd + 1)) bf 3 #[.int .i64 f'] := hbf2
          have hbn3 : Blk (w2.drewN (kd + 1)) bn 3 #[.int .i64 mi] := hbn2
          obtain ⟨fn, tmps, assign, body, hy, hR⟩ := HY.out i _ _ hJ3 HS.out.1
          have hk1' : (w2.drewN (kd + 1)).cell? ⟨br, 0, none⟩ = some (.pointer (some ⟨rb, 0, none⟩)) := hk1
          have hk2' : (w2.drewN (kd + 1)).cell? ⟨rb, 0, none⟩ = some (.slice (some ⟨bb, 0, none⟩) N N) := hk2
          have hc2' : (w2.drewN (kd + 1)).cell? ⟨bf, 0, none⟩ = some (.int .i64 f') := hc2
          have hsl := fun wx => slice_lhm bb N f' en (by omega) (by omega) wx
          gi_wp2
          gi_cut [0, 5, 34] from 8 (fun s0 s5 s34 wc => s0 = .func (.yield l) #[] #[] ∧ s5 = .int .i64 en ∧ s34 = .bool false ∧ J (i + 1) wc ∧ ∀ b, (b = bn ∨ b = bf) → wc.heap[b]? = (w2.drewN (kd + 1)).heap[b]?)
          case first =>
            gi_region_with (first | (refine hR.mono ?_; rintro e W3 ⟨rfl, hJ4, hkeep⟩))
            all_goals (gi_wp2; gi_meet)
            all_goals exact ⟨rfl, rfl, rfl, hJ4, hkeep⟩
          case rest =>
            obtain ⟨rfl, rfl, rfl, hJ4, hkeep⟩ := hcut
            have hbf4 : Blk wc bf 3 #[.int .i64 f'] := (hkeep bf (.inr rfl)).trans hbf3
            have hbn4 : Blk wc bn 3 #[.int .i64 mi] := (hkeep bn (.inl rfl)).trans hbn3
            have hd1 : wc.cell? ⟨bn, 0, none⟩ = some (.int .i64 mi) := hbn4.cell 0
            have hd2 : wc.cell? ⟨bf, 0, none⟩ = some (.int .i64 f') := hbf4.cell 0
            have hfd2 := hbf4.frozen 0
            have hfd1 := hbn4.frozen 0
            have hJ5 := HJD.out (i + 1) ((wc.setCell ⟨bf, 0, none⟩ (.int .i64 en)).setCell ⟨bn, 0, none⟩ (.int .i64 (mi - (en - f') : Nat))) (((wc.setCell ⟨bf, 0, none⟩ (.int .i64 en)).setCell ⟨bn, 0, none⟩ (.int .i64 (mi - (en - f') : Nat))).drew) ⟨rfl, rfl, rfl, Nat.le_refl _, fun _ _ _ => rfl⟩ (HJX.out (i + 1) _ bn (.int .i64 (mi - (en - f') : Nat)) (.inl rfl) (HJX.out (i + 1) wc bf (.int .i64 en) (.inr rfl) hJ4))
            have hbf5 : Blk ((wc.setCell ⟨bf, 0, none⟩ (.int .i64 en)).setCell ⟨bn, 0, none⟩ (.int .i64 (mi - (en - f') : Nat))).drew bf 3 #[.int .i64 en] := (hbf4.set_ 0 (.int .i64 en)).far (p := ⟨bn, 0, none⟩) (Ne.symm hne) _
            have hbn5 : Blk ((wc.setCell ⟨bf, 0, none⟩ (.int .i64 en)).setCell ⟨bn, 0, none⟩ (.int .i64 (mi - (en - f') : Nat))).drew bn 3 #[.int .i64 (mi - (en - f') : Nat)] := (hbn4.far (p := ⟨bf, 0, none⟩) hne _).set_ 0 _
            have hs1 : IntKind.i64.wrap ((en : Int) - f') = ((en - f' : Nat) : Int) := by rw [IntWalk.i64_in _ (by omega)]; omega
            have hs2 : IntKind.i64.wrap ((mi : Int) - ((en - f' : Nat) : Int)) = ((mi - (en - f') : Nat) : Int) := by rw [IntWalk.i64_in _ (by omega)]; omega
            have hml : mi - (en - f') < mi := by omega
            have hmi2 : mi - (en - f') ≤ N := by omega
            have hen3 : en ≤ 4611686018427387904 := by omega
            gi_wp2
            gi_region
            all_goals gi_wp2
            all_goals go_roundw
            all_goals first
              | exact ⟨i + 1, en, mi - (en - f'), hen3, hmi2, hi2, HS.out.2.1, hJ5, hbn5, hbf5⟩
              | exact leftN_lt hbn1 hbn5 hml
    · obtain rfl : mi = 0 := by omega
      rw [pcs_zero] at hdr
      have hil2 : (pcs bb N f m).length = i := by
        have := congrArg List.length hdr
        simp at this; omega
      gi_wp2
      go_end0
      exact ⟨⟨_, rfl⟩, by rw [hil2]; exact hJ⟩

end Go.Proofs.Ytokdcddmljfgnaa
