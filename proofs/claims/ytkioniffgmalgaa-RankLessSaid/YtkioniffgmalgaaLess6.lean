/-
  RankLess's region 6 by itself: a new row that holds all runners but one.
-/
import Derived.Test.YtkioniffgmalgaaRunOwn
import Derived.Test.YtkioniffgmalgaaFind
import Derived.Test.YtkioniffgmalgaaAwake07
import Derived.Deep.RegionLaw
namespace Go.Proofs.Ytkioniffgmalgaa
open Go.RowKit Go.Sort Sp
set_option linter.unusedVariables false

/-- A cut of a slice of runners. -/
def cutP (A : Option Addr) (m l : Nat) : Option Addr := if m = l then A else A.map (·.add (l * 2))
theorem elem37 (w : World) : (sizeOf (Try.prog.elem 37)).run Try.prog w = .ok 2 w := by kernel_rfl
theorem und37 : Try.prog.underlying 37 = some (.slice (Try.prog.elem 37)) := by kernel_rfl
theorem slice37_h (A : Option Addr) (len cap h : Nat) (h2 : h ≤ cap) (wx : World) :
    (Instr.sliceAt 37 (.slice A len cap) none (some (.int .i64 h)) none).run Try.prog wx = .ok (.slice (cutP A cap 0) h cap) wx := by
  rw [run_sliceAt_slice wx 37 _ _ _ _ und37, run_slice_h wx 37 A len cap und37 .i64 h (by omega) (by omega), elem37]
  simp only [Result.andThen, sliced, Int.toNat_natCast]
  rfl
theorem slice37_l (A : Option Addr) (len cap l : Nat) (h2 : l ≤ len) (e : Int) (he : e = l) (wx : World) :
    (Instr.sliceAt 37 (.slice A len cap) (some (.int .i64 e)) none none).run Try.prog wx = .ok (.slice (cutP A cap l) (len - l) (cap - l)) wx := by
  subst he
  rw [run_sliceAt_slice wx 37 _ _ _ _ und37, run_slice_l wx 37 A len cap und37 .i64 l (by omega) (by omega), elem37]
  simp only [Result.andThen, sliced, Int.toNat_natCast]
  rfl
theorem cutP_at {A : Option Addr} {m l : Nat} {b off : Nat} (h : A = some ⟨b, off, none⟩) (hm : m ≠ l ∨ l = 0) : cutP A m l = some ⟨b, off + l * 2, none⟩ := by
  subst h
  unfold cutP
  by_cases e : m = l
  · obtain rfl : l = 0 := by omega
    rw [if_pos e]; rfl
  · rw [if_neg e]
    simp only [Option.map_some]
    congr 1
    unfold Addr.add; split <;> simp_all
theorem own_slice {w : World} {base : Nat} {e : TypeId} {size n : Nat} {v : Value} {xs : List Value} (h : w.ownsRow base e size v n xs) : ∃ V c, v = .slice V n c := by
  rcases h.2 with ⟨rfl, rfl⟩ | ⟨g, cap, cur, rfl, _⟩
  · exact ⟨_, _, rfl⟩
  · exact ⟨_, _, rfl⟩
noncomputable def r6l : Code := (Try.f10.body.bind (findR 6)).getD .skip

set_option maxRecDepth 1000000 in
set_option maxHeartbeats 4000000 in
theorem r6l_wp (l : List (ByteArray × Int)) (B : Option Addr) (n c p : Nat) {K : Act → World → Prop} (w : World)
    {s0 s3 s4 s5 s6 s7 s8 s9 s10 s11 s12 s13 s14 s15 s16 s17 s18 s19 s20 s21 s22 s23 s24 s25 s26 s27 s28 s29 s30 s31 s32 s33 s34 s35 s36 s37 s38 s39 s40 s41 s42 s43 : Value}
    (hR : RunsAt w B l (fun _ => True)) (hln : l.length = n) (hn : n ≤ 1000) (hc : n ≤ c) (hp : p < n)
    (hQ : ∀ (V : Option Addr) (c4 : Nat) (w4 : World) (c25 c26 c27 c28 c29 c30 c31 c32 c33 c34 : Value), Fr [] w w4 → RunsAt w4 V (l.take p ++ l.drop (p + 1)) (fun _ => True) → K ⟨(s0 :: .slice B n c :: .int .i64 p :: s3 :: s4 :: s5 :: s6 :: .slice V (n - 1) c4 :: s8 :: s9 :: s10 :: s11 :: s12 :: s13 :: s14 :: s15 :: s16 :: s17 :: s18 :: s19 :: s20 :: s21 :: s22 :: s23 :: s24 :: c25 :: c26 :: c27 :: c28 :: c29 :: c30 :: c31 :: c32 :: c33 :: c34 :: s35 :: s36 :: s37 :: s38 :: s39 :: s40 :: s41 :: s42 :: s43 :: []).toArray, []⟩ w4) :
    Code.wp Try.prog r6l (Exit.then K (fun _ _ _ => False)) ⟨(s0 :: .slice B n c :: .int .i64 p :: s3 :: s4 :: s5 :: s6 :: s7 :: s8 :: s9 :: s10 :: s11 :: s12 :: s13 :: s14 :: s15 :: s16 :: s17 :: s18 :: s19 :: s20 :: s21 :: s22 :: s23 :: s24 :: s25 :: s26 :: s27 :: s28 :: s29 :: s30 :: s31 :: s32 :: s33 :: s34 :: s35 :: s36 :: s37 :: s38 :: s39 :: s40 :: s41 :: s42 :: s43 :: []).toArray, []⟩ w := by
  have HQ := Lib.hid hQ
  have hs1 := fun wx => slice37_h B n c p (by omega) wx
  have hs2 := fun wx => slice37_l B n c (p + 1) (by omega) ((p : Int) + 1) (by omega) wx
  have HP1 := Lib.hid (fun W (hf : Fr [] w W) => ((hR.fr hf (by simp)).part (m := l.take p) (B := cutP B c 0) (i := 0) (fun k x hk => by
    rw [List.getElem?_take] at hk
    split at hk
    · rw [Nat.zero_add]; exact hk
    · cases hk) (fun b off e _ => by rw [cutP_at e (.inr rfl)])).reads)
  have HP2 := Lib.hid (fun W (hf : Fr [] w W) => ((hR.fr hf (by simp)).part (m := l.drop (p + 1)) (B := cutP B c (p + 1)) (i := p + 1) (fun k x hk => by
    rw [List.getElem?_drop] at hk
    exact hk) (fun b off e h0 => by
      rw [List.length_drop] at h0
      rw [cutP_at e (.inl (by omega))])).reads)
  have hl1 : (l.take p).length = p := by rw [List.length_take]; omega
  have hl2 : (l.drop (p + 1)).length = n - (p + 1) := by rw [List.length_drop]; omega
  rw [hl1] at HP1
  rw [hl2] at HP2
  have hl3 : (l.take p ++ l.drop (p + 1)).length = n - 1 := by rw [List.length_append, hl1, hl2]; omega
  have HL3 := Lib.hid hl3
  obtain ⟨i46, hi, hq0, hq1, hq2⟩ := info_parts info46
  have hw1 : IntKind.i64.wrap ((p : Int) + 1) = (p : Int) + 1 := IntWalk.i64_in _ (by omega)
  have hp1 : (0 : Int) ≤ (p : Int) + 1 := by omega
  have hp2 : (p : Int) + 1 ≤ (n : Int) := by omega
  clear hQ hR hln hl1 hl2 hl3
  conv => arg 2; whnf
  go_region_law (first
    | (refine step_append_any _ rfl (.tmp 25) (.tmp 28) _ rfl w.heap.size 46 i46 _ 2 24 Try.underlying37 hi hq0 hq1 hq2 rfl (by omega) (.slice (some ⟨w.heap.size, 0, none⟩) 0 0) 0 [] rfl (ownsRow_empty2 w.drew 46 w.heap.size (Nat.le_refl _) 2) _ (cutP B c 0) p c (pcells (l.take p)) rfl (HP1.out (w.drew.alloc (.cells #[] 46)) (((Fr.refl [] w).drew).alloc _)) (pcells_one _) (by simp only [maxLen]; omega) (by omega) (by simp) ?_; intro v4 w3 hown4 hg4 hat4; rw [Nat.zero_add, List.nil_append] at hown4; obtain ⟨V4, c4, rfl⟩ := own_slice hown4)
    | (refine step_append_any _ rfl (.tmp 29) (.tmp 33) _ rfl w.heap.size 46 i46 _ 2 24 Try.underlying37 hi hq0 hq1 hq2 rfl (by omega) (.slice V4 p c4) p (pcells (l.take p)) rfl hown4 _ (cutP B c (p + 1)) (n - (p + 1)) (c - (p + 1)) (pcells (l.drop (p + 1))) rfl (HP2.out w3 ((((Fr.refl [] w).drew).alloc (.cells #[] 46)).trans (Fr.of_grownO hg4) (fun y hy => .inr (by simp [Value.ownBlock] at hy; omega)))) (pcells_one _) (by simp only [maxLen]; omega) (by omega) (by have := hg4.size; simp at this; omega) ?_; intro v5 w5 hown5 hg5 hat5; rw [← pcells_append] at hown5; obtain ⟨V5, c5, rfl⟩ := own_slice hown5))
  all_goals
    have e : p + (n - (p + 1)) = n - 1 := by omega
    rw [e] at hown5
    have hf3 := (((Fr.refl [] w).drew).alloc (.cells #[] 46)).trans (Fr.of_grownO hg4) (fun y hy => .inr (by simp [Value.ownBlock] at hy; omega))
    have hf5 := hf3.trans (Fr.of_grownO hg5) (fun y hy => .inr (own_ge hown4 (by simpa using hy)))
    rw [← HL3.out] at hown5
    obtain ⟨A5, c6, he, hruns⟩ := runs_of_own hown5
    obtain rfl : V5 = A5 := by injection he
    rw [e]
    exact HQ.out V5 c5 w5 _ _ _ _ _ _ _ _ _ _ hf5 hruns

end Go.Proofs.Ytkioniffgmalgaa
