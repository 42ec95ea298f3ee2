/-
  RankOnce's region 18 by itself: of two runners that stand one behind the other, in order, the test answers false.
-/
import Derived.Test.YtkioniffgmalgaaFind
import Derived.Test.YtkioniffgmalgaaAwake07
import Derived.Test.YtkioniffgmalgaaOnceLaw
namespace Go.Proofs.Ytkioniffgmalgaa
open Go.RowKit Go.Sort Sp
set_option linter.unusedVariables false

noncomputable def r18 : Code := (Try.f5.body.bind (findR 18)).getD .skip

set_option maxRecDepth 1000000 in
set_option maxHeartbeats 4000000 in
theorem r18_wp (ob oo n co j k p' p : Nat) (x1 x2 : Int) (q1 q2 : Bool) {K : Act → World → Prop} (w : World)
    {s0 s1 s2 s3 s4 s6 s12 s13 s14 s15 s16 s17 s18 s19 s20 s21 s22 s23 s24 s25 s26 s27 s28 s29 s30 s31 s32 s33 s34 s35 s36 s37 s38 s39 s40 s41 s42 s43 s44 s45 s46 s47 s48 s49 s50 s51 s52 s53 s54 s55 s56 s57 s58 s59 s60 s61 s62 s63 s64 s65 s66 s67 s68 s69 s70 s71 s72 s73 s74 s75 s76 s77 s78 s79 s80 s81 s82 s83 s84 s85 s86 s87 s88 s89 s90 s91 s92 s93 s94 s95 s96 s97 s98 s99 s100 s101 s102 s103 s104 s105 s106 s107 s108 s109 s110 s111 s112 s113 s114 s115 s116 s117 s118 s119 s120 s121 s122 s123 s124 s125 s126 s127 s128 s129 s130 s131 s132 s133 s134 s135 s136 s137 s138 s139 s140 s141 s142 s143 s144 s145 s146 : Value}
    (hjn : j < n) (hkn : k < n) (hk1 : IntKind.i64.wrap ((k : Int) - 1) = (j : Int)) (hn : n ≤ 1000) (hE1 : w.cell? ⟨ob, oo + j, none⟩ = some (.int .i64 p')) (hE2 : w.cell? ⟨ob, oo + k, none⟩ = some (.int .i64 p)) (hb : badTwo ⟨p', x1, q1⟩ ⟨p, x2, q2⟩ = false)
    (hQ : ∀ (m : Nat) (c109 c110 c111 c112 c113 c114 c115 c116 c117 c118 c119 c120 c121 c122 c123 c124 c125 c126 c127 c128 c129 c130 c131 c132 c133 c134 c135 c136 c137 c138 c139 c140 c141 c142 c143 c144 c145 : Value), K ⟨(s0 :: s1 :: s2 :: s3 :: s4 :: .slice (some ⟨ob, oo, none⟩) n co :: s6 :: .int .i64 k :: .int .u64 x1 :: .bool q1 :: .int .u64 x2 :: .bool q2 :: s12 :: s13 :: s14 :: s15 :: s16 :: s17 :: s18 :: s19 :: s20 :: s21 :: s22 :: s23 :: s24 :: s25 :: s26 :: s27 :: s28 :: s29 :: s30 :: s31 :: s32 :: s33 :: s34 :: s35 :: s36 :: s37 :: s38 :: s39 :: s40 :: s41 :: s42 :: s43 :: s44 :: s45 :: s46 :: s47 :: s48 :: s49 :: s50 :: s51 :: s52 :: s53 :: s54 :: s55 :: s56 :: s57 :: s58 :: s59 :: s60 :: s61 :: s62 :: s63 :: s64 :: s65 :: s66 :: s67 :: s68 :: s69 :: s70 :: s71 :: s72 :: s73 :: s74 :: s75 :: s76 :: s77 :: s78 :: s79 :: s80 :: s81 :: s82 :: s83 :: s84 :: s85 :: s86 :: s87 :: s88 :: s89 :: s90 :: s91 :: s92 :: s93 :: s94 :: s95 :: s96 :: s97 :: s98 :: s99 :: s100 :: s101 :: s102 :: s103 :: s104 :: s105 :: s106 :: s107 :: s108 :: c109 :: c110 :: c111 :: c112 :: c113 :: c114 :: c115 :: c116 :: c117 :: c118 :: c119 :: c120 :: c121 :: c122 :: c123 :: c124 :: c125 :: c126 :: c127 :: c128 :: c129 :: c130 :: c131 :: c132 :: c133 :: c134 :: c135 :: c136 :: c137 :: c138 :: c139 :: c140 :: c141 :: c142 :: c143 :: c144 :: c145 :: .bool false :: []).toArray, []⟩ (w.drewN m)) :
    Code.wp Try.prog r18 (Exit.then K (fun _ _ _ => False)) ⟨(s0 :: s1 :: s2 :: s3 :: s4 :: .slice (some ⟨ob, oo, none⟩) n co :: s6 :: .int .i64 k :: .int .u64 x1 :: .bool q1 :: .int .u64 x2 :: .bool q2 :: s12 :: s13 :: s14 :: s15 :: s16 :: s17 :: s18 :: s19 :: s20 :: s21 :: s22 :: s23 :: s24 :: s25 :: s26 :: s27 :: s28 :: s29 :: s30 :: s31 :: s32 :: s33 :: s34 :: s35 :: s36 :: s37 :: s38 :: s39 :: s40 :: s41 :: s42 :: s43 :: s44 :: s45 :: s46 :: s47 :: s48 :: s49 :: s50 :: s51 :: s52 :: s53 :: s54 :: s55 :: s56 :: s57 :: s58 :: s59 :: s60 :: s61 :: s62 :: s63 :: s64 :: s65 :: s66 :: s67 :: s68 :: s69 :: s70 :: s71 :: s72 :: s73 :: s74 :: s75 :: s76 :: s77 :: s78 :: s79 :: s80 :: s81 :: s82 :: s83 :: s84 :: s85 :: s86 :: s87 :: s88 :: s89 :: s90 :: s91 :: s92 :: s93 :: s94 :: s95 :: s96 :: s97 :: s98 :: s99 :: s100 :: s101 :: s102 :: s103 :: s104 :: s105 :: s106 :: s107 :: s108 :: s109 :: s110 :: s111 :: s112 :: s113 :: s114 :: s115 :: s116 :: s117 :: s118 :: s119 :: s120 :: s121 :: s122 :: s123 :: s124 :: s125 :: s126 :: s127 :: s128 :: s129 :: s130 :: s131 :: s132 :: s133 :: s134 :: s135 :: s136 :: s137 :: s138 :: s139 :: s140 :: s141 :: s142 :: s143 :: s144 :: s145 :: s146 :: []).toArray, []⟩ w := by
  have HQ := Lib.hid hQ
  clear hQ
  cases q1 <;> cases q2
  case false.true => simp [badTwo] at hb
  case true.false =>
    clear hb
    conv => arg 2; whnf
    go_quiet (fail)
    exact HQ.out _ _ _ _ _ _ _ _ _ _ _ _ _ _ _ _ _ _ _ _ _ _ _ _ _ _ _ _ _ _ _ _ _ _ _ _ _ _
  all_goals
    rcases Int.lt_trichotomy x1 x2 with hlt3 | heq3 | hgt3
    · first
        | (exfalso; simp [badTwo] at hb; omega)
        | (have hq : (x1 == x2) = false := by simp; omega
           clear hb
           conv => arg 2; whnf
           go_quiet (fail)
           exact HQ.out _ _ _ _ _ _ _ _ _ _ _ _ _ _ _ _ _ _ _ _ _ _ _ _ _ _ _ _ _ _ _ _ _ _ _ _ _ _)
    · have hpp : ¬ (p : Int) < (p' : Int) := by simp [badTwo] at hb; omega
      have hpp2 : (p' : Int) ≤ (p : Int) := by omega
      subst heq3
      clear hb
      conv => arg 2; whnf
      go_quiet (fail)
      exact HQ.out _ _ _ _ _ _ _ _ _ _ _ _ _ _ _ _ _ _ _ _ _ _ _ _ _ _ _ _ _ _ _ _ _ _ _ _ _ _
    · have hq : (x1 == x2) = false := by simp; omega
      have hq2 : ¬ x1 < x2 := by omega
      clear hb
      conv => arg 2; whnf
      go_quiet (fail)
      exact HQ.out _ _ _ _ _ _ _ _ _ _ _ _ _ _ _ _ _ _ _ _ _ _ _ _ _ _ _ _ _ _ _ _ _ _ _ _ _ _

end Go.Proofs.Ytkioniffgmalgaa
