/-
  RankRow's regions 8, 12 and 13 by themselves: a runner's score; whether two runners are alike.
-/
import Derived.Test.YtkioniffgmalgaaRunOwn
import Derived.Test.YtkioniffgmalgaaFind
import Derived.Test.YtkioniffgmalgaaAwake07
import Derived.BigQuiet
namespace Go.Proofs.Ytkioniffgmalgaa
open Go.RowKit Go.Sort Sp
set_option linter.unusedVariables false

theorem bytes_ne {a b : ByteArray} (h : a ≠ b) : a.data.toList ≠ b.data.toList := fun e => h (ByteArray.ext (Array.toList_inj.1 e))
theorem bytes_beq {a b : ByteArray} (h : a ≠ b) : (a.toList == b.toList) = false := by
  rw [ByteArray.toList_eq, ByteArray.toList_eq]
  exact beq_eq_false_iff_ne.2 (bytes_ne h)
noncomputable def r8 : Code := (Try.f7.body.bind (findR 8)).getD .skip
noncomputable def r12 : Code := (Try.f7.body.bind (findR 12)).getD .skip
noncomputable def r13 : Code := (Try.f7.body.bind (findR 13)).getD .skip

set_option maxRecDepth 1000000 in
set_option maxHeartbeats 4000000 in
theorem r8_wp (A : Option Addr) (kl ca lb lo n c i : Nat) (s : ByteArray) (x sc : Int) (q : Bool) {K : Act → World → Prop} (w : World)
    {s2 s3 s4 s5 s6 s7 s8 s10 s11 s12 s13 s14 s15 s16 s17 s18 s19 s20 s21 s22 s23 s24 s25 s26 s27 s28 s29 s30 s31 s32 s33 s34 s35 s36 s37 s38 s39 s40 s41 s42 s43 s44 s45 s46 s47 s48 s49 s50 s51 s52 s53 s54 s55 s56 s57 s58 s59 s60 s61 s62 s63 s64 s65 s66 s67 s68 s69 s70 s71 s72 s73 s74 s75 s76 s77 s78 s79 s80 s81 s82 s83 s84 s85 s86 s87 s88 s89 s90 s91 s92 s93 s94 s95 s96 s97 s98 s99 s100 s101 s102 s103 s104 s105 s106 s107 s108 s109 s110 s111 s112 s113 s114 s115 s116 s117 s118 s119 s120 s121 s122 s123 s124 s125 s126 s127 s128 s129 s130 s131 s132 s133 s134 s135 s136 s137 s138 s139 s140 s141 s142 s143 s144 s145 s146 s147 s148 s149 s150 s151 s152 s153 s154 s155 s156 s157 s158 s159 s160 s161 s162 s163 s164 s165 s166 s167 s168 s169 s170 s171 s172 s173 s174 s175 s176 s177 s178 s179 s180 s181 s182 s183 s184 s185 s186 s187 s188 s189 s190 s191 s192 s193 s194 s195 : Value}
    (hi : i < n) (hn : n ≤ 1000) (h1 : w.cell? ⟨lb, lo + i * 2, none⟩ = some (.string s)) (h2 : w.cell? ⟨lb, lo + i * 2 + 1, none⟩ = some (.int .i64 x)) (hlb : lb < w.heap.size)
    (hC : ∀ W, Fr [] w W → Calls Try.prog 20 #[.slice A kl ca, .string s, .int .i64 x] W fun e w' => e = .returned (.tuple #[.int .u64 sc, .bool q]) ∧ Fr [] W w')
    (hQ : ∀ (w' : World) (c37 c38 c39 c40 c41 c42 c43 c44 c45 c46 c47 c48 c49 c50 c51 : Value), Fr [] w w' → K ⟨(.slice A kl ca :: .slice (some ⟨lb, lo, none⟩) n c :: s2 :: s3 :: s4 :: s5 :: s6 :: s7 :: s8 :: .int .i64 i :: .int .u64 sc :: .bool q :: s12 :: s13 :: s14 :: s15 :: s16 :: s17 :: s18 :: s19 :: s20 :: s21 :: s22 :: s23 :: s24 :: s25 :: s26 :: s27 :: s28 :: s29 :: s30 :: s31 :: s32 :: s33 :: s34 :: s35 :: s36 :: c37 :: c38 :: c39 :: c40 :: c41 :: c42 :: c43 :: c44 :: c45 :: c46 :: c47 :: c48 :: c49 :: c50 :: c51 :: s52 :: s53 :: s54 :: s55 :: s56 :: s57 :: s58 :: s59 :: s60 :: s61 :: s62 :: s63 :: s64 :: s65 :: s66 :: s67 :: s68 :: s69 :: s70 :: s71 :: s72 :: s73 :: s74 :: s75 :: s76 :: s77 :: s78 :: s79 :: s80 :: s81 :: s82 :: s83 :: s84 :: s85 :: s86 :: s87 :: s88 :: s89 :: s90 :: s91 :: s92 :: s93 :: s94 :: s95 :: s96 :: s97 :: s98 :: s99 :: s100 :: s101 :: s102 :: s103 :: s104 :: s105 :: s106 :: s107 :: s108 :: s109 :: s110 :: s111 :: s112 :: s113 :: s114 :: s115 :: s116 :: s117 :: s118 :: s119 :: s120 :: s121 :: s122 :: s123 :: s124 :: s125 :: s126 :: s127 :: s128 :: s129 :: s130 :: s131 :: s132 :: s133 :: s134 :: s135 :: s136 :: s137 :: s138 :: s139 :: s140 :: s141 :: s142 :: s143 :: s144 :: s145 :: s146 :: s147 :: s148 :: s149 :: s150 :: s151 :: s152 :: s153 :: s154 :: s155 :: s156 :: s157 :: s158 :: s159 :: s160 :: s161 :: s162 :: s163 :: s164 :: s165 :: s166 :: s167 :: s168 :: s169 :: s170 :: s171 :: s172 :: s173 :: s174 :: s175 :: s176 :: s177 :: s178 :: s179 :: s180 :: s181 :: s182 :: s183 :: s184 :: s185 :: s186 :: s187 :: s188 :: s189 :: s190 :: s191 :: s192 :: s193 :: s194 :: s195 :: []).toArray, []⟩ w') :
    Code.wp Try.prog r8 (Exit.then K (fun _ _ _ => False)) ⟨(.slice A kl ca :: .slice (some ⟨lb, lo, none⟩) n c :: s2 :: s3 :: s4 :: s5 :: s6 :: s7 :: s8 :: .int .i64 i :: s10 :: s11 :: s12 :: s13 :: s14 :: s15 :: s16 :: s17 :: s18 :: s19 :: s20 :: s21 :: s22 :: s23 :: s24 :: s25 :: s26 :: s27 :: s28 :: s29 :: s30 :: s31 :: s32 :: s33 :: s34 :: s35 :: s36 :: s37 :: s38 :: s39 :: s40 :: s41 :: s42 :: s43 :: s44 :: s45 :: s46 :: s47 :: s48 :: s49 :: s50 :: s51 :: s52 :: s53 :: s54 :: s55 :: s56 :: s57 :: s58 :: s59 :: s60 :: s61 :: s62 :: s63 :: s64 :: s65 :: s66 :: s67 :: s68 :: s69 :: s70 :: s71 :: s72 :: s73 :: s74 :: s75 :: s76 :: s77 :: s78 :: s79 :: s80 :: s81 :: s82 :: s83 :: s84 :: s85 :: s86 :: s87 :: s88 :: s89 :: s90 :: s91 :: s92 :: s93 :: s94 :: s95 :: s96 :: s97 :: s98 :: s99 :: s100 :: s101 :: s102 :: s103 :: s104 :: s105 :: s106 :: s107 :: s108 :: s109 :: s110 :: s111 :: s112 :: s113 :: s114 :: s115 :: s116 :: s117 :: s118 :: s119 :: s120 :: s121 :: s122 :: s123 :: s124 :: s125 :: s126 :: s127 :: s128 :: s129 :: s130 :: s131 :: s132 :: s133 :: s134 :: s135 :: s136 :: s137 :: s138 :: s139 :: s140 :: s141 :: s142 :: s143 :: s144 :: s145 :: s146 :: s147 :: s148 :: s149 :: s150 :: s151 :: s152 :: s153 :: s154 :: s155 :: s156 :: s157 :: s158 :: s159 :: s160 :: s161 :: s162 :: s163 :: s164 :: s165 :: s166 :: s167 :: s168 :: s169 :: s170 :: s171 :: s172 :: s173 :: s174 :: s175 :: s176 :: s177 :: s178 :: s179 :: s180 :: s181 :: s182 :: s183 :: s184 :: s185 :: s186 :: s187 :: s188 :: s189 :: s190 :: s191 :: s192 :: s193 :: s194 :: s195 :: []).toArray, []⟩ w := by
  have HQ := Lib.hid hQ
  have HC := Lib.hid hC
  have hcs : ∀ W, Fr [] w W → W.cell? ⟨lb, lo + i * 2, none⟩ = some (.string s) ∧ W.cell? ⟨lb, lo + i * 2 + 1, none⟩ = some (.int .i64 x) := fun W hf => ⟨(hf.cell (p := ⟨lb, _, none⟩) hlb (by simp)).trans h1, (hf.cell (p := ⟨lb, _, none⟩) hlb (by simp)).trans h2⟩
  have HCS := Lib.hid hcs
  have hC1 : w.drew.cell? ⟨lb, lo + i * 2, none⟩ = some (.string s) ∧ w.drew.cell? ⟨lb, lo + i * 2 + 1, none⟩ = some (.int .i64 x) := ⟨h1, h2⟩
  clear hQ hC hcs h1 h2
  conv => arg 2; whnf
  go_region_held3 (fun w' => w'.cell? ⟨lb, lo + i * 2, none⟩ = some (.string s) ∧ w'.cell? ⟨lb, lo + i * 2 + 1, none⟩ = some (.int .i64 x)) (first | exact hC1 | exact hC2) (first
    | (go_at_call 20; (with_reducible refine (HC.out w.drew ((Fr.refl [] w).drew)).mono ?_); rintro e w2 ⟨rfl, hf2⟩; have hF := ((Fr.refl [] w).drew).trans hf2 (by simp); have hC2 := HCS.out _ hF; have HF := Lib.hid hF; clear hF hf2))
  exact HQ.out _ _ _ _ _ _ _ _ _ _ _ _ _ _ _ _ HF.out

set_option maxRecDepth 1000000 in
set_option maxHeartbeats 4000000 in
theorem r12_wp (A : Option Addr) (kl ca lb lo n c i : Nat) (s : ByteArray) (x sc : Int) (q : Bool) {K : Act → World → Prop} (w : World)
    {s2 s3 s4 s5 s6 s7 s8 s9 s10 s11 s13 s14 s15 s16 s17 s18 s19 s20 s21 s22 s23 s24 s25 s26 s27 s28 s29 s30 s31 s32 s33 s34 s35 s36 s37 s38 s39 s40 s41 s42 s43 s44 s45 s46 s47 s48 s49 s50 s51 s52 s53 s54 s55 s56 s57 s58 s59 s60 s61 s62 s63 s64 s65 s66 s67 s68 s69 s70 s71 s72 s73 s74 s75 s76 s77 s78 s79 s80 s81 s82 s83 s84 s85 s86 s87 s88 s89 s90 s91 s92 s93 s94 s95 s96 s97 s98 s99 s100 s101 s102 s103 s104 s105 s106 s107 s108 s109 s110 s111 s112 s113 s114 s115 s116 s117 s118 s119 s120 s121 s122 s123 s124 s125 s126 s127 s128 s129 s130 s131 s132 s133 s134 s135 s136 s137 s138 s139 s140 s141 s142 s143 s144 s145 s146 s147 s148 s149 s150 s151 s152 s153 s154 s155 s156 s157 s158 s159 s160 s161 s162 s163 s164 s165 s166 s167 s168 s169 s170 s171 s172 s173 s174 s175 s176 s177 s178 s179 s180 s181 s182 s183 s184 s185 s186 s187 s188 s189 s190 s191 s192 s193 s194 s195 : Value}
    (hi : i < n) (hn : n ≤ 1000) (h1 : w.cell? ⟨lb, lo + i * 2, none⟩ = some (.string s)) (h2 : w.cell? ⟨lb, lo + i * 2 + 1, none⟩ = some (.int .i64 x)) (hlb : lb < w.heap.size)
    (hC : ∀ W, Fr [] w W → Calls Try.prog 20 #[.slice A kl ca, .string s, .int .i64 x] W fun e w' => e = .returned (.tuple #[.int .u64 sc, .bool q]) ∧ Fr [] W w')
    (hQ : ∀ (w' : World) (c57 c58 c59 c60 c61 c62 c63 c64 c65 c66 c67 c68 c69 c70 c71 : Value), Fr [] w w' → K ⟨(.slice A kl ca :: .slice (some ⟨lb, lo, none⟩) n c :: s2 :: s3 :: s4 :: s5 :: s6 :: s7 :: s8 :: s9 :: s10 :: s11 :: .int .i64 i :: .int .u64 sc :: .bool q :: s15 :: s16 :: s17 :: s18 :: s19 :: s20 :: s21 :: s22 :: s23 :: s24 :: s25 :: s26 :: s27 :: s28 :: s29 :: s30 :: s31 :: s32 :: s33 :: s34 :: s35 :: s36 :: s37 :: s38 :: s39 :: s40 :: s41 :: s42 :: s43 :: s44 :: s45 :: s46 :: s47 :: s48 :: s49 :: s50 :: s51 :: s52 :: s53 :: s54 :: s55 :: s56 :: c57 :: c58 :: c59 :: c60 :: c61 :: c62 :: c63 :: c64 :: c65 :: c66 :: c67 :: c68 :: c69 :: c70 :: c71 :: s72 :: s73 :: s74 :: s75 :: s76 :: s77 :: s78 :: s79 :: s80 :: s81 :: s82 :: s83 :: s84 :: s85 :: s86 :: s87 :: s88 :: s89 :: s90 :: s91 :: s92 :: s93 :: s94 :: s95 :: s96 :: s97 :: s98 :: s99 :: s100 :: s101 :: s102 :: s103 :: s104 :: s105 :: s106 :: s107 :: s108 :: s109 :: s110 :: s111 :: s112 :: s113 :: s114 :: s115 :: s116 :: s117 :: s118 :: s119 :: s120 :: s121 :: s122 :: s123 :: s124 :: s125 :: s126 :: s127 :: s128 :: s129 :: s130 :: s131 :: s132 :: s133 :: s134 :: s135 :: s136 :: s137 :: s138 :: s139 :: s140 :: s141 :: s142 :: s143 :: s144 :: s145 :: s146 :: s147 :: s148 :: s149 :: s150 :: s151 :: s152 :: s153 :: s154 :: s155 :: s156 :: s157 :: s158 :: s159 :: s160 :: s161 :: s162 :: s163 :: s164 :: s165 :: s166 :: s167 :: s168 :: s169 :: s170 :: s171 :: s172 :: s173 :: s174 :: s175 :: s176 :: s177 :: s178 :: s179 :: s180 :: s181 :: s182 :: s183 :: s184 :: s185 :: s186 :: s187 :: s188 :: s189 :: s190 :: s191 :: s192 :: s193 :: s194 :: s195 :: []).toArray, []⟩ w') :
    Code.wp Try.prog r12 (Exit.then K (fun _ _ _ => False)) ⟨(.slice A kl ca :: .slice (some ⟨lb, lo, none⟩) n c :: s2 :: s3 :: s4 :: s5 :: s6 :: s7 :: s8 :: s9 :: s10 :: s11 :: .int .i64 i :: s13 :: s14 :: s15 :: s16 :: s17 :: s18 :: s19 :: s20 :: s21 :: s22 :: s23 :: s24 :: s25 :: s26 :: s27 :: s28 :: s29 :: s30 :: s31 :: s32 :: s33 :: s34 :: s35 :: s36 :: s37 :: s38 :: s39 :: s40 :: s41 :: s42 :: s43 :: s44 :: s45 :: s46 :: s47 :: s48 :: s49 :: s50 :: s51 :: s52 :: s53 :: s54 :: s55 :: s56 :: s57 :: s58 :: s59 :: s60 :: s61 :: s62 :: s63 :: s64 :: s65 :: s66 :: s67 :: s68 :: s69 :: s70 :: s71 :: s72 :: s73 :: s74 :: s75 :: s76 :: s77 :: s78 :: s79 :: s80 :: s81 :: s82 :: s83 :: s84 :: s85 :: s86 :: s87 :: s88 :: s89 :: s90 :: s91 :: s92 :: s93 :: s94 :: s95 :: s96 :: s97 :: s98 :: s99 :: s100 :: s101 :: s102 :: s103 :: s104 :: s105 :: s106 :: s107 :: s108 :: s109 :: s110 :: s111 :: s112 :: s113 :: s114 :: s115 :: s116 :: s117 :: s118 :: s119 :: s120 :: s121 :: s122 :: s123 :: s124 :: s125 :: s126 :: s127 :: s128 :: s129 :: s130 :: s131 :: s132 :: s133 :: s134 :: s135 :: s136 :: s137 :: s138 :: s139 :: s140 :: s141 :: s142 :: s143 :: s144 :: s145 :: s146 :: s147 :: s148 :: s149 :: s150 :: s151 :: s152 :: s153 :: s154 :: s155 :: s156 :: s157 :: s158 :: s159 :: s160 :: s161 :: s162 :: s163 :: s164 :: s165 :: s166 :: s167 :: s168 :: s169 :: s170 :: s171 :: s172 :: s173 :: s174 :: s175 :: s176 :: s177 :: s178 :: s179 :: s180 :: s181 :: s182 :: s183 :: s184 :: s185 :: s186 :: s187 :: s188 :: s189 :: s190 :: s191 :: s192 :: s193 :: s194 :: s195 :: []).toArray, []⟩ w := by
  have HQ := Lib.hid hQ
  have HC := Lib.hid hC
  have hcs : ∀ W, Fr [] w W → W.cell? ⟨lb, lo + i * 2, none⟩ = some (.string s) ∧ W.cell? ⟨lb, lo + i * 2 + 1, none⟩ = some (.int .i64 x) := fun W hf => ⟨(hf.cell (p := ⟨lb, _, none⟩) hlb (by simp)).trans h1, (hf.cell (p := ⟨lb, _, none⟩) hlb (by simp)).trans h2⟩
  have HCS := Lib.hid hcs
  have hC1 : w.drew.cell? ⟨lb, lo + i * 2, none⟩ = some (.string s) ∧ w.drew.cell? ⟨lb, lo + i * 2 + 1, none⟩ = some (.int .i64 x) := ⟨h1, h2⟩
  clear hQ hC hcs h1 h2
  conv => arg 2; whnf
  go_region_held3 (fun w' => w'.cell? ⟨lb, lo + i * 2, none⟩ = some (.string s) ∧ w'.cell? ⟨lb, lo + i * 2 + 1, none⟩ = some (.int .i64 x)) (first | exact hC1 | exact hC2) (first
    | (go_at_call 20; (with_reducible refine (HC.out w.drew ((Fr.refl [] w).drew)).mono ?_); rintro e w2 ⟨rfl, hf2⟩; have hF := ((Fr.refl [] w).drew).trans hf2 (by simp); have hC2 := HCS.out _ hF; have HF := Lib.hid hF; clear hF hf2))
  exact HQ.out _ _ _ _ _ _ _ _ _ _ _ _ _ _ _ _ HF.out

/-- Are two alike? -/
def alikeB (s s' : ByteArray) (a b : Int) (qa qb : Bool) : Bool := decide (s = s') || (decide (a = b) && (qa == qb))

set_option maxRecDepth 1000000 in
set_option maxHeartbeats 4000000 in
theorem r13_wp (lb lo n c i k : Nat) (s s' : ByteArray) (a b : Int) (qa qb : Bool) {K : Act → World → Prop} (w : World)
    {s0 s2 s3 s4 s5 s6 s7 s8 s15 s16 s17 s18 s19 s20 s21 s22 s23 s24 s25 s26 s27 s28 s29 s30 s31 s32 s33 s34 s35 s36 s37 s38 s39 s40 s41 s42 s43 s44 s45 s46 s47 s48 s49 s50 s51 s52 s53 s54 s55 s56 s57 s58 s59 s60 s61 s62 s63 s64 s65 s66 s67 s68 s69 s70 s71 s72 s73 s74 s75 s76 s77 s78 s79 s80 s81 s82 s83 s84 s85 s86 s87 s88 s89 s90 s91 s92 s93 s94 s95 s96 s97 s98 s99 s100 s101 s102 s103 s104 s105 s106 s107 s108 s109 s110 s111 s112 s113 s114 s115 s116 s117 s118 s119 s120 s121 s122 s123 s124 s125 s126 s127 s128 s129 s130 s131 s132 s133 s134 s135 s136 s137 s138 s139 s140 s141 s142 s143 s144 s145 s146 s147 s148 s149 s150 s151 s152 s153 s154 s155 s156 s157 s158 s159 s160 s161 s162 s163 s164 s165 s166 s167 s168 s169 s170 s171 s172 s173 s174 s175 s176 s177 s178 s179 s180 s181 s182 s183 s184 s185 s186 s187 s188 s189 s190 s191 s192 s193 s194 s195 : Value}
    (hi : i < n) (hk : k < n) (hn : n ≤ 1000) (h1 : w.cell? ⟨lb, lo + i * 2, none⟩ = some (.string s)) (h2 : w.cell? ⟨lb, lo + k * 2, none⟩ = some (.string s'))
    (hQ : ∀ (m : Nat) (c72 c73 c74 c75 c76 c77 c78 c79 c80 c81 c82 c83 c84 c85 c86 c87 c88 c89 c90 c91 : Value), K ⟨(s0 :: .slice (some ⟨lb, lo, none⟩) n c :: s2 :: s3 :: s4 :: s5 :: s6 :: s7 :: s8 :: .int .i64 i :: .int .u64 a :: .bool qa :: .int .i64 k :: .int .u64 b :: .bool qb :: s15 :: s16 :: s17 :: s18 :: s19 :: s20 :: s21 :: s22 :: s23 :: s24 :: s25 :: s26 :: s27 :: s28 :: s29 :: s30 :: s31 :: s32 :: s33 :: s34 :: s35 :: s36 :: s37 :: s38 :: s39 :: s40 :: s41 :: s42 :: s43 :: s44 :: s45 :: s46 :: s47 :: s48 :: s49 :: s50 :: s51 :: s52 :: s53 :: s54 :: s55 :: s56 :: s57 :: s58 :: s59 :: s60 :: s61 :: s62 :: s63 :: s64 :: s65 :: s66 :: s67 :: s68 :: s69 :: s70 :: s71 :: c72 :: c73 :: c74 :: c75 :: c76 :: c77 :: c78 :: c79 :: c80 :: c81 :: c82 :: c83 :: c84 :: c85 :: c86 :: c87 :: c88 :: c89 :: c90 :: c91 :: .bool (alikeB s s' a b qa qb) :: s93 :: s94 :: s95 :: s96 :: s97 :: s98 :: s99 :: s100 :: s101 :: s102 :: s103 :: s104 :: s105 :: s106 :: s107 :: s108 :: s109 :: s110 :: s111 :: s112 :: s113 :: s114 :: s115 :: s116 :: s117 :: s118 :: s119 :: s120 :: s121 :: s122 :: s123 :: s124 :: s125 :: s126 :: s127 :: s128 :: s129 :: s130 :: s131 :: s132 :: s133 :: s134 :: s135 :: s136 :: s137 :: s138 :: s139 :: s140 :: s141 :: s142 :: s143 :: s144 :: s145 :: s146 :: s147 :: s148 :: s149 :: s150 :: s151 :: s152 :: s153 :: s154 :: s155 :: s156 :: s157 :: s158 :: s159 :: s160 :: s161 :: s162 :: s163 :: s164 :: s165 :: s166 :: s167 :: s168 :: s169 :: s170 :: s171 :: s172 :: s173 :: s174 :: s175 :: s176 :: s177 :: s178 :: s179 :: s180 :: s181 :: s182 :: s183 :: s184 :: s185 :: s186 :: s187 :: s188 :: s189 :: s190 :: s191 :: s192 :: s193 :: s194 :: s195 :: []).toArray, []⟩ (w.drewN m)) :
    Code.wp Try.prog r13 (Exit.then K (fun _ _ _ => False)) ⟨(s0 :: .slice (some ⟨lb, lo, none⟩) n c :: s2 :: s3 :: s4 :: s5 :: s6 :: s7 :: s8 :: .int .i64 i :: .int .u64 a :: .bool qa :: .int .i64 k :: .int .u64 b :: .bool qb :: s15 :: s16 :: s17 :: s18 :: s19 :: s20 :: s21 :: s22 :: s23 :: s24 :: s25 :: s26 :: s27 :: s28 :: s29 :: s30 :: s31 :: s32 :: s33 :: s34 :: s35 :: s36 :: s37 :: s38 :: s39 :: s40 :: s41 :: s42 :: s43 :: s44 :: s45 :: s46 :: s47 :: s48 :: s49 :: s50 :: s51 :: s52 :: s53 :: s54 :: s55 :: s56 :: s57 :: s58 :: s59 :: s60 :: s61 :: s62 :: s63 :: s64 :: s65 :: s66 :: s67 :: s68 :: s69 :: s70 :: s71 :: s72 :: s73 :: s74 :: s75 :: s76 :: s77 :: s78 :: s79 :: s80 :: s81 :: s82 :: s83 :: s84 :: s85 :: s86 :: s87 :: s88 :: s89 :: s90 :: s91 :: s92 :: s93 :: s94 :: s95 :: s96 :: s97 :: s98 :: s99 :: s100 :: s101 :: s102 :: s103 :: s104 :: s105 :: s106 :: s107 :: s108 :: s109 :: s110 :: s111 :: s112 :: s113 :: s114 :: s115 :: s116 :: s117 :: s118 :: s119 :: s120 :: s121 :: s122 :: s123 :: s124 :: s125 :: s126 :: s127 :: s128 :: s129 :: s130 :: s131 :: s132 :: s133 :: s134 :: s135 :: s136 :: s137 :: s138 :: s139 :: s140 :: s141 :: s142 :: s143 :: s144 :: s145 :: s146 :: s147 :: s148 :: s149 :: s150 :: s151 :: s152 :: s153 :: s154 :: s155 :: s156 :: s157 :: s158 :: s159 :: s160 :: s161 :: s162 :: s163 :: s164 :: s165 :: s166 :: s167 :: s168 :: s169 :: s170 :: s171 :: s172 :: s173 :: s174 :: s175 :: s176 :: s177 :: s178 :: s179 :: s180 :: s181 :: s182 :: s183 :: s184 :: s185 :: s186 :: s187 :: s188 :: s189 :: s190 :: s191 :: s192 :: s193 :: s194 :: s195 :: []).toArray, []⟩ w := by
  have HQ := Lib.hid hQ
  clear hQ
  by_cases hs : s = s'
  · subst hs
    have e : alikeB s s a b qa qb = true := by simp [alikeB]
    rw [e] at HQ
    clear e
    conv => arg 2; whnf
    go_quiet (fail)
    exact HQ.out _ _ _ _ _ _ _ _ _ _ _ _ _ _ _ _ _ _ _ _ _
  · have hs2 := bytes_beq hs
    by_cases hab : a = b
    · subst hab
      cases qa <;> cases qb
      · have e : alikeB s s' a a false false = true := by simp [alikeB]
        rw [e] at HQ
        clear e hs
        conv => arg 2; whnf
        go_quiet (fail)
        exact HQ.out _ _ _ _ _ _ _ _ _ _ _ _ _ _ _ _ _ _ _ _ _
      · have e : alikeB s s' a a false true = false := by simp [alikeB, hs]
        rw [e] at HQ
        clear e hs
        conv => arg 2; whnf
        go_quiet (fail)
        exact HQ.out _ _ _ _ _ _ _ _ _ _ _ _ _ _ _ _ _ _ _ _ _
      · have e : alikeB s s' a a true false = false := by simp [alikeB, hs]
        rw [e] at HQ
        clear e hs
        conv => arg 2; whnf
        go_quiet (fail)
        exact HQ.out _ _ _ _ _ _ _ _ _ _ _ _ _ _ _ _ _ _ _ _ _
      · have e : alikeB s s' a a true true = true := by simp [alikeB]
        rw [e] at HQ
        clear e hs
        conv => arg 2; whnf
        go_quiet (fail)
        exact HQ.out _ _ _ _ _ _ _ _ _ _ _ _ _ _ _ _ _ _ _ _ _
    · have e : alikeB s s' a b qa qb = false := by simp [alikeB, hs, hab]
      have hab2 : (a == b) = false := by simpa using hab
      rw [e] at HQ
      clear e hs hab
      conv => arg 2; whnf
      go_quiet (fail)
      exact HQ.out _ _ _ _ _ _ _ _ _ _ _ _ _ _ _ _ _ _ _ _ _

end Go.Proofs.Ytkioniffgmalgaa
