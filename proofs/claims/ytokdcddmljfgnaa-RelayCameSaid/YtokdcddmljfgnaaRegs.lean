/-
  RelayCame's two regions that append, each by itself.
-/
import Derived.Test.YtokdcddmljfgnaaSides
import Derived.Test.YtokdcddmljfgnaaTwoRows
import Derived.Test.YtokdcddmljfgnaaRPlays
namespace Go.Proofs.Ytokdcddmljfgnaa
open Go.RowKit Go.Shelf
set_option linter.unusedVariables false

/-- A region out of a function's code. -/
def findR (n : Nat) : Code → Option Code
  | .region id ops d => if id = n then some (.region id ops d) else none
  | .seq a b => match findR n a with
    | some c => some c
    | none => findR n b
  | .cond _ a b => match findR n a with
    | some c => some c
    | none => findR n b
  | .block _ c => findR n c
  | .loop c => findR n c
  | .scope c => findR n c
  | _ => none
theorem wp_only {P : Program} {c : Code} {a : Act} {w : World} {Q : Exit → Act → World → Prop} (h : Code.wp P c (Exit.then (fun a' w' => Q .normal a' w') (fun _ _ _ => False)) a w) : Code.wp P c Q a w :=
  wp_mono h (fun e a' w' hq => by cases e <;> first | exact hq | exact hq.elim)
noncomputable def r22 : Code := (Try.f10.body.bind (findR 22)).getD .skip
noncomputable def r25 : Code := (Try.f10.body.bind (findR 25)).getD .skip

set_option maxRecDepth 1000000 in
set_option maxHeartbeats 4000000 in
theorem r22_wp (eb H B i n cu : Nat) (U A : Option Addr) (len cap lo : Nat) (vi : Nat → Value) (I : Nat → List Int) (bs : List Int) {K : Act → World → Prop} (w : World)
    {s0 s1 s2 s3 s4 s5 s6 s8 s9 s10 s14 s15 s16 s17 s18 s19 s20 s21 s22 s23 s24 s25 s26 s27 s28 s29 s30 s31 s32 s33 s34 s35 s36 s37 s38 s39 s40 s41 s42 s43 s44 s45 s46 s47 s48 s49 s50 s51 s52 s53 s54 s55 s56 s57 s58 s59 s60 s61 s62 s63 s64 s65 s66 s67 s68 s69 s70 s71 s72 s73 s74 s75 s76 s77 s78 s79 s80 s81 s82 s83 s84 s85 s86 s87 s88 s89 s90 s91 s92 s93 s94 s95 s96 s97 s98 s99 s100 s101 s102 s103 s104 s105 s106 s107 s108 s109 s110 s111 s112 s113 s114 s115 s116 s117 s118 s119 s120 s121 s122 s123 s124 s125 s126 s127 s128 s129 s130 s131 s132 s133 s134 s135 s136 s137 s138 s139 s140 s141 s142 s143 s144 s145 s146 s147 s148 s149 s150 s151 s152 s153 s154 s155 s156 s157 s158 s159 s160 s161 s162 s163 s164 s165 s166 s167 s168 s169 s170 s171 s172 s173 s174 s175 s176 s177 s178 s179 s180 s181 s182 : Value}
    (hi : i = 0 ∨ i = 1) (hTR : TRows w eb B vi I) (hU : vi i = .slice U lo cu) (hlo : (I i).length = lo) (hH : w.cell? ⟨H, 3, none⟩ = some (.slice A len cap)) (hHn : H ≠ eb) (hX : BytesAt w A bs (fun _ => True)) (hbl : bs.length = len) (hlen : len ≤ 1000) (hlc : len ≤ cap) (hcap : cap ≤ 9223372036854775807) (hn : n ≤ len) (hl6 : lo ≤ 100000)
    (hQ : ∀ (V : Option Addr) (c : Nat) (w3 : World) (c103 c104 c105 c106 c107 c108 c109 c110 c111 c112 : Value), w.drew.grownBy w3 (vi i).ownBlock → w3.ownsRow B 5 1 (.slice V (lo + n) c) (lo + n) (bcells (I i ++ bs.take n)) →
      ((Value.slice V (lo + n) c).ownBlock = (vi i).ownBlock ∨ (Value.slice V (lo + n) c).ownBlock = some w.drew.heap.size) → K ⟨#[s0, s1, s2, s3, s4, s5, s6, .pointer (some ⟨eb, 0, none⟩), s8, s9, s10, .pointer (some ⟨H, 0, none⟩), .int .i64 i, .int .i64 n, s14, s15, s16, s17, s18, s19, s20, s21, s22, s23, s24, s25, s26, s27, s28, s29, s30, s31, s32, s33, s34, s35, s36, s37, s38, s39, s40, s41, s42, s43, s44, s45, s46, s47, s48, s49, s50, s51, s52, s53, s54, s55, s56, s57, s58, s59, s60, s61, s62, s63, s64, s65, s66, s67, s68, s69, s70, s71, s72, s73, s74, s75, s76, s77, s78, s79, s80, s81, s82, s83, s84, s85, s86, s87, s88, s89, s90, s91, s92, s93, s94, s95, s96, s97, s98, s99, s100, s101, s102, c103, c104, c105, c106, c107, c108, c109, c110, c111, c112, s113, s114, s115, s116, s117, s118, s119, s120, s121, s122, s123, s124, s125, s126, s127, s128, s129, s130, s131, s132, s133, s134, s135, s136, s137, s138, s139, s140, s141, s142, s143, s144, s145, s146, s147, s148, s149, s150, s151, s152, s153, s154, s155, s156, s157, s158, s159, s160, s161, s162, s163, s164, s165, s166, s167, s168, s169, s170, s171, s172, s173, s174, s175, s176, s177, s178, s179, s180, s181, s182], []⟩ (w3.setCell ⟨eb, i, none⟩ (.slice V (lo + n) c))) :
    Code.wp Try.prog r22 (Exit.then K (fun _ _ _ => False)) ⟨#[s0, s1, s2, s3, s4, s5, s6, .pointer (some ⟨eb, 0, none⟩), s8, s9, s10, .pointer (some ⟨H, 0, none⟩), .int .i64 i, .int .i64 n, s14, s15, s16, s17, s18, s19, s20, s21, s22, s23, s24, s25, s26, s27, s28, s29, s30, s31, s32, s33, s34, s35, s36, s37, s38, s39, s40, s41, s42, s43, s44, s45, s46, s47, s48, s49, s50, s51, s52, s53, s54, s55, s56, s57, s58, s59, s60, s61, s62, s63, s64, s65, s66, s67, s68, s69, s70, s71, s72, s73, s74, s75, s76, s77, s78, s79, s80, s81, s82, s83, s84, s85, s86, s87, s88, s89, s90, s91, s92, s93, s94, s95, s96, s97, s98, s99, s100, s101, s102, s103, s104, s105, s106, s107, s108, s109, s110, s111, s112, s113, s114, s115, s116, s117, s118, s119, s120, s121, s122, s123, s124, s125, s126, s127, s128, s129, s130, s131, s132, s133, s134, s135, s136, s137, s138, s139, s140, s141, s142, s143, s144, s145, s146, s147, s148, s149, s150, s151, s152, s153, s154, s155, s156, s157, s158, s159, s160, s161, s162, s163, s164, s165, s166, s167, s168, s169, s170, s171, s172, s173, s174, s175, s176, s177, s178, s179, s180, s181, s182], []⟩ w := by
  have hi3 : (i : Int) < 2 := by omega
  have hi4 : (0 : Int) ≤ (i : Int) := by omega
  obtain ⟨i0, hin, hz0, hz1, hz2⟩ := info_parts info5
  have hci : w.cell? ⟨eb, i, none⟩ = some (.slice U lo cu) := by rw [← hU]; exact hTR.cell hi
  have hrd := (cut_at (m := cap) (l := 0) (n := n) hX (by omega) (by omega)).reads
  have hlw : ((bs.drop 0).take n).length = n := by simp; omega
  rw [hlw, List.drop_zero] at hrd
  have HRD : Hid (Reads w.drew w.heap.size 1 (cutA A cap 0) n (bcells (bs.take n))) := Lib.hid hrd
  have HT := Lib.hid (hTR.fr0 ((Fr.refl [] w).drew))
  have HOW : Hid (w.drew.ownsRow B 5 1 (.slice U lo cu) lo (bcells (I i))) := Lib.hid (by have := HT.out.own i hi; rw [hU, hlo] at this; exact this)
  have hsl := fun wx => slice_h A len cap n (by omega) wx
  have HI := Lib.hid hi
  have HQ := Lib.hid hQ
  have HUU := Lib.hid (And.intro hU hlo)
  have hbase : B ≤ w.heap.size := hTR.lo.2
  have hegb : eb < B := hTR.lo.1
  clear hX hrd hlw hTR hQ hU hlo hi hbl
  conv => arg 2; whnf
  go_region_law (first
    | (refine step_append_any _ rfl (.tmp 106) (.tmp 110) _ rfl B 5 i0 _ 1 1 Try.underlying22 hin hz0 hz1 hz2 rfl (by omega) (.slice U lo cu) lo (bcells (I i)) rfl HOW.out w.heap.size (cutA A cap 0) n cap (bcells (bs.take n)) rfl HRD.out (bcells_one _) (by simp only [maxLen]; omega) (by omega) (by simp; omega) ?_; intro v4 w3 hown4 hg4 hat4; have hb3 := blk_grown HT.out.blk hg4 (fun e => by have := own_ge HOW.out e; omega); have he3 := tr_cell hb3 HI.out; have hz3 : w3.frozen? ⟨eb, i, none⟩ = false := hb3.frozen i; obtain ⟨V4, c4, rfl⟩ := own_slice hown4))
  all_goals
    rw [← bcells_append] at hown4
    exact HQ.out V4 c4 w3 _ _ _ _ _ _ _ _ _ _ (by rw [HUU.out.1]; exact hg4) hown4 (by rw [HUU.out.1]; exact hat4)

set_option maxRecDepth 1000000 in
set_option maxHeartbeats 4000000 in
theorem r25_wp (p eb H B i j cu no : Nat) (kk : Int) (U : Option Addr) (vo : Nat → Value) (O : Nat → List Int) (xs : List Int) (R : World → Prop) {K : Act → World → Prop} (w : World)
    {s0 s1 s2 s3 s4 s6 s7 s9 s10 s13 s14 s15 s16 s17 s18 s19 s20 s21 s22 s23 s24 s25 s26 s27 s28 s29 s30 s31 s32 s33 s34 s35 s36 s37 s38 s39 s40 s41 s42 s43 s44 s45 s46 s47 s48 s49 s50 s51 s52 s53 s54 s55 s56 s57 s58 s59 s60 s61 s62 s63 s64 s65 s66 s67 s68 s69 s70 s71 s72 s73 s74 s75 s76 s77 s78 s79 s80 s81 s82 s83 s84 s85 s86 s87 s88 s89 s90 s91 s92 s93 s94 s95 s96 s97 s98 s99 s100 s101 s102 s103 s104 s105 s106 s107 s108 s109 s110 s111 s112 s113 s114 s115 s116 s117 s118 s119 s120 s121 s122 s123 s124 s125 s126 s127 s128 s129 s130 s131 s132 s133 s134 s135 s136 s137 s138 s139 s140 s141 s142 s143 s144 s145 s146 s147 s148 s149 s150 s151 s152 s153 s154 s155 s156 s157 s158 s159 s160 s161 s162 s163 s164 s165 s166 s167 s168 s169 s170 s171 s172 s173 s174 s175 s176 s177 s178 s179 s180 s181 s182 : Value}
    (hi : i = 0 ∨ i = 1) (hTR : TRows w (eb + 1) B vo O) (hU : vo (1 - i) = .slice U no cu) (hno : (O (1 - i)).length = no) (hH : w.cell? ⟨H, 2, none⟩ = some (.int .i64 kk)) (hl6 : no ≤ 100000) (hj6 : j ≤ 100000)
    (hTK : Calls Try.prog 34 #[.pointer (some ⟨p, 0, none⟩), .int .i64 i, .int .i64 kk] w.drew fun e w' => ∃ A1 c1, e = .returned (.slice A1 j c1) ∧ Reads w' w'.heap.size 1 A1 j (bcells xs) ∧ TRows w' (eb + 1) B vo O ∧ w'.cell? ⟨H, 2, none⟩ = some (.int .i64 kk) ∧ R w')
    (hQ : ∀ (V : Option Addr) (c : Nat) (w2 w3 : World) (c116 c117 c118 c119 c120 c121 c122 c123 c124 c125 c126 c127 c128 : Value), R w2 → TRows w2 (eb + 1) B vo O → w2.grownBy w3 (vo (1 - i)).ownBlock → w3.ownsRow B 5 1 (.slice V (no + j) c) (no + j) (bcells (O (1 - i) ++ xs)) →
      ((Value.slice V (no + j) c).ownBlock = (vo (1 - i)).ownBlock ∨ (Value.slice V (no + j) c).ownBlock = some w2.heap.size) → K ⟨#[s0, s1, s2, s3, s4, .pointer (some ⟨p, 0, none⟩), s6, s7, .pointer (some ⟨eb + 1, 0, none⟩), s9, s10, .pointer (some ⟨H, 0, none⟩), .int .i64 i, s13, s14, s15, s16, s17, s18, s19, s20, s21, s22, s23, s24, s25, s26, s27, s28, s29, s30, s31, s32, s33, s34, s35, s36, s37, s38, s39, s40, s41, s42, s43, s44, s45, s46, s47, s48, s49, s50, s51, s52, s53, s54, s55, s56, s57, s58, s59, s60, s61, s62, s63, s64, s65, s66, s67, s68, s69, s70, s71, s72, s73, s74, s75, s76, s77, s78, s79, s80, s81, s82, s83, s84, s85, s86, s87, s88, s89, s90, s91, s92, s93, s94, s95, s96, s97, s98, s99, s100, s101, s102, s103, s104, s105, s106, s107, s108, s109, s110, s111, s112, s113, s114, s115, c116, c117, c118, c119, c120, c121, c122, c123, c124, c125, c126, c127, c128, s129, s130, s131, s132, s133, s134, s135, s136, s137, s138, s139, s140, s141, s142, s143, s144, s145, s146, s147, s148, s149, s150, s151, s152, s153, s154, s155, s156, s157, s158, s159, s160, s161, s162, s163, s164, s165, s166, s167, s168, s169, s170, s171, s172, s173, s174, s175, s176, s177, s178, s179, s180, s181, s182], []⟩ (w3.setCell ⟨eb + 1, 1 - i, none⟩ (.slice V (no + j) c))) :
    Code.wp Try.prog r25 (Exit.then K (fun _ _ _ => False)) ⟨#[s0, s1, s2, s3, s4, .pointer (some ⟨p, 0, none⟩), s6, s7, .pointer (some ⟨eb + 1, 0, none⟩), s9, s10, .pointer (some ⟨H, 0, none⟩), .int .i64 i, s13, s14, s15, s16, s17, s18, s19, s20, s21, s22, s23, s24, s25, s26, s27, s28, s29, s30, s31, s32, s33, s34, s35, s36, s37, s38, s39, s40, s41, s42, s43, s44, s45, s46, s47, s48, s49, s50, s51, s52, s53, s54, s55, s56, s57, s58, s59, s60, s61, s62, s63, s64, s65, s66, s67, s68, s69, s70, s71, s72, s73, s74, s75, s76, s77, s78, s79, s80, s81, s82, s83, s84, s85, s86, s87, s88, s89, s90, s91, s92, s93, s94, s95, s96, s97, s98, s99, s100, s101, s102, s103, s104, s105, s106, s107, s108, s109, s110, s111, s112, s113, s114, s115, s116, s117, s118, s119, s120, s121, s122, s123, s124, s125, s126, s127, s128, s129, s130, s131, s132, s133, s134, s135, s136, s137, s138, s139, s140, s141, s142, s143, s144, s145, s146, s147, s148, s149, s150, s151, s152, s153, s154, s155, s156, s157, s158, s159, s160, s161, s162, s163, s164, s165, s166, s167, s168, s169, s170, s171, s172, s173, s174, s175, s176, s177, s178, s179, s180, s181, s182], []⟩ w := by
  have hj : 1 - i = 0 ∨ 1 - i = 1 := by omega
  have hi3 : (i : Int) < 2 := by omega
  have hi4 : (0 : Int) ≤ (i : Int) := by omega
  have hw1 : IntKind.i64.wrap (1 - (i : Int)) = 1 - (i : Int) := IntWalk.i64_in _ (by omega)
  have hw2 : (0 : Int) ≤ 1 - (i : Int) := by omega
  have hw3 : 1 - (i : Int) < 2 := by omega
  have hw4 : (1 - (i : Int)).toNat = 1 - i := by omega
  have hw5 : (i : Int) ≤ 1 := by omega
  obtain ⟨i0, hin, hz0, hz1, hz2⟩ := info_parts info5
  have hco : w.cell? ⟨eb + 1, 1 - i, none⟩ = some (.slice U no cu) := by rw [← hU]; exact hTR.cell hj
  have HCV : Hid (∀ w', TRows w' (eb + 1) B vo O → w'.cell? ⟨eb + 1, 1 - i, none⟩ = some (.slice U no cu) ∧ w'.ownsRow B 5 1 (.slice U no cu) no (bcells (O (1 - i))) ∧ B ≤ w'.heap.size) := Lib.hid (fun w' h => by
    have h1 := h.cell hj
    have h2 := h.own (1 - i) hj
    rw [hU] at h1
    rw [hU, hno] at h2
    exact ⟨h1, h2, h.lo.2⟩)
  have HJ := Lib.hid hj
  have HQ := Lib.hid hQ
  have HTK := Lib.hid hTK
  have HUU := Lib.hid hU
  have hegb : eb + 1 < B := hTR.lo.1
  clear hTR hQ hU hno hi hj hTK
  conv => arg 2; whnf
  go_region_law (first
    | (refine step_append_any _ rfl (.tmp 121) (.tmp 126) _ rfl B 5 i0 _ 1 1 Try.underlying22 hin hz0 hz1 hz2 rfl (by omega) (.slice U no cu) no (bcells (O (1 - i))) rfl HOW.out w2.heap.size A1 j c1 (bcells xs) rfl HRD.out (bcells_one _) (by simp only [maxLen]; omega) (by omega) (by omega) ?_; intro v4 w3 hown4 hg4 hat4; have hb3 := blk_grown HO2.out.blk hg4 (fun e => by have := own_ge HOW.out e; omega); have he3 := tr_cell hb3 HJ.out; have hz3 : w3.frozen? ⟨eb + 1, 1 - i, none⟩ = false := hb3.frozen (1 - i); obtain ⟨V4, c4, rfl⟩ := own_slice hown4)
    | (go_simp; go_at_call 34; (with_reducible refine HTK.out.mono ?_); rintro e w2 ⟨A1, c1, rfl, hrd, hO2, hn2, hR⟩; have hcv := HCV.out w2 hO2; have hc2 := hcv.1; have hbw2 := hcv.2.2; have HRD := Lib.hid hrd; have HR := Lib.hid hR; have HO2 := Lib.hid hO2; have HOW := Lib.hid hcv.2.1; clear hrd hR hO2 hcv))
  all_goals
    rw [← bcells_append] at hown4
    exact HQ.out V4 c4 w2 w3 _ _ _ _ _ _ _ _ _ _ _ _ _ HR.out HO2.out (by rw [HUU.out]; exact hg4) hown4 (by rw [HUU.out]; exact hat4)

end Go.Proofs.Ytokdcddmljfgnaa
