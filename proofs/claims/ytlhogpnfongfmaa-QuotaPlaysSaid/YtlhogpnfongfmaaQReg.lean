/-
  QuotaPlays' regions 13, 15 and 18 by themselves: both quotas give, take, and tell their names and how many.
-/
import Derived.Test.YtlhogpnfongfmaaFind
import Derived.Deep.RegionHeld3
namespace Go.Proofs.Ytlhogpnfongfmaa
open Go.RowKit Go.Maps
set_option linter.unusedVariables false

noncomputable def r13 : Code := (Try.f5.body.bind (findR 13)).getD .skip
noncomputable def r15 : Code := (Try.f5.body.bind (findR 15)).getD .skip
noncomputable def r18 : Code := (Try.f5.body.bind (findR 18)).getD .skip

set_option maxRecDepth 1000000 in
set_option maxHeartbeats 4000000 in
theorem r13_wp (q m ob k ab : Nat) (f : Bs → Nat) (l : List ByteArray) (v : Value) (nm : ByteArray) {K : Act → World → Prop} (w : World)
    {s0 s1 s2 s7 s9 s10 s11 s12 s13 s14 s15 s16 s17 s18 s19 s20 s21 s22 s23 s24 s25 s26 s27 s28 s29 s30 s31 s32 s33 s34 s35 s36 s37 s38 s39 s40 s41 s42 s43 s44 s45 s46 s47 s48 s49 s50 s51 s52 s53 s54 s55 s56 s57 s58 s59 s60 s61 s62 s63 s64 s65 s66 s67 s68 s69 s70 s71 s72 s73 s74 s75 s76 s77 s78 s79 s80 s81 s82 s83 s84 s85 s86 s87 s88 s89 s90 s91 s92 s93 s94 s95 s96 s97 s98 s99 s100 s101 s102 s103 s104 s105 s106 s107 s108 s109 s110 s111 s112 s113 s114 s115 s116 s117 s118 s119 s120 s121 s122 s123 s124 s125 s126 : Value}
    (hS : St w q m ob k f l v) (hk : k < 1000) (hs : nm.size ≤ maxLen) (ha1 : w.cell? ⟨ab, 1, none⟩ = some (.string nm)) (hab : ab < w.heap.size) (habo : ob + 1 < ab) (habv : ∀ g, v.ownBlock = some g → g ≠ ab)
    (hQ : ∀ (w4 : World) (v' : Value) (c32 c33 c34 c35 c36 c37 c38 c39 c40 c41 c42 c43 c44 c45 c46 c47 c48 c49 c50 c51 : Value), St w4 q m ob (k + 1) (giveF f nm.data.toList) (del1 l nm) v' → Fr (m :: (ob + 1) :: v.ownBlock.toList) w w4 → (∀ g, v'.ownBlock = some g → v.ownBlock = some g ∨ w.heap.size ≤ g) → K ⟨(s0 :: s1 :: s2 :: .pointer (some ⟨q, 0, none⟩) :: .pointer none :: .pointer (some ⟨ob, 0, none⟩) :: .pointer (some ⟨ob + 1, 0, none⟩) :: s7 :: .pointer (some ⟨ab, 0, none⟩) :: s9 :: s10 :: s11 :: s12 :: s13 :: s14 :: s15 :: s16 :: s17 :: s18 :: s19 :: s20 :: s21 :: s22 :: s23 :: s24 :: s25 :: s26 :: s27 :: s28 :: s29 :: s30 :: s31 :: c32 :: c33 :: c34 :: c35 :: c36 :: c37 :: c38 :: c39 :: c40 :: c41 :: c42 :: c43 :: c44 :: c45 :: c46 :: c47 :: c48 :: c49 :: c50 :: c51 :: .bool false :: s53 :: s54 :: s55 :: s56 :: s57 :: s58 :: s59 :: s60 :: s61 :: s62 :: s63 :: s64 :: s65 :: s66 :: s67 :: s68 :: s69 :: s70 :: s71 :: s72 :: s73 :: s74 :: s75 :: s76 :: s77 :: s78 :: s79 :: s80 :: s81 :: s82 :: s83 :: s84 :: s85 :: s86 :: s87 :: s88 :: s89 :: s90 :: s91 :: s92 :: s93 :: s94 :: s95 :: s96 :: s97 :: s98 :: s99 :: s100 :: s101 :: s102 :: s103 :: s104 :: s105 :: s106 :: s107 :: s108 :: s109 :: s110 :: s111 :: s112 :: s113 :: s114 :: s115 :: s116 :: s117 :: s118 :: s119 :: s120 :: s121 :: s122 :: s123 :: s124 :: s125 :: s126 :: []).toArray, []⟩ w4) :
    Code.wp Try.prog r13 (Exit.then K (fun _ _ _ => False)) ⟨(s0 :: s1 :: s2 :: .pointer (some ⟨q, 0, none⟩) :: .pointer none :: .pointer (some ⟨ob, 0, none⟩) :: .pointer (some ⟨ob + 1, 0, none⟩) :: s7 :: .pointer (some ⟨ab, 0, none⟩) :: s9 :: s10 :: s11 :: s12 :: s13 :: s14 :: s15 :: s16 :: s17 :: s18 :: s19 :: s20 :: s21 :: s22 :: s23 :: s24 :: s25 :: s26 :: s27 :: s28 :: s29 :: s30 :: s31 :: s32 :: s33 :: s34 :: s35 :: s36 :: s37 :: s38 :: s39 :: s40 :: s41 :: s42 :: s43 :: s44 :: s45 :: s46 :: s47 :: s48 :: s49 :: s50 :: s51 :: s52 :: s53 :: s54 :: s55 :: s56 :: s57 :: s58 :: s59 :: s60 :: s61 :: s62 :: s63 :: s64 :: s65 :: s66 :: s67 :: s68 :: s69 :: s70 :: s71 :: s72 :: s73 :: s74 :: s75 :: s76 :: s77 :: s78 :: s79 :: s80 :: s81 :: s82 :: s83 :: s84 :: s85 :: s86 :: s87 :: s88 :: s89 :: s90 :: s91 :: s92 :: s93 :: s94 :: s95 :: s96 :: s97 :: s98 :: s99 :: s100 :: s101 :: s102 :: s103 :: s104 :: s105 :: s106 :: s107 :: s108 :: s109 :: s110 :: s111 :: s112 :: s113 :: s114 :: s115 :: s116 :: s117 :: s118 :: s119 :: s120 :: s121 :: s122 :: s123 :: s124 :: s125 :: s126 :: []).toArray, []⟩ w := by
  have HQ := Lib.hid hQ
  have hlo := hS.lo
  have hln := hS.len
  have hSd : St w.drew q m ob k f l v := hS.fr0 ((Fr.refl [] w).drew)
  have HSD := Lib.hid hSd
  have hg1 : ∀ W, QAt W q m k f → Calls Try.prog 10 #[.pointer (some ⟨q, 0, none⟩), .string nm] W fun e w' => e = .returned (.bool (decide (0 < f nm.data.toList))) ∧ QAt w' q m (k + 1) (giveF f nm.data.toList) ∧ Fr [m] W w' := fun W hW => give_any q m k f nm hs W hW (by omega)
  have hg2 : ∀ W, RefAt W (ob + 2) (ob + 1) v l → ob + 2 ≤ W.heap.size → Calls Try.prog 12 #[.pointer (some ⟨ob + 1, 0, none⟩), .string nm] W fun e w' => e = .returned (.bool (decide (0 < cnt l nm))) ∧ ∃ v', RefAt w' (ob + 2) (ob + 1) v' (del1 l nm) ∧ Fr [ob + 1] W w' ∧ (∀ g, v'.ownBlock = some g → W.heap.size ≤ g) := fun W hW hz => refGive_calls (ob + 2) (ob + 1) v l nm W hW (by omega) hz
  have hbb : decide (0 < cnt l nm) = decide (0 < f nm.data.toList) := by rw [hS.cn nm]
  rw [hbb] at hg2
  obtain ⟨b, hb⟩ : ∃ b, decide (0 < f nm.data.toList) = b := ⟨_, rfl⟩
  rw [hb] at hg1 hg2
  have HG1 := Lib.hid hg1
  have HG2 := Lib.hid hg2
  have HG3 := Lib.hid (fun W => give_of_none (none_nil W) nm)
  have HG4 := Lib.hid (fun W (hW : Blk W ob 36 #[.map none]) => give_of_none (none_odd ob W hW) nm)
  have hown : ∀ g, v.ownBlock = some g → ob + 2 ≤ g ∧ g < w.heap.size := fun g hg => ⟨hS.own_ge hg, hS.own_lt hg⟩
  have HOWN := Lib.hid hown
  have HABV := Lib.hid habv
  have hcs : ∀ L W, Fr L w W → ab ∉ L → W.cell? ⟨ab, 1, none⟩ = some (.string nm) := fun L W hf hn => (hf.cell (p := ⟨ab, 1, none⟩) hab hn).trans ha1
  have HCS := Lib.hid hcs
  have hC1 : w.drew.cell? ⟨ab, 1, none⟩ = some (.string nm) := ha1
  have hnv : ab ∉ m :: (ob + 1) :: v.ownBlock.toList := fun hm => by
    simp at hm
    rcases hm with hm | hm | hm
    · omega
    · omega
    · exact habv ab hm rfl
  have HNV := Lib.hid hnv
  have hfa : ∀ W, Fr [m] w.drew W → Fr (m :: (ob + 1) :: v.ownBlock.toList) w W := fun W hf => ((Fr.refl (m :: (ob + 1) :: v.ownBlock.toList) w).drew).trans hf (fun x hx => .inl (by simp at hx; simp [hx]))
  have hfb : ∀ W W', Fr [m] w.drew W → Fr [ob + 1] W W' → Fr (m :: (ob + 1) :: v.ownBlock.toList) w W' := fun W W' hf hf' => (hfa W hf).trans hf' (fun x hx => .inl (by simp at hx; simp [hx]))
  have hra : ∀ W, Fr [m] w.drew W → RefAt W (ob + 2) (ob + 1) v l ∧ ob + 2 ≤ W.heap.size := fun W hf => ⟨hSd.ref.fr hf (by simp; omega) (fun g hg hm => by simp at hm; have := hown g hg; omega), Nat.le_trans hSd.lo.2.2.2 hf.size⟩
  have hod : ∀ W W', Fr [m] w.drew W → Fr [ob + 1] W W' → Blk W' ob 36 #[.map none] := fun W W' hf hf' => hf'.blk (hf.blk hSd.odd (by simp; omega)) (fun hm => by
    simp at hm
    done)
  have HFA := Lib.hid hfa
  have HFB := Lib.hid hfb
  have HRA := Lib.hid hra
  have HOD := Lib.hid hod
  clear hQ hS hSd hg1 hg2 hbb hb hown habv hcs ha1 hnv hfa hfb hra hod
  conv => arg 2; whnf
  go_region_held3 (fun w' => w'.cell? ⟨ab, 1, none⟩ = some (.string nm)) (first | exact hC1 | exact hC2 | exact hC3) (first
    | (go_at_call 10; (with_reducible refine (HG1.out w.drew HSD.out.qa).mono ?_); rintro e w4 ⟨rfl, hq4, hf4⟩; have hC2 := HCS.out _ w4 (HFA.out w4 hf4) HNV.out)
    | (go_at_call 12; (with_reducible refine (HG2.out w4 (HRA.out w4 hf4).1 (HRA.out w4 hf4).2).mono ?_); rintro e w5 ⟨rfl, v', hr5, hf5, hv5⟩; have hC3 := HCS.out _ w5 (HFB.out w4 w5 hf4 hf5) HNV.out)
    | (go_at_call 10; (with_reducible refine (HG3.out w5).mono ?_); rintro e w6 ⟨rfl, rfl⟩)
    | (go_at_call 10; (with_reducible refine (HG4.out w5 (HOD.out w4 w5 hf4 hf5)).mono ?_); rintro e w6 ⟨rfl, rfl⟩))
  exact HQ.out w5 v' _ _ _ _ _ _ _ _ _ _ _ _ _ _ _ _ _ _ _ _ (HSD.out.give hq4 hf4 hr5 hf5) (HFB.out w4 w5 hf4 hf5) (fun g hg => .inr (Nat.le_trans hf4.size (hv5 g hg)))

set_option maxRecDepth 1000000 in
set_option maxHeartbeats 4000000 in
theorem r15_wp (q m ob k ab : Nat) (f : Bs → Nat) (l : List ByteArray) (v : Value) (nm : ByteArray) (mo : Int) {K : Act → World → Prop} (w : World)
    {s0 s1 s2 s7 s9 s10 s11 s12 s13 s14 s15 s16 s17 s18 s19 s20 s21 s22 s23 s24 s25 s26 s27 s28 s29 s30 s31 s32 s33 s34 s35 s36 s37 s38 s39 s40 s41 s42 s43 s44 s45 s46 s47 s48 s49 s50 s51 s52 s53 s54 s55 s56 s57 s58 s59 s60 s61 s62 s63 s64 s65 s66 s67 s68 s69 s70 s71 s72 s73 s74 s75 s76 s77 s78 s79 s80 s81 s82 s83 s84 s85 s86 s87 s88 s89 s90 s91 s92 s93 s94 s95 s96 s97 s98 s99 s100 s101 s102 s103 s104 s105 s106 s107 s108 s109 s110 s111 s112 s113 s114 s115 s116 s117 s118 s119 s120 s121 s122 s123 s124 s125 s126 : Value}
    (hS : St w q m ob k f l v) (hk : k < 1000) (hs : nm.size ≤ maxLen) (ha1 : w.cell? ⟨ab, 1, none⟩ = some (.string nm)) (ha2 : w.cell? ⟨ab, 2, none⟩ = some (.int .i64 mo)) (hab : ab < w.heap.size) (habo : ob + 1 < ab) (habv : ∀ g, v.ownBlock = some g → g ≠ ab)
    (hQ : ∀ (w4 : World) (v' : Value) (c53 c54 c55 c56 c57 c58 c59 c60 c61 c62 c63 c64 c65 c66 c67 c68 c69 c70 c71 c72 c73 c74 c75 c76 c77 c78 c79 c80 : Value), St w4 q m ob (k + 1) (takeF f nm.data.toList mo) (if (cnt l nm : Int) < mo then l ++ [nm] else l) v' → Fr (m :: (ob + 1) :: v.ownBlock.toList) w w4 → (∀ g, v'.ownBlock = some g → v.ownBlock = some g ∨ w.heap.size ≤ g) → K ⟨(s0 :: s1 :: s2 :: .pointer (some ⟨q, 0, none⟩) :: .pointer none :: .pointer (some ⟨ob, 0, none⟩) :: .pointer (some ⟨ob + 1, 0, none⟩) :: s7 :: .pointer (some ⟨ab, 0, none⟩) :: s9 :: s10 :: s11 :: s12 :: s13 :: s14 :: s15 :: s16 :: s17 :: s18 :: s19 :: s20 :: s21 :: s22 :: s23 :: s24 :: s25 :: s26 :: s27 :: s28 :: s29 :: s30 :: s31 :: s32 :: s33 :: s34 :: s35 :: s36 :: s37 :: s38 :: s39 :: s40 :: s41 :: s42 :: s43 :: s44 :: s45 :: s46 :: s47 :: s48 :: s49 :: s50 :: s51 :: s52 :: c53 :: c54 :: c55 :: c56 :: c57 :: c58 :: c59 :: c60 :: c61 :: c62 :: c63 :: c64 :: c65 :: c66 :: c67 :: c68 :: c69 :: c70 :: c71 :: c72 :: c73 :: c74 :: c75 :: c76 :: c77 :: c78 :: c79 :: c80 :: .bool false :: s82 :: s83 :: s84 :: s85 :: s86 :: s87 :: s88 :: s89 :: s90 :: s91 :: s92 :: s93 :: s94 :: s95 :: s96 :: s97 :: s98 :: s99 :: s100 :: s101 :: s102 :: s103 :: s104 :: s105 :: s106 :: s107 :: s108 :: s109 :: s110 :: s111 :: s112 :: s113 :: s114 :: s115 :: s116 :: s117 :: s118 :: s119 :: s120 :: s121 :: s122 :: s123 :: s124 :: s125 :: s126 :: []).toArray, []⟩ w4) :
    Code.wp Try.prog r15 (Exit.then K (fun _ _ _ => False)) ⟨(s0 :: s1 :: s2 :: .pointer (some ⟨q, 0, none⟩) :: .pointer none :: .pointer (some ⟨ob, 0, none⟩) :: .pointer (some ⟨ob + 1, 0, none⟩) :: s7 :: .pointer (some ⟨ab, 0, none⟩) :: s9 :: s10 :: s11 :: s12 :: s13 :: s14 :: s15 :: s16 :: s17 :: s18 :: s19 :: s20 :: s21 :: s22 :: s23 :: s24 :: s25 :: s26 :: s27 :: s28 :: s29 :: s30 :: s31 :: s32 :: s33 :: s34 :: s35 :: s36 :: s37 :: s38 :: s39 :: s40 :: s41 :: s42 :: s43 :: s44 :: s45 :: s46 :: s47 :: s48 :: s49 :: s50 :: s51 :: s52 :: s53 :: s54 :: s55 :: s56 :: s57 :: s58 :: s59 :: s60 :: s61 :: s62 :: s63 :: s64 :: s65 :: s66 :: s67 :: s68 :: s69 :: s70 :: s71 :: s72 :: s73 :: s74 :: s75 :: s76 :: s77 :: s78 :: s79 :: s80 :: s81 :: s82 :: s83 :: s84 :: s85 :: s86 :: s87 :: s88 :: s89 :: s90 :: s91 :: s92 :: s93 :: s94 :: s95 :: s96 :: s97 :: s98 :: s99 :: s100 :: s101 :: s102 :: s103 :: s104 :: s105 :: s106 :: s107 :: s108 :: s109 :: s110 :: s111 :: s112 :: s113 :: s114 :: s115 :: s116 :: s117 :: s118 :: s119 :: s120 :: s121 :: s122 :: s123 :: s124 :: s125 :: s126 :: []).toArray, []⟩ w := by
  have HQ := Lib.hid hQ
  have hlo := hS.lo
  have hln := hS.len
  have hSd : St w.drew q m ob k f l v := hS.fr0 ((Fr.refl [] w).drew)
  have HSD := Lib.hid hSd
  have hg1 : ∀ W, QAt W q m k f → Calls Try.prog 11 #[.pointer (some ⟨q, 0, none⟩), .string nm, .int .i64 mo] W fun e w' => e = .returned (.bool (decide ((f nm.data.toList : Int) < mo))) ∧ QAt w' q m (k + 1) (takeF f nm.data.toList mo) ∧ Fr [m] W w' := fun W hW => take_any q m k f nm hs mo W hW (by omega)
  have hg2 : ∀ W, RefAt W (ob + 2) (ob + 1) v l → ob + 2 ≤ W.heap.size → Calls Try.prog 13 #[.pointer (some ⟨ob + 1, 0, none⟩), .string nm, .int .i64 mo] W fun e w' => e = .returned (.bool (decide ((cnt l nm : Int) < mo))) ∧ ∃ v', RefAt w' (ob + 2) (ob + 1) v' (if (cnt l nm : Int) < mo then l ++ [nm] else l) ∧ Fr ((ob + 1) :: v.ownBlock.toList) W w' ∧ (∀ g, v'.ownBlock = some g → v.ownBlock = some g ∨ W.heap.size ≤ g) := fun W hW hz => refTake_calls (ob + 2) (ob + 1) v l nm mo W hW (by omega) hz
  have hbb : decide ((cnt l nm : Int) < mo) = decide ((f nm.data.toList : Int) < mo) := by rw [hS.cn nm]
  rw [hbb] at hg2
  obtain ⟨b, hb⟩ : ∃ b, decide ((f nm.data.toList : Int) < mo) = b := ⟨_, rfl⟩
  rw [hb] at hg1 hg2
  have HG1 := Lib.hid hg1
  have HG2 := Lib.hid hg2
  have HG3 := Lib.hid (fun W => take_none (none_nil W) nm mo)
  have HG4 := Lib.hid (fun W (hW : Blk W ob 36 #[.map none]) => take_none (none_odd ob W hW) nm mo)
  have hown : ∀ g, v.ownBlock = some g → ob + 2 ≤ g ∧ g < w.heap.size := fun g hg => ⟨hS.own_ge hg, hS.own_lt hg⟩
  have HOWN := Lib.hid hown
  have HABV := Lib.hid habv
  have hcs : ∀ L W, Fr L w W → ab ∉ L → W.cell? ⟨ab, 1, none⟩ = some (.string nm) ∧ W.cell? ⟨ab, 2, none⟩ = some (.int .i64 mo) := fun L W hf hn => ⟨(hf.cell (p := ⟨ab, 1, none⟩) hab hn).trans ha1, (hf.cell (p := ⟨ab, 2, none⟩) hab hn).trans ha2⟩
  have HCS := Lib.hid hcs
  have hC1 : w.drew.cell? ⟨ab, 1, none⟩ = some (.string nm) ∧ w.drew.cell? ⟨ab, 2, none⟩ = some (.int .i64 mo) := ⟨ha1, ha2⟩
  have hnv : ab ∉ m :: (ob + 1) :: v.ownBlock.toList := fun hm => by
    simp at hm
    rcases hm with hm | hm | hm
    · omega
    · omega
    · exact habv ab hm rfl
  have HNV := Lib.hid hnv
  have hfa : ∀ W, Fr [m] w.drew W → Fr (m :: (ob + 1) :: v.ownBlock.toList) w W := fun W hf => ((Fr.refl (m :: (ob + 1) :: v.ownBlock.toList) w).drew).trans hf (fun x hx => .inl (by simp at hx; simp [hx]))
  have hfb : ∀ W W', Fr [m] w.drew W → Fr ((ob + 1) :: v.ownBlock.toList) W W' → Fr (m :: (ob + 1) :: v.ownBlock.toList) w W' := fun W W' hf hf' => (hfa W hf).trans hf' (fun x hx => .inl (List.mem_cons_of_mem _ hx))
  have hra : ∀ W, Fr [m] w.drew W → RefAt W (ob + 2) (ob + 1) v l ∧ ob + 2 ≤ W.heap.size := fun W hf => ⟨hSd.ref.fr hf (by simp; omega) (fun g hg hm => by simp at hm; have := hown g hg; omega), Nat.le_trans hSd.lo.2.2.2 hf.size⟩
  have hod : ∀ W W', Fr [m] w.drew W → Fr ((ob + 1) :: v.ownBlock.toList) W W' → Blk W' ob 36 #[.map none] := fun W W' hf hf' => hf'.blk (hf.blk hSd.odd (by simp; omega)) (fun hm => by
    simp at hm
    have := hown ob hm; omega)
  have HFA := Lib.hid hfa
  have HFB := Lib.hid hfb
  have HRA := Lib.hid hra
  have HOD := Lib.hid hod
  clear hQ hS hSd hg1 hg2 hbb hb hown habv hcs ha1 ha2 hnv hfa hfb hra hod
  conv => arg 2; whnf
  go_region_held3 (fun w' => w'.cell? ⟨ab, 1, none⟩ = some (.string nm) ∧ w'.cell? ⟨ab, 2, none⟩ = some (.int .i64 mo)) (first | exact hC1 | exact hC2 | exact hC3) (first
    | (go_at_call 11; (with_reducible refine (HG1.out w.drew HSD.out.qa).mono ?_); rintro e w4 ⟨rfl, hq4, hf4⟩; have hC2 := HCS.out _ w4 (HFA.out w4 hf4) HNV.out)
    | (go_at_call 13; (with_reducible refine (HG2.out w4 (HRA.out w4 hf4).1 (HRA.out w4 hf4).2).mono ?_); rintro e w5 ⟨rfl, v', hr5, hf5, hv5⟩; have hC3 := HCS.out _ w5 (HFB.out w4 w5 hf4 hf5) HNV.out)
    | (go_at_call 11; (with_reducible refine (HG3.out w5).mono ?_); rintro e w6 ⟨rfl, rfl⟩)
    | (go_at_call 11; (with_reducible refine (HG4.out w5 (HOD.out w4 w5 hf4 hf5)).mono ?_); rintro e w6 ⟨rfl, rfl⟩))
  exact HQ.out w5 v' _ _ _ _ _ _ _ _ _ _ _ _ _ _ _ _ _ _ _ _ _ _ _ _ _ _ _ _ (HSD.out.take hq4 hf4 hr5 hf5) (HFB.out w4 w5 hf4 hf5) (fun g hg => (hv5 g hg).imp id (fun h => Nat.le_trans hf4.size h))

set_option maxRecDepth 1000000 in
set_option maxHeartbeats 4000000 in
theorem r18_wp (q m ob k ab : Nat) (f : Bs → Nat) (l : List ByteArray) (v : Value) (nm : ByteArray) (K : List ByteArray) (A : Option Addr) (c : Nat) {Kt : Act → World → Prop} (w : World)
    {s0 s1 s2 s4 s5 s7 s10 s11 s12 s13 s14 s15 s16 s17 s18 s19 s20 s21 s22 s23 s24 s25 s26 s27 s28 s29 s30 s31 s32 s33 s34 s35 s36 s37 s38 s39 s40 s41 s42 s43 s44 s45 s46 s47 s48 s49 s50 s51 s52 s53 s54 s55 s56 s57 s58 s59 s60 s61 s62 s63 s64 s65 s66 s67 s68 s69 s70 s71 s72 s73 s74 s75 s76 s77 s78 s79 s80 s81 s82 s83 s84 s85 s86 s87 s88 s89 s90 s91 s92 s93 s94 s95 s96 s97 s98 s99 s100 s101 s102 s103 s104 s105 s106 s107 s108 s109 s110 s111 s112 s113 s114 s115 s116 s117 s118 s119 s120 s121 s122 s123 s124 s125 s126 : Value}
    (hS : St w q m ob k f l v) (hk : k ≤ 1000) (hs : nm.size ≤ maxLen) (ha1 : w.cell? ⟨ab, 1, none⟩ = some (.string nm)) (hab : ab < w.heap.size) (hKs : K.Pairwise (fun a b => ltB a b = true)) (hKm : ∀ s : ByteArray, s ∈ K ↔ 0 < f s.data.toList) (hKl : K.length ≤ 1000) (hKA : StrsAt w A K (fun _ => True))
    (hQ : ∀ (w4 : World) (c84 c85 c86 c87 c88 c89 c90 c91 c92 c93 c94 c95 c96 c97 c98 : Value), Fr [] w w4 → Kt ⟨(s0 :: s1 :: s2 :: .pointer (some ⟨q, 0, none⟩) :: s4 :: s5 :: .pointer (some ⟨ob + 1, 0, none⟩) :: s7 :: .pointer (some ⟨ab, 0, none⟩) :: .slice A K.length c :: s10 :: s11 :: s12 :: s13 :: s14 :: s15 :: s16 :: s17 :: s18 :: s19 :: s20 :: s21 :: s22 :: s23 :: s24 :: s25 :: s26 :: s27 :: s28 :: s29 :: s30 :: s31 :: s32 :: s33 :: s34 :: s35 :: s36 :: s37 :: s38 :: s39 :: s40 :: s41 :: s42 :: s43 :: s44 :: s45 :: s46 :: s47 :: s48 :: s49 :: s50 :: s51 :: s52 :: s53 :: s54 :: s55 :: s56 :: s57 :: s58 :: s59 :: s60 :: s61 :: s62 :: s63 :: s64 :: s65 :: s66 :: s67 :: s68 :: s69 :: s70 :: s71 :: s72 :: s73 :: s74 :: s75 :: s76 :: s77 :: s78 :: s79 :: s80 :: s81 :: s82 :: s83 :: c84 :: c85 :: c86 :: c87 :: c88 :: c89 :: c90 :: c91 :: c92 :: c93 :: c94 :: c95 :: c96 :: c97 :: c98 :: .bool false :: s100 :: s101 :: s102 :: s103 :: s104 :: s105 :: s106 :: s107 :: s108 :: s109 :: s110 :: s111 :: s112 :: s113 :: s114 :: s115 :: s116 :: s117 :: s118 :: s119 :: s120 :: s121 :: s122 :: s123 :: s124 :: s125 :: s126 :: []).toArray, []⟩ w4) :
    Code.wp Try.prog r18 (Exit.then Kt (fun _ _ _ => False)) ⟨(s0 :: s1 :: s2 :: .pointer (some ⟨q, 0, none⟩) :: s4 :: s5 :: .pointer (some ⟨ob + 1, 0, none⟩) :: s7 :: .pointer (some ⟨ab, 0, none⟩) :: .slice A K.length c :: s10 :: s11 :: s12 :: s13 :: s14 :: s15 :: s16 :: s17 :: s18 :: s19 :: s20 :: s21 :: s22 :: s23 :: s24 :: s25 :: s26 :: s27 :: s28 :: s29 :: s30 :: s31 :: s32 :: s33 :: s34 :: s35 :: s36 :: s37 :: s38 :: s39 :: s40 :: s41 :: s42 :: s43 :: s44 :: s45 :: s46 :: s47 :: s48 :: s49 :: s50 :: s51 :: s52 :: s53 :: s54 :: s55 :: s56 :: s57 :: s58 :: s59 :: s60 :: s61 :: s62 :: s63 :: s64 :: s65 :: s66 :: s67 :: s68 :: s69 :: s70 :: s71 :: s72 :: s73 :: s74 :: s75 :: s76 :: s77 :: s78 :: s79 :: s80 :: s81 :: s82 :: s83 :: s84 :: s85 :: s86 :: s87 :: s88 :: s89 :: s90 :: s91 :: s92 :: s93 :: s94 :: s95 :: s96 :: s97 :: s98 :: s99 :: s100 :: s101 :: s102 :: s103 :: s104 :: s105 :: s106 :: s107 :: s108 :: s109 :: s110 :: s111 :: s112 :: s113 :: s114 :: s115 :: s116 :: s117 :: s118 :: s119 :: s120 :: s121 :: s122 :: s123 :: s124 :: s125 :: s126 :: []).toArray, []⟩ w := by
  have HQ := Lib.hid hQ
  have hln := hS.len
  have HS := Lib.hid hS
  have hm : ∀ s, s ∈ K ↔ s ∈ l := fun s => by
    rw [hKm, hS.cn]
    unfold cnt
    rw [List.countP_pos_iff]
    exact ⟨fun ⟨a, ha, hb⟩ => (bytes_beq_iff _ _).1 hb ▸ ha, fun ha => ⟨s, ha, (bytes_beq_iff _ _).2 rfl⟩⟩
  have HN := Lib.hid (fun W (hf : Fr [] w W) => refNames_calls K (ob + 2) (ob + 1) v l W (hS.fr0 hf).ref (by omega) hKl hKs hm)
  have HSM := Lib.hid (fun A' c' W (hf : Fr [] w W) h2 => refSame_calls K A A' c c' W (hKA.fr hf (by simp)) h2 (by omega))
  have hmn : ∀ W, Fr [] w W → Calls Try.prog 9 #[.pointer (some ⟨q, 0, none⟩), .string nm] W fun e w' => e = .returned (.int .i64 (cnt l nm)) ∧ W = w' := fun W hf => by
    rw [← hS.cn nm]
    exact many_calls q m k f nm hs W (hS.fr0 hf).qa
  have HMN := Lib.hid hmn
  have HMR := Lib.hid (fun W (hf : Fr [] w W) => refMany_calls (ob + 2) (ob + 1) v l nm W (hS.fr0 hf).ref (by omega))
  obtain ⟨n, hn⟩ : ∃ n, cnt l nm = n := ⟨_, rfl⟩
  rw [hn] at HMN HMR
  obtain ⟨kl, hkl⟩ : ∃ kl, K.length = kl := ⟨_, rfl⟩
  have hcs : ∀ W, Fr [] w W → W.cell? ⟨ab, 1, none⟩ = some (.string nm) := fun W hf => (hf.cell (p := ⟨ab, 1, none⟩) hab (by simp)).trans ha1
  have HCS := Lib.hid hcs
  have HD : Hid (Fr [] w w.drew) := Lib.hid ((Fr.refl [] w).drew)
  have hC1 : w.drew.cell? ⟨ab, 1, none⟩ = some (.string nm) := ha1
  clear hQ hS hm hmn hn hkl hcs ha1 hKs hKm hKA
  conv => arg 2; whnf
  go_region_held3 (fun w' => w'.cell? ⟨ab, 1, none⟩ = some (.string nm)) (first | exact hC1 | exact hC2 | exact hC3) (first
    | (go_at_call 16; (with_reducible refine (HN.out w.drew HD.out).mono ?_); rintro e w4 ⟨A', c', rfl, ho4, hf4⟩; have hF4 := HD.out.trans hf4 (by simp); have hC2 := HCS.out w4 hF4)
    | (go_at_call 15; (with_reducible refine (HSM.out A' c' w4 hF4 (by obtain ⟨A2, c2, e2, h2⟩ := strs_of_own ho4; injection e2 with e2; subst e2; exact h2.any)).mono ?_); rintro e w5 ⟨rfl, hf5⟩; have hF5 := hF4.trans hf5 (by simp); have hC3 := HCS.out w5 hF5)
    | (go_at_call 9; (with_reducible refine (HMN.out w5 hF5).mono ?_); rintro e w6 ⟨rfl, rfl⟩)
    | (go_at_call 17; (with_reducible refine (HMR.out w5 hF5).mono ?_); rintro e w6 ⟨rfl, rfl⟩))
  exact HQ.out w5 _ _ _ _ _ _ _ _ _ _ _ _ _ _ _ hF5

end Go.Proofs.Ytlhogpnfongfmaa
