/-
  QuotaPlays' walk.
-/
import Derived.Test.YtlhogpnfongfmaaQReg
import Derived.Test.YtlhogpnfongfmaaGreat
namespace Go.Proofs.Ytlhogpnfongfmaa
open Go.RowKit Go.Maps
set_option linter.unusedVariables false

/-- A row that may be written. -/
def RowW (w : World) (A : Option Addr) (n : Nat) : Prop := 0 < n → ∃ g cur, A = some ⟨g, 0, none⟩ ∧ Blk w g 9 cur ∧ n ≤ cur.size
theorem rowW_of_own {w : World} {base : Nat} {A : Option Addr} {n c : Nat} {xs : List Value} (h : w.ownsRow base 9 1 (.slice A n c) n xs) : RowW w A n := fun hp => by
  rcases h.2 with ⟨_, h0⟩ | ⟨g, cap, cur, e, hb, hblk, hnc, _, hsz, htk⟩
  · omega
  · injection e with e
    refine ⟨g, cur, e, hblk, ?_⟩
    have h1 := congrArg List.length htk
    rw [List.length_take, h.1] at h1
    simp at h1
    omega
theorem great_no {l : List ActD} (h : greatB l = false) : l.length ≤ 200 ∧ ∀ (i : Nat) (a : ActD), l[i]? = some a → a.name.size ≤ 50 := by
  unfold greatB at h
  rw [Bool.or_eq_false_iff] at h
  refine ⟨by simpa using h.1, fun i a ha => ?_⟩
  have h2 := h.2
  rw [List.any_eq_false] at h2
  have := h2 a (List.mem_of_getElem? ha)
  simpa using this

set_option maxRecDepth 100000 in
set_option maxHeartbeats 8000000 in
theorem plays_calls (A : Option Addr) (c : Nat) (l : List ActD) (w : World) (h : Acts w w.heap.size A l) (hl : l.length ≤ 9223372036854775807) :
    Calls Try.prog 5 #[.slice A l.length c] w fun e w' => e = .returned (.bool true) ∧ Fr [] w w' := by
  have HG := Lib.hid (great_calls A c l w.heap.size w h hl)
  cases hg : greatB l with
  | true =>
    rw [hg] at HG
    clear hg h
    go_enter Try.func5, Try.ntmps5
    go_wp2_with fail
    refine HG.out.mono ?_
    rintro e w2 ⟨rfl, rfl⟩
    go_wp2_with fail
    go_ret
    exact ⟨rfl, Fr.refl _ _⟩
  | false =>
    obtain ⟨hlen, hnames⟩ := great_no hg
    rw [hg] at HG
    have HN := Lib.hid hnames
    have HA := Lib.hid h
    clear hnames hg h
    go_enter Try.func5, Try.ntmps5
    go_wp2_with fail
    refine HG.out.mono ?_
    rintro e w2 ⟨rfl, rfl⟩
    go_wp2_with fail
    refine (new_calls _).mono ?_
    rintro e w3 ⟨q, m, rfl, h0, hf3, hq, hm⟩
    obtain ⟨ob, hob⟩ : ∃ ob, w3.heap.size = ob := ⟨_, rfl⟩
    obtain ⟨wb, hwb⟩ : ∃ wb, (w3.alloc (.cells #[.map none] 36)).alloc (.cells #[.slice none 0 0] 40) = wb := ⟨_, rfl⟩
    have hfb : Fr [] w3 wb := by rw [← hwb]; exact ((Fr.refl [] w3).alloc _).alloc _
    have hzb : wb.heap.size = ob + 2 := by rw [← hwb, ← hob]; simp
    have hob1 : Blk wb ob 36 #[.map none] := by rw [← hwb, ← hob]; exact (Blk.new w3 36 _).alloc _
    have hob2 : Blk wb (ob + 1) 40 #[.slice none 0 0] := by
      have := Blk.new (w3.alloc (.cells #[.map none] 36)) 40 #[.slice none 0 0]
      have hz : (w3.alloc (.cells #[.map none] 36)).heap.size = ob + 1 := by rw [← hob]; simp
      rw [hz, hwb] at this
      exact this
    have hS0 : St wb q m ob 0 (fun _ => 0) [] (.slice none 0 0) :=
      ⟨h0.fr hfb (by simp) (by simp), hob1, ⟨hob2, World.ownsRow_nil _ _ _ _, fun g hg => by simp [Value.ownBlock] at hg⟩, fun s => rfl, Nat.le_refl _, ⟨by rw [← hob]; exact h0.blk.lt, by rw [← hob]; exact h0.map.lt, h0.ne, by omega⟩⟩
    have HS0 := Lib.hid hS0
    have HF0 := Lib.hid (hf3.trans hfb (by simp))
    have HOB := Lib.hid hob
    have HWB := Lib.hid hwb
    have HGE := Lib.hid (show w.heap.size ≤ q ∧ w.heap.size ≤ m ∧ w.heap.size ≤ ob from ⟨hq, hm, by rw [← hob]; exact hf3.size⟩)
    clear h0 hf3 hq hm hob hwb hfb hzb hob1 hob2 hS0
    go_upto_region 8 with fail
    rw [HOB.out, HWB.out]
    go_wp2_with fail
    go_loopw [7] (fun i wr => ∃ (k : Nat) (f : Bs → Nat) (lt : List ByteArray) (v : Value), k ≤ l.length ∧ i = .int .i64 k ∧ St wr q m ob k f lt v ∧ Fr [] w wr) (fun i _ => l.length - (intOf i).toNat)
    case atStart => exact ⟨0, _, _, _, Nat.zero_le _, rfl, HS0.out, HF0.out⟩
    case round =>
      obtain ⟨k, f, lt, v, hk, rfl, hS, hfr⟩ := hrel
      by_cases hlt : k < l.length
      · obtain ⟨b, off, rfl, hb, hc⟩ := (HA.out.fr hfr (Nat.le_refl _) (by simp)) (by omega)
        obtain ⟨⟨g, nm, mo⟩, ha⟩ : ∃ a, l[k]? = some a := ⟨_, List.getElem?_eq_getElem hlt⟩
        obtain ⟨c0, c1, c2⟩ := hc k _ ha
        have hns := HN.out k _ ha
        have hs : nm.size ≤ maxLen := by unfold maxLen; simp only at hns; omega
        simp only at c0 c1 c2 hns
        have hlo := hS.lo
        have hSa : St (wr.alloc (.cells #[.bool g, .string nm, .int .i64 mo] 28)) q m ob k f lt v := hS.fr0 ((Fr.refl [] wr).alloc _)
        have HSA := Lib.hid hSa
        have HFA := Lib.hid (hfr.alloc (.cells #[.bool g, .string nm, .int .i64 mo] 28))
        have HAB := Lib.hid (Blk.new wr 28 #[.bool g, .string nm, .int .i64 mo])
        have HVO := Lib.hid (fun g (hg : v.ownBlock = some g) => hS.own_ge hg)
        have HVA := Lib.hid (show ∀ g, v.ownBlock = some g → g ≠ wr.heap.size from fun g hg e => by have := hS.own_lt hg; omega)
        clear hc ha hS hfr hSa
        cases g with
        | true =>
          go_wp2_with fail
          refine wp_only (r13_wp q m ob k wr.heap.size f lt v nm _ HSA.out (by omega) hs (HAB.out.cell 1) HAB.out.lt (by omega) HVA.out ?_)
          intro w4 v' d32 d33 d34 d35 d36 d37 d38 d39 d40 d41 d42 d43 d44 d45 d46 d47 d48 d49 d50 d51 hS4 hf4 hv4
          have HF4 := Lib.hid hf4
          have HV4 := Lib.hid hv4
          have HS4 := Lib.hid hS4
          have hlo4 := hS4.lo
          have hfw4 : Fr [] w w4 := HFA.out.trans hf4 (fun x hx => .inr (by
            simp at hx
            have := HGE.out
            rcases hx with hx | hx | hx
            · omega
            · omega
            · have := HVO.out x hx; omega))
          have HFW4 := Lib.hid hfw4
          have hab4 : wr.heap.size < w4.heap.size := Nat.lt_of_lt_of_le HAB.out.lt hf4.size
          have hn4 : wr.heap.size ∉ m :: (ob + 1) :: v.ownBlock.toList := fun hm => by
            simp at hm
            rcases hm with hm | hm | hm
            · omega
            · omega
            · exact HVA.out _ hm rfl
          have hab41 : w4.cell? ⟨wr.heap.size, 1, none⟩ = some (.string nm) := (hf4.cell (p := ⟨wr.heap.size, 1, none⟩) HAB.out.lt hn4).trans (HAB.out.cell 1)
          have HAB41 := Lib.hid hab41
          have HNM := Lib.hid (names_calls q m (k + 1) _ w4 hS4.qa (by omega))
          clear hf4 hv4 hS4 hfw4 hn4 hab41
          go_wp2_with fail
          refine HNM.out.mono ?_
          rintro e w5 ⟨vn, K, rfl, hown, hKs, hKm, hKl, hf5⟩
          obtain ⟨An, cn, rfl, hstr⟩ := strs_of_own hown
          have HOW := Lib.hid hown
          have HK := Lib.hid (And.intro hKs hKm)
          have HSTR := Lib.hid hstr
          have HF5 := Lib.hid hf5
          have hz5 : wr.heap.size < w5.heap.size := Nat.lt_of_lt_of_le hab4 hf5.size
          clear hown hKs hKm hstr hf5
          go_wp2_with fail
          refine wp_only (r18_wp q m ob (k + 1) wr.heap.size (giveF f nm.data.toList) (del1 lt nm) v' nm K An cn w5 (HS4.out.fr0 HF5.out) (by omega) hs ((HF5.out.cell (p := ⟨wr.heap.size, 1, none⟩) hab4 (by simp)).trans HAB41.out) hz5 HK.out.1 HK.out.2 (by omega) HSTR.out.any ?_)
          intro w6 d84 d85 d86 d87 d88 d89 d90 d91 d92 d93 d94 d95 d96 d97 d98 hf6
          have hrow6 : RowW w6 An K.length := fun hp => by
            obtain ⟨g, cur, e, hB, hsz⟩ := rowW_of_own HOW.out hp
            exact ⟨g, cur, e, hf6.blk hB (by simp), hsz⟩
          have HROW6 := Lib.hid hrow6
          have HF6 := Lib.hid hf6
          have HL := Lib.hid (fun x (hx : x ∈ (Value.slice An K.length cn).ownBlock.toList) => Ytlhogpnfongfmaa.own_ge HOW.out (by simpa using hx))
          clear hf6 hrow6
          go_wp2_with fail
          go_loopw [10] (fun i w7 => ∃ u : Nat, u ≤ K.length ∧ i = .int .i64 u ∧ RowW w7 An K.length ∧ Fr (Value.slice An K.length cn).ownBlock.toList w6 w7) (fun i _ => K.length - (intOf i).toNat)
          case atStart => exact ⟨0, Nat.zero_le _, rfl, HROW6.out, Fr.refl _ _⟩
          case round =>
            obtain ⟨u, hu, rfl, hrw, hf7⟩ := hrel
            have HF7 := Lib.hid hf7
            have HRW := Lib.hid hrw
            clear hf7 hrw
            by_cases hul : u < K.length
            · obtain ⟨g, cur, rfl, hB, hsz⟩ := HRW.out (by omega)
              obtain ⟨x0, hx0⟩ : ∃ x0, cur[u]? = some x0 := ⟨_, Array.getElem?_eq_getElem (by omega)⟩
              have hce : wr.cell? ⟨g, u, none⟩ = some x0 := (hB.cell u).trans hx0
              have hfz := hB.frozen u
              have HB := Lib.hid (And.intro hB hsz)
              clear hB hsz hx0
              go_wp2_with fail
              go_roundw
              case rel => exact ⟨u + 1, by omega, by go_num, fun _ => ⟨g, _, rfl, HB.out.1.set_ u _, by simpa using HB.out.2⟩, HF7.out.setCell (.inl (by simp [Value.ownBlock])) _⟩
              case measure => simp [intOf]; omega
            · obtain rfl : u = K.length := by omega
              have hS7 := (((HS4.out.fr0 HF5.out).fr0 HF6.out).fr HF7.out w4.heap.size hlo4.2.2.2 (fun g hg => HS4.out.own_lt hg) HL.out)
              have hF7 := ((HFW4.out.trans HF5.out (by simp)).trans HF6.out (by simp)).trans HF7.out (fun x hx => .inr (Nat.le_trans HFW4.out.size (HL.out x hx)))
              have HALL := Lib.hid (And.intro hS7 hF7)
              clear hS7 hF7
              go_wp2_with fail
              go_roundw
              case rel => exact ⟨k + 1, _, _, _, by omega, by go_num, HALL.out.1, HALL.out.2⟩
              case measure => simp [intOf]; omega
        | false =>
          go_wp2_with fail
          refine wp_only (r15_wp q m ob k wr.heap.size f lt v nm mo _ HSA.out (by omega) hs (HAB.out.cell 1) (HAB.out.cell 2) HAB.out.lt (by omega) HVA.out ?_)
          intro w4 v' d53 d54 d55 d56 d57 d58 d59 d60 d61 d62 d63 d64 d65 d66 d67 d68 d69 d70 d71 d72 d73 d74 d75 d76 d77 d78 d79 d80 hS4 hf4 hv4
          have HF4 := Lib.hid hf4
          have HV4 := Lib.hid hv4
          have HS4 := Lib.hid hS4
          have hlo4 := hS4.lo
          have hfw4 : Fr [] w w4 := HFA.out.trans hf4 (fun x hx => .inr (by
            simp at hx
            have := HGE.out
            rcases hx with hx | hx | hx
            · omega
            · omega
            · have := HVO.out x hx; omega))
          have HFW4 := Lib.hid hfw4
          have hab4 : wr.heap.size < w4.heap.size := Nat.lt_of_lt_of_le HAB.out.lt hf4.size
          have hn4 : wr.heap.size ∉ m :: (ob + 1) :: v.ownBlock.toList := fun hm => by
            simp at hm
            rcases hm with hm | hm | hm
            · omega
            · omega
            · exact HVA.out _ hm rfl
          have hab41 : w4.cell? ⟨wr.heap.size, 1, none⟩ = some (.string nm) := (hf4.cell (p := ⟨wr.heap.size, 1, none⟩) HAB.out.lt hn4).trans (HAB.out.cell 1)
          have HAB41 := Lib.hid hab41
          have HNM := Lib.hid (names_calls q m (k + 1) _ w4 hS4.qa (by omega))
          clear hf4 hv4 hS4 hfw4 hn4 hab41
          go_wp2_with fail
          refine HNM.out.mono ?_
          rintro e w5 ⟨vn, K, rfl, hown, hKs, hKm, hKl, hf5⟩
          obtain ⟨An, cn, rfl, hstr⟩ := strs_of_own hown
          have HOW := Lib.hid hown
          have HK := Lib.hid (And.intro hKs hKm)
          have HSTR := Lib.hid hstr
          have HF5 := Lib.hid hf5
          have hz5 : wr.heap.size < w5.heap.size := Nat.lt_of_lt_of_le hab4 hf5.size
          clear hown hKs hKm hstr hf5
          go_wp2_with fail
          refine wp_only (r18_wp q m ob (k + 1) wr.heap.size (takeF f nm.data.toList mo) (if (cnt lt nm : Int) < mo then lt ++ [nm] else lt) v' nm K An cn w5 (HS4.out.fr0 HF5.out) (by omega) hs ((HF5.out.cell (p := ⟨wr.heap.size, 1, none⟩) hab4 (by simp)).trans HAB41.out) hz5 HK.out.1 HK.out.2 (by omega) HSTR.out.any ?_)
          intro w6 d84 d85 d86 d87 d88 d89 d90 d91 d92 d93 d94 d95 d96 d97 d98 hf6
          have hrow6 : RowW w6 An K.length := fun hp => by
            obtain ⟨g, cur, e, hB, hsz⟩ := rowW_of_own HOW.out hp
            exact ⟨g, cur, e, hf6.blk hB (by simp), hsz⟩
          have HROW6 := Lib.hid hrow6
          have HF6 := Lib.hid hf6
          have HL := Lib.hid (fun x (hx : x ∈ (Value.slice An K.length cn).ownBlock.toList) => Ytlhogpnfongfmaa.own_ge HOW.out (by simpa using hx))
          clear hf6 hrow6
          go_wp2_with fail
          go_loopw [10] (fun i w7 => ∃ u : Nat, u ≤ K.length ∧ i = .int .i64 u ∧ RowW w7 An K.length ∧ Fr (Value.slice An K.length cn).ownBlock.toList w6 w7) (fun i _ => K.length - (intOf i).toNat)
          case atStart => exact ⟨0, Nat.zero_le _, rfl, HROW6.out, Fr.refl _ _⟩
          case round =>
            obtain ⟨u, hu, rfl, hrw, hf7⟩ := hrel
            have HF7 := Lib.hid hf7
            have HRW := Lib.hid hrw
            clear hf7 hrw
            by_cases hul : u < K.length
            · obtain ⟨g, cur, rfl, hB, hsz⟩ := HRW.out (by omega)
              obtain ⟨x0, hx0⟩ : ∃ x0, cur[u]? = some x0 := ⟨_, Array.getElem?_eq_getElem (by omega)⟩
              have hce : wr.cell? ⟨g, u, none⟩ = some x0 := (hB.cell u).trans hx0
              have hfz := hB.frozen u
              have HB := Lib.hid (And.intro hB hsz)
              clear hB hsz hx0
              go_wp2_with fail
              go_roundw
              case rel => exact ⟨u + 1, by omega, by go_num, fun _ => ⟨g, _, rfl, HB.out.1.set_ u _, by simpa using HB.out.2⟩, HF7.out.setCell (.inl (by simp [Value.ownBlock])) _⟩
              case measure => simp [intOf]; omega
            · obtain rfl : u = K.length := by omega
              have hS7 := (((HS4.out.fr0 HF5.out).fr0 HF6.out).fr HF7.out w4.heap.size hlo4.2.2.2 (fun g hg => HS4.out.own_lt hg) HL.out)
              have hF7 := ((HFW4.out.trans HF5.out (by simp)).trans HF6.out (by simp)).trans HF7.out (fun x hx => .inr (Nat.le_trans HFW4.out.size (HL.out x hx)))
              have HALL := Lib.hid (And.intro hS7 hF7)
              clear hS7 hF7
              go_wp2_with fail
              go_roundw
              case rel => exact ⟨k + 1, _, _, _, by omega, by go_num, HALL.out.1, HALL.out.2⟩
              case measure => simp [intOf]; omega
      · have HODD := Lib.hid hS.odd
        have HFR := Lib.hid hfr
        clear hS hfr
        go_wp2_with fail
        refine (many_none (none_nil _) _).mono ?_
        rintro e w4 ⟨rfl, rfl⟩
        go_wp2_with fail
        refine (many_none (none_odd ob _ HODD.out) _).mono ?_
        rintro e w4 ⟨rfl, rfl⟩
        go_wp2_with fail
        refine (names_none (none_nil _)).mono ?_
        rintro e w4 ⟨rfl, rfl⟩
        go_wp2_with fail
        refine (names_none (none_odd ob _ HODD.out)).mono ?_
        rintro e w4 ⟨rfl, rfl⟩
        go_wp2_with fail
        go_ret
        exact ⟨rfl, HFR.out⟩

end Go.Proofs.Ytlhogpnfongfmaa
