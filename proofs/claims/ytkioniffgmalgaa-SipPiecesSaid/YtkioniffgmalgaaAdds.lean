/-
  SipAdds' walk.
-/
import Derived.Test.YtkioniffgmalgaaSums
namespace Go.Proofs.Ytkioniffgmalgaa
open Go.RowKit Sp
set_option linter.unusedVariables false

/-- A piece: where it lies, its capacity, its bytes. -/
structure Piece where
  at_ : Option Addr
  cap : Nat
  xs : List Int
/-- The slice of slices at A reads as ps. -/
def PiecesAt (w : World) (A : Option Addr) (ps : List Piece) : Prop :=
  (0 < ps.length → ∃ b off, A = some ⟨b, off, none⟩ ∧ b < w.heap.size ∧ ∀ (i : Nat) (p : Piece), ps[i]? = some p → w.cell? ⟨b, off + i, none⟩ = some (.slice p.at_ p.xs.length p.cap)) ∧
  ∀ p ∈ ps, BytesAt w p.at_ p.xs (fun _ => True) ∧ Byts p.xs ∧ p.xs.length ≤ 9223372036854775807
/-- All bytes of the first k pieces. -/
def allOf (ps : List Piece) (k : Nat) : List Int := ((ps.take k).map (·.xs)).flatten
theorem allOf_succ (ps : List Piece) (k : Nat) (p : Piece) (h : ps[k]? = some p) : allOf ps (k + 1) = allOf ps k ++ p.xs := by
  unfold allOf
  rw [List.take_add_one, h]
  simp
theorem byts_append {a b : List Int} (ha : Byts a) (hb : Byts b) : Byts (a ++ b) := by
  intro i
  simp only [List.getD_eq_getElem?_getD, List.getElem?_append]
  split
  · have := ha i; rwa [List.getD_eq_getElem?_getD] at this
  · have := hb (i - a.length); rwa [List.getD_eq_getElem?_getD] at this
theorem allOf_byts {ps : List Piece} (h : ∀ p ∈ ps, Byts p.xs) : ∀ k, Byts (allOf ps k)
  | 0 => byts_nil
  | k + 1 => by
    cases hp : ps[k]? with
    | none =>
      have : allOf ps (k + 1) = allOf ps k := by unfold allOf; rw [List.take_add_one, hp]; simp
      rw [this]; exact allOf_byts h k
    | some p => rw [allOf_succ ps k p hp]; exact byts_append (allOf_byts h k) (h p (List.mem_of_getElem? hp))
/-- A hash that nobody made. -/
def oddC : Array Value := #[.bool false, .int .u64 0, .int .u64 0, .int .u64 0, .int .u64 0, .int .u8 0, .int .u8 0, .int .u8 0, .int .u8 0, .int .u8 0, .int .u8 0, .int .u8 0, .int .u8 0, .int .i64 0]

theorem HashIs.fr {w w' : World} {h : Nat} {k0 k1 : Int} {bs : List Int} {L : List Nat} (hH : HashIs w h k0 k1 bs) (hf : Fr L w w') (hn : h ∉ L) : HashIs w' h k0 k1 bs := by
  obtain ⟨T, hT, hB⟩ := hH
  exact ⟨T, hT, hf.blk hB hn⟩
theorem HashIs.lt {w : World} {h : Nat} {k0 k1 : Int} {bs : List Int} (hH : HashIs w h k0 k1 bs) : h < w.heap.size := by
  obtain ⟨T, hT, hB⟩ := hH
  exact hB.lt
theorem own_ne_blk {w : World} {base : Nat} {e : TypeId} {size n : Nat} {v : Value} {xs : List Value} {g : Nat} {t : TypeId} {cs : Array Value} (h : w.ownsRow base e size v n xs) (hg : Blk w g t cs) (hne : e ≠ t) : g ∉ ownL v := by
  unfold ownL
  rcases h.2 with ⟨rfl, _⟩ | ⟨g', cap, cur, rfl, _, hh, _⟩
  · simp [Value.ownBlock]
  · simp only [Value.ownBlock, Option.toList_some, List.mem_singleton]
    rintro rfl
    unfold Blk at hg
    rw [hg] at hh
    injection hh with hh
    injection hh with _ ht
    exact hne ht.symm

set_option maxRecDepth 100000 in
set_option maxHeartbeats 4000000 in
theorem adds_calls (k0 k1 : Int) (ps : List Piece) (A : Option Addr) (c : Nat) (w : World) (hP : PiecesAt w A ps) (hk0 : W k0) (hk1 : W k1) (hl : ps.length ≤ 9223372036854775807) :
    Calls Try.prog 3 #[.int .u64 k0, .int .u64 k1, .slice A ps.length c] w fun e w' => e = .returned (.bool true) ∧ Fr [] w w' := by
  by_cases hlen : 40 < ps.length
  · clear hP
    go_enter Try.func3, Try.ntmps3
    go_wp2_with fail
    go_ret
    exact ⟨rfl, Fr.refl _ _⟩
  · obtain ⟨i0, hi, hz0, hz1, hz2⟩ := info_parts info5
    have HP := Lib.hid hP
    have HBY := Lib.hid (allOf_byts (fun p hp => (hP.2 p hp).2.1))
    clear hP
    go_enter Try.func3, Try.ntmps3
    go_wp2_with fail
    refine (new_calls k0 k1 _).mono ?_
    rintro e w1 ⟨h, rfl, hB1, hf1, hh⟩
    go_wp2_with fail
    have hH2 := (hash_new hB1).fr ((Fr.refl [] w1).alloc (.cells oddC 30)) (by simp)
    have hO2 := Blk.new w1 30 oddC
    have hf2 := hf1.alloc (.cells oddC 30)
    have hw1 := hf1.size
    have hne : w1.heap.size ≠ h := by have := hB1.lt; omega
    generalize w1.heap.size = od at *
    have HNE := Lib.hid hne
    clear hne hB1
    go_loopw [10, 11] (fun v i wr => ∃ k : Nat, k ≤ ps.length ∧ i = .int .i64 k ∧ (allOf ps k).length ≤ 1000 ∧ wr.ownsRow w.heap.size 5 1 v (allOf ps k).length (bcells (allOf ps k)) ∧ HashIs wr h k0 k1 (allOf ps k) ∧ Blk wr od 30 oddC ∧ w.heap.size ≤ h ∧ w.heap.size ≤ od ∧ Fr [] w wr) (fun _ i _ => ps.length - (intOf i).toNat)
    case atStart => exact ⟨0, Nat.zero_le _, rfl, by simp [allOf], World.ownsRow_nil _ _ _ _, hH2, hO2, by omega, by omega, hf2⟩
    case round =>
      obtain ⟨k, hk, rfl, hn, hown, hH, hO, hh, hod, hfr⟩ := hrel
      obtain ⟨wo, hwo⟩ : ∃ wo : World, wo = wr := ⟨_, rfl⟩
      subst hwo
      have hby := HBY.out (k + 1)
      have hhlt := hH.lt
      obtain ⟨Aa, ca, rfl, _, hspa, hXa, _⟩ := own_form hown
      have HSPA := Lib.hid hspa
      have HXA := Lib.hid hXa
      clear hspa hXa
      by_cases hlt : k < ps.length
      · obtain ⟨p, hpk⟩ : ∃ p, ps[k]? = some p := ⟨_, List.getElem?_eq_getElem hlt⟩
        obtain ⟨b, off, rfl, hb, hc⟩ := HP.out.1 (by omega)
        have cp := (hfr.cell (p := ⟨b, off + k, none⟩) hb (by simp)).trans (hc k p hpk)
        obtain ⟨pX, pB, pl⟩ := HP.out.2 p (List.mem_of_getElem? hpk)
        have hsuc := allOf_succ ps k p hpk
        rw [hsuc] at hby
        have HSU := Lib.hid hsuc
        have HBK := Lib.hid hby
        obtain ⟨pa, pc, px⟩ := p
        dsimp only at cp pX pB pl HSU HBK
        have pXr := pX.fr hfr (by simp)
        have hbwr : b < wo.heap.size := by have := hfr.size; omega
        clear hc hpk hsuc hby pX
        generalize allOf ps k = al at *
        by_cases hbig : 1000 - (al.length : Int) < (px.length : Int)
        · clear pXr
          go_wp2_with fail
          go_ret
          exact ⟨rfl, hfr⟩
        · have HXR := Lib.hid pXr
          have HOW := Lib.hid hown
          clear pXr hown
          go_wp2_with (first
            | (at_builtin; refine wpList_append_any _ rfl (.tmp 39) (.tmp 43) _ rfl wo.heap.size 5 i0 _ 1 1 Try.underlying31 hi hz0 hz1 hz2 rfl (by omega) (.slice (some ⟨wo.heap.size, 0, none⟩) 0 0) 0 [] rfl (ownsRow_empty wo 5 wo.heap.size (Nat.le_refl _)) wo.heap.size pa px.length pc (bcells px) rfl (HXR.out.reads.alloc (Nat.le_refl _) _) (bcells_one _) (by simp only [maxLen]; omega) (by omega) (by simp) ?_; intro v1 w2 hown1 hg1 hat1; have hf21 : Fr [] wo w2 := ((Fr.refl [] wo).alloc (.cells #[] 5)).trans (Fr.of_grownO hg1) (by simp [Value.ownBlock]); clear hg1; have cp2 := (hf21.cell (p := ⟨b, off + k, none⟩) hbwr (by simp)).trans cp)
            | (at_builtin; refine wpList_append_any _ rfl (.tmp 45) (.tmp 49) _ rfl w.heap.size 5 i0 _ 1 1 Try.underlying31 hi hz0 hz1 hz2 rfl (by omega) _ al.length (bcells al) rfl (hf21.own HOW.out (by simp)) w2.heap.size pa px.length pc (bcells px) rfl (HXR.out.fr hf21 (by simp)).reads (bcells_one _) (by simp only [maxLen]; omega) (by omega) (by have := hfr.size; have := hf21.size; omega) ?_; intro v2 w3 hown3 hg2 hat2; have hf32 := Fr.of_grownO hg2; clear hg2))
          simp only [Nat.zero_add, List.nil_append] at hown1
          obtain ⟨A1, c1, rfl, _, hsp1, hX1, _⟩ := own_form hown1
          have hL3 : h ∉ ownL (.slice Aa al.length ca) := by
            obtain ⟨T, _, hB⟩ := hH; exact own_ne_blk HOW.out hB (by decide)
          have hO3 : od ∉ ownL (.slice Aa al.length ca) := own_ne_blk HOW.out hO (by decide)
          have hA3 : ∀ x ∈ ownL (.slice Aa al.length ca), w.heap.size ≤ x ∧ x < wo.heap.size := by
            intro x hx
            have : (Value.slice Aa al.length ca).ownBlock = some x := by simpa [ownL] using hx
            exact ⟨own_ge HOW.out this, own_lt HOW.out this⟩
          have hf3 : Fr (ownL (.slice Aa al.length ca)) wo w3 := (hf21.mono (L := ownL (.slice Aa al.length ca)) (by simp)).trans hf32 (fun x hx => .inl hx)
          have hfw3 : Fr [] w w3 := hfr.trans hf3 (fun x hx => .inr (hA3 x hx).1)
          have hX3 : BytesAt w3 A1 px (· ≠ h) := (hX1.imp (ok' := fun b => b ≠ h ∧ b ∉ ownL (.slice Aa al.length ca)) (fun b _ hb => ⟨by omega, fun hm => by have := (hA3 b hm).2; omega⟩)).fr hf32 (fun b hb => hb.2) |>.imp (fun b _ hb => hb.1)
          have hown1' : w3.ownsRow wo.heap.size 5 1 (.slice A1 px.length c1) px.length (bcells px) := hf32.own hown1 (fun g hg hm => by have := own_ge hown1 hg; have := (hA3 g hm).2; omega)
          have hbyal : Byts px := pB
          refine (add_calls h k0 k1 al px A1 c1 w3 (hH.fr hf3 hL3) hX3 HBK.out hk0 hk1 (by omega)).mono ?_
          rintro e w4 ⟨rfl, hH4, hf4⟩
          go_wp2_with fail
          refine (add_nil _ _).mono ?_
          rintro e w4' ⟨rfl, rfl⟩
          have hod4 : Blk w4 od 30 oddC := hf4.blk (hf3.blk hO hO3) (by simpa using HNE.out)
          go_wp2_with fail
          refine (add_odd od _ _ (hod4.cell 0)).mono ?_
          rintro e w4' ⟨rfl, rfl⟩
          go_wp2_with fail
          -- what the rest of the round needs, behind names
          have hm4 : w4.ownsRow wo.heap.size 5 1 (.slice A1 px.length c1) px.length (bcells px) := hf4.own hown1' (fun g hg hm => by
            have := own_ge hown1' hg; simp at hm; omega)
          have hdis : ∀ x ∈ ownL (.slice A1 px.length c1), wo.heap.size ≤ x ∧ x < w2.heap.size := by
            intro x hx
            have : (Value.slice A1 px.length c1).ownBlock = some x := by simpa [ownL] using hx
            exact ⟨own_ge hown1 this, own_lt hown1 this⟩
          have hall3 : w3.ownsRow w.heap.size 5 1 v2 (al.length + px.length) (bcells (al ++ px)) := by rw [bcells_append]; exact hown3
          have hall4 : w4.ownsRow w.heap.size 5 1 v2 (al.length + px.length) (bcells (al ++ px)) := hf4.own hall3 (fun g hg hm => by
            obtain ⟨T, _, hB⟩ := hH.fr hf3 hL3
            exact own_ne_blk hall3 hB (by decide) (by simp at hm; simp [ownL, hg, hm]))
          have hno : ∀ g, v2.ownBlock = some g → g ∉ ownL (.slice A1 px.length c1) := by
            intro g hg hm
            have h1 := hdis g hm
            rcases hat2 with e | e
            · rw [e] at hg
              have := own_lt HOW.out hg
              omega
            · rw [e] at hg
              injection hg with hg
              omega
          have hfw4 : Fr [] w w4 := hfw3.trans hf4 (by simpa using hh)
          have hhm : h ∉ ownL (.slice A1 px.length c1) := fun hm => by have := (hdis h hm).1; omega
          have hom : od ∉ ownL (.slice A1 px.length c1) := fun hm => by have := (hdis od hm).1; have := hO.lt; omega
          have HM4 := Lib.hid hm4
          have HDIS := Lib.hid hdis
          have HALL := Lib.hid hall4
          have HNO := Lib.hid hno
          have HHM := Lib.hid hhm
          have HOM := Lib.hid hom
          clear hm4 hdis hall3 hall4 hno hhm hom hX1 hsp1 hown1 hown1' hX3 hL3 hO3 hA3 hf3 hown3 hat2 hf21 hf32 hat1 cp2 cp
          go_loopw [13] (fun i wr => ∃ (j : Nat) (ys : List Int), j ≤ px.length ∧ i = .int .i64 j ∧ ys.length = px.length ∧ wr.ownsRow wo.heap.size 5 1 (.slice A1 px.length c1) px.length (bcells ys) ∧ Fr (ownL (.slice A1 px.length c1)) w4 wr) (fun i _ => px.length - (intOf i).toNat)
          case atStart => exact ⟨0, px, Nat.zero_le _, rfl, rfl, HM4.out, Fr.refl _ _⟩
          case round =>
            obtain ⟨j, ys, hj, rfl, hys, howi, hfi⟩ := hrel
            have HYS := Lib.hid hys
            by_cases hjl : j < px.length
            · obtain ⟨g, cap, hv, _⟩ := howi.form (by omega)
              simp only [Value.slice.injEq, true_and] at hv
              obtain ⟨rfl, rfl⟩ := hv
              have cj := howi.cellAt j (by omega)
              rw [show (bcells ys)[j]? = some (.int .u8 (ys.getD j 0)) from by simp [bcells, List.getElem?_eq_getElem (show j < ys.length by omega), List.getD_eq_getElem?_getD]] at cj
              have fj := howi.frozenAt j
              have hst := howi.stored j
              have HST := Lib.hid hst
              generalize ys.getD j 0 = y at *
              have HOWI := Lib.hid howi
              clear hst howi hys
              go_wp2_with fail
              go_roundw
              case rel =>
                refine ⟨j + 1, ys.set j (IntKind.u8.wrap (y + 1)), by omega, by go_num, by simp [HYS.out], ?_, ?_⟩
                · have := (HST.out (.int .u8 (IntKind.u8.wrap (y + 1)))).1
                  rw [show bcells (ys.set j (IntKind.u8.wrap (y + 1))) = (bcells ys).set j (.int .u8 (IntKind.u8.wrap (y + 1))) from by simp [bcells, List.map_set]]
                  exact this
                · exact hfi.setCell (p := ⟨g, j, none⟩) (.inl (by simp [ownL, Value.ownBlock])) _
              case measure => simp [intOf]; omega
            · have hH5 := hH4.fr hfi HHM.out
              have hall5 := hfi.own HALL.out HNO.out
              have hO5 := hfi.blk hod4 HOM.out
              have hfw5 : Fr [] w wr := hfw4.trans hfi (fun x hx => .inr (by have := (HDIS.out x hx).1; have := hfr.size; omega))
              obtain ⟨A2, c2, rfl, hl2, _, hX2, _⟩ := own_form hall5
              have HX2 := Lib.hid (hX2.imp (ok' := fun _ => True) fun _ _ _ => trivial)
              have HALL5 := Lib.hid hall5
              have HL2 := Lib.hid hl2
              clear hX2 hall5 hl2 howi hys HYS
              have hlal : al.length + px.length ≤ 1000 := by omega
              go_wp2_with fail
              refine (told_calls h k0 k1 (al ++ px) wr hH5 HBK.out hk0 hk1 (by simp; omega)).mono ?_
              rintro e w6 ⟨rfl, hf6⟩
              go_wp2_with fail
              have href := refSum_calls k0 k1 (al ++ px) A2 c2 w6 (HX2.out.fr hf6 (by simp)) HBK.out hk0 hk1 (by simp; omega)
              rw [HL2.out] at href
              refine href.mono ?_
              rintro e w7 ⟨rfl, hb7⟩
              have hf7 := Fr.of_below hb7
              go_wp2_with fail
              go_roundw
              case rel =>
                have e1 : (al ++ px).length = al.length + px.length := by simp
                exact ⟨k + 1, by omega, by go_num, by rw [HSU.out]; omega, by rw [HSU.out, e1]; exact hf7.own (hf6.own HALL5.out (by simp)) (by simp), by rw [HSU.out]; exact (hH5.fr hf6 (by simp)).fr hf7 (by simp), hf7.blk (hf6.blk hO5 (by simp)) (by simp), hh, hod, (hfw5.trans hf6 (by simp)).trans hf7 (by simp)⟩
              case measure => simp [intOf]; omega
      · obtain rfl : k = ps.length := by omega
        have hbk := HBY.out ps.length
        have HBK := Lib.hid hbk
        have HXA2 := Lib.hid (HXA.out.imp (ok' := fun _ => True) fun _ _ _ => trivial)
        clear hbk hby hown
        generalize allOf ps ps.length = al at *
        go_wp2_with fail
        refine (told_calls h k0 k1 al wo hH HBK.out hk0 hk1 (by omega)).mono ?_
        rintro e w6 ⟨rfl, hf6⟩
        go_wp2_with fail
        refine (refSum_calls k0 k1 al Aa ca w6 (HXA2.out.fr hf6 (by simp)) HBK.out hk0 hk1 (by omega)).mono ?_
        rintro e w7 ⟨rfl, hb7⟩
        have hf7 := Fr.of_below hb7
        have hO7 := hf7.blk (hf6.blk hO (by simp)) (by simp)
        go_wp2_with fail
        refine (told_nil _).mono ?_
        rintro e w8 ⟨rfl, rfl⟩
        go_wp2_with fail
        refine (told_odd od _ (hO7.cell 0)).mono ?_
        rintro e w8 ⟨rfl, rfl⟩
        go_wp2_with fail
        go_ret
        exact ⟨rfl, (hfr.trans hf6 (by simp)).trans hf7 (by simp)⟩
end Go.Proofs.Ytkioniffgmalgaa
