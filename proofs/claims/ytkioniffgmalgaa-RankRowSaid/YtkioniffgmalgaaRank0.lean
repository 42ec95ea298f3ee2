/-
  A name's bytes with one more behind them: 'append([]byte(s), i)'.
-/
import Derived.Test.YtkioniffgmalgaaSums
import Derived.Laws.IdiomStrings
import Derived.Laws.IdiomCopy
namespace Go.Proofs.Ytkioniffgmalgaa
open Go.RowKit Sp
set_option linter.unusedVariables false

/-- A string's bytes as numbers. -/
def sb (s : ByteArray) : List Int := s.data.toList.map (fun b => (b.toNat : Int))
theorem sb_len (s : ByteArray) : (sb s).length = s.size := by simp [sb]
theorem sb_byts (s : ByteArray) : Byts (sb s) := fun i => by
  simp only [sb, List.getD_eq_getElem?_getD, List.getElem?_map]
  cases h : s.data.toList[i]? with
  | none => simp
  | some b => have := b.toNat_lt; simp; omega
theorem Byts.snoc {xs : List Int} (h : Byts xs) {x : Int} (hx : 0 ≤ x ∧ x < 256) : Byts (xs ++ [x]) := fun i => by
  simp only [List.getD_eq_getElem?_getD]
  rcases Nat.lt_or_ge i xs.length with hi | hi
  · rw [List.getElem?_append_left hi]; simpa [List.getD_eq_getElem?_getD] using h i
  · rw [List.getElem?_append_right hi]
    cases hj : i - xs.length with
    | zero => simpa using hx
    | succ j => simp

/-- A row of bytes with room behind them, none of its cells frozen, whatever its mark. -/
structure RowM (w : World) (g cap : Nat) (bs : List Int) : Prop where
  lt : g < w.heap.size
  le : bs.length ≤ cap
  free : ∀ k, k < cap → (w.cell? ⟨g, k, none⟩).isSome = true ∧ w.frozen? ⟨g, k, none⟩ = false
  at_ : ∀ k, k < bs.length → w.cell? ⟨g, k, none⟩ = some (.int .u8 (bs.getD k 0))
theorem RowM.fr {w w' : World} {g cap : Nat} {bs : List Int} {L : List Nat} (h : RowM w g cap bs) (hf : Fr L w w') (hn : g ∉ L) : RowM w' g cap bs :=
  ⟨Nat.lt_of_lt_of_le h.lt hf.size, h.le, fun k hk => by
    have hb := hf.block g h.lt hn
    have h1 := h.free k hk
    rw [← World.cell?_of_block (w := w) (w' := w') (a := ⟨g, k, none⟩) hb, ← World.frozen?_of_block (w := w) (w' := w') (a := ⟨g, k, none⟩) hb] at h1
    exact h1, fun k hk => (hf.cell (p := ⟨g, k, none⟩) h.lt hn).trans (h.at_ k hk)⟩

theorem RowM.heap {w w' : World} {g cap : Nat} {bs : List Int} (h : RowM w g cap bs) (hh : w'.heap = w.heap) : RowM w' g cap bs := by
  have hc : ∀ a, w'.cell? a = w.cell? a := fun a => by simp [World.cell?, hh]
  have hz : ∀ a, w'.frozen? a = w.frozen? a := fun a => by simp [World.frozen?, hh]
  refine ⟨by rw [hh]; exact h.lt, h.le, fun k hk => ?_, fun k hk => by rw [hc]; exact h.at_ k hk⟩
  rw [hc, hz]; exact h.free k hk

theorem rowM_conv (w : World) (s : ByteArray) (cap : Nat) (hc : s.size ≤ cap) : RowM (w.alloc (.cells (bytesRow s cap) 5 ((bytesRow s cap).size, (bytesRow s cap).size + 1))) w.heap.size cap (sb s) := by
  have hsz : (bytesRow s cap).size = cap := by
    have : s.data.size = s.size := rfl
    simp [bytesRow]; omega
  refine ⟨by simp, by rw [sb_len]; exact hc, fun k hk => ⟨?_, ?_⟩, fun k hk => ?_⟩
  · rw [World.cell?_alloc_mark]; simp [hsz, hk]
  · rw [World.frozen?_alloc_mark]; simp [hsz]; omega
  · rw [sb_len] at hk
    rw [World.cell?_alloc_mark, bytesRow_at s cap k hk]
    have hk' : k < s.data.toList.length := by simpa using hk
    simp [sb, List.getD_eq_getElem?_getD, List.getElem?_map, List.getElem?_eq_getElem hk']

theorem append_one (w : World) (ty : TypeId) (g cap : Nat) (bs : List Int) (hR : RowM w g cap bs) (ad : Addr) (x : Int) (hx : w.cell? ad = some (.int .u8 x)) (had : ad.block ≠ g) (hs : bs.length ≤ 1000) (hcm : cap ≤ 9223372036854775807) :
    ∃ A c w', (Builtin.append_ #[31, 31] ty #[.slice (some ⟨g, 0, none⟩) bs.length cap, .slice (some ad) 1 1]).run Try.prog w = .ok (.slice A (bs ++ [x]).length c) w' ∧ BytesAt w' A (bs ++ [x]) (fun _ => True) ∧ Fr [g] w w' := by
  obtain ⟨i0, hi, hz0, hz1, hz2⟩ := info_parts info5
  have hne : ∀ j u, [Value.int .u8 x][j]? = some u → w.cell? (ad.add j) = some u := fun j u hu => by
    cases j with
    | zero => simp at hu; subst hu; simpa [Addr.add] using hx
    | succ j => simp at hu
  have hln : (bs ++ [x]).length = bs.length + 1 := by simp
  rw [hln]
  by_cases hroom : bs.length + 1 ≤ cap
  · have hst := run_storeCells_cells (P := Try.prog) g bs.length [.int .u8 x] 0 w (fun j hj => by simp at hj; subst hj; exact (hR.free _ (by omega)).1) (fun j hj => by simp at hj; subst hj; exact (hR.free _ (by omega)).2) (by simp [Value.oneCell'])
    have hf := run_firstCells_some (P := Try.prog) w 1 1 ad 1 1 [.int .u8 x] rfl hne
    have hadd : (⟨g, 0, none⟩ : Addr).add bs.length = ⟨g, bs.length, none⟩ := by unfold Addr.add; split <;> simp_all
    refine ⟨some ⟨g, 0, none⟩, cap, w.setCells g bs.length [.int .u8 x], ?_, fun _ => ⟨g, 0, rfl, trivial, ?_, fun k hk => ?_⟩, ?_⟩
    · simp [Builtin.append_, run_underlying Try.underlying31, sizeOf, typeInfo, hi, hz1, Builtin.lenOf, hroom, hf, hadd] at hst ⊢
      simp [hst]
    · simpa [World.setCells, World.setCell] using hR.lt
    · simp at hk
      rw [Nat.zero_add]
      simp only [World.setCells]
      by_cases e : k = bs.length
      · subst e
        obtain ⟨u, hu⟩ := Option.isSome_iff_exists.1 (hR.free bs.length (by omega)).1
        rw [World.cell?_setCell_same _ _ _ hu]
        simp [List.getD_eq_getElem?_getD]
      · rw [World.cell?_setCell_other _ _ _ _ (by intro h; simp at h <;> omega), hR.at_ k (by omega)]
        simp [List.getD_eq_getElem?_getD, List.getElem?_append_left (show k < bs.length by omega)]
    · exact (Fr.refl [g] w).setCell (.inl (by simp)) _
  · have hold : ∀ j u, (bcells bs)[j]? = some u → w.cell? ((⟨g, 0, none⟩ : Addr).add j) = some u := fun j u hu => by
      have hj : j < bs.length := by
        rcases Nat.lt_or_ge j bs.length with h | h
        · exact h
        · simp [bcells, List.getElem?_eq_none h] at hu
      have hadd : (⟨g, 0, none⟩ : Addr).add j = ⟨g, j, none⟩ := by unfold Addr.add; split <;> simp_all
      rw [hadd, hR.at_ j hj, ← hu]
      simp [bcells, List.getElem?_eq_getElem hj, List.getD_eq_getElem?_getD]
    have hr := run_append_grow (P := Try.prog) w 31 ty 5 i0 _ Try.underlying31 hi hz0 ⟨g, 0, none⟩ bs.length cap (bcells bs) (by simp [bcells, hz1]) hold ad 1 1 [.int .u8 x] (by simp [hz1]) hne (by omega) (by omega) (growslice_fits (by omega) (by rw [hz2]; omega))
    refine ⟨_, _, _, hr, fun _ => ⟨w.heap.size, 0, rfl, trivial, by simp, fun k hk => ?_⟩, ((Fr.refl [g] w).drew).alloc _⟩
    simp at hk
    rw [Nat.zero_add]
    refine ((Blk.new w.drew 5 _).cell k).trans ?_
    rw [Array.getElem?_append_left (by simp [bcells]; omega)]
    have e : ((bcells bs).toArray ++ [Value.int .u8 x].toArray)[k]? = (bcells (bs ++ [x]))[k]? := by
      rw [bcells_append]; simp [bcells]
    rw [e, bcells, List.getElem?_map, List.getElem?_eq_getElem (show k < (bs ++ [x]).length by simp; omega)]
    simp only [List.getD_eq_getElem?_getD, List.getElem?_eq_getElem (show k < (bs ++ [x]).length by simp; omega), Option.map_some, Option.getD_some]

/-- 'append([]byte(s), x)' as a step of a region. -/
theorem step_conv_append {ops : Array Oper} {o : Oper} {a : Act} {w : World} {K : Act → World → Prop} {Q : Exit → Act → World → Prop} {E : Prop} (hgd : o.guard = none) (so xo : Operand)
    (ho : o.op = .call { callee := .builtin .append, args := #[so, xo], argTypes := #[31, 31] }) (s : ByteArray) (x : Int) (g g2 cap : Nat) (hs : a.eval so = .slice (some ⟨g, 0, none⟩) s.size cap) (hx : a.eval xo = .slice (some ⟨g2, 0, none⟩) 1 1)
    (hR : RowM w g cap (sb s)) (hc : w.cell? ⟨g2, 0, none⟩ = some (.int .u8 x)) (hne : g2 ≠ g) (hsz : s.size ≤ 1000) (hcm : cap ≤ 9223372036854775807) (ys : List Int) (hys : sb s ++ [x] = ys)
    (h : ∀ A c w', BytesAt w' A ys (fun _ => True) → Fr [g] w w' → K (a.put o.dst (.slice A ys.length c)) w') :
    if Region.wanted o (yielded ops a.tmps) = true then Oper.wp Try.prog o a w K Q else E := by
  have hw : Region.wanted o (yielded ops a.tmps) = true := by simp [Region.wanted, hgd]
  subst hys
  rw [if_pos hw]
  obtain ⟨A, c, w', hrun, hX, hf⟩ := append_one w o.type g cap (sb s) hR ⟨g2, 0, none⟩ x hc hne (by rw [sb_len]; exact hsz) hcm
  rw [sb_len] at hrun
  unfold Oper.wp execOp
  simp only [ho, resolve, invoke, builtin, Sem.run_bind, Sem.run_pure, Result.andThen_ok, List.map_toArray, List.map_cons, List.map_nil, hs, hx, hrun]
  exact h A c w' hX hf

end Go.Proofs.Ytkioniffgmalgaa
