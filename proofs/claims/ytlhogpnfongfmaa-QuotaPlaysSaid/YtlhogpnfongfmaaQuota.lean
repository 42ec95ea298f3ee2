/-
  The quota's own functions by contracts: New, none, Many, Take, Give, over 'QAt': a quota at block q whose map at block m counts f.
-/
import Derived.Test.YtlhogpnfongfmaaBase
namespace Go.Proofs.Ytlhogpnfongfmaa
open Go.RowKit Go.Maps

theorem law9 : Keyed Try.prog 9 := string_keyed Try.underlying9
theorem zero3 (w : World) : (zeroValue 3).run Try.prog w = .ok (.int .i64 0) w := by kernel_rfl

abbrev Bs := List UInt8
/-- The map at block m, of at most n entries, counts f. -/
def MapIs (w : World) (m n : Nat) (f : Bs → Nat) : Prop :=
  ∃ D : DataW Unit, w.ownsMap Try.prog 9 (plainElem Try.prog 3) m n D ∧ (∀ s, D.atKey (.string s) (.lit (.int .i64 0)) = .lit (.int .i64 (f s))) ∧ (∀ s, Maps.has D (.string s) = decide (0 < f s)) ∧ ∀ s, f s ≤ n
/-- A quota at block q with its map at block m. -/
structure QAt (w : World) (q m n : Nat) (f : Bs → Nat) : Prop where
  blk : Blk w q 36 #[.map (some m)]
  map : MapIs w m n f

def upd (f : Bs → Nat) (s : Bs) (v : Nat) : Bs → Nat := fun t => if t = s then v else f t

section
variable {w w' : World} {q m n : Nat} {f : Bs → Nat}
theorem MapIs.lt (h : MapIs w m n f) : m < w.heap.size := by
  obtain ⟨D, h, _⟩ := h
  exact h.lt
theorem MapIs.fr {L : List Nat} (h : MapIs w m n f) (hf : Fr L w w') (hn : m ∉ L) : MapIs w' m n f := by
  obtain ⟨D, h1, h2⟩ := h
  exact ⟨D, hf.owns h1 hn, h2⟩
theorem QAt.ne (h : QAt w q m n f) : q ≠ m := by
  rintro rfl
  obtain ⟨D, ⟨es, clock, hb, _⟩, _⟩ := h.map
  have := h.blk
  unfold Blk at this
  rw [this] at hb
  cases hb
theorem QAt.fr {L : List Nat} (h : QAt w q m n f) (hf : Fr L w w') (hq : q ∉ L) (hm : m ∉ L) : QAt w' q m n f := ⟨hf.blk h.blk hq, h.map.fr hf hm⟩
theorem MapIs.new (w : World) : MapIs (w.alloc (.map #[] 0)) w.heap.size 0 (fun _ => 0) :=
  ⟨_, World.ownsMap_made _ _ _ _, fun _ => rfl, fun _ => rfl, fun _ => Nat.le_refl _⟩
theorem MapIs.alloc (h : MapIs w m n f) (o : Obj) : MapIs (w.alloc o) m n f := h.fr ((Fr.refl [] w).alloc o) (by simp)
theorem keyOk {s : ByteArray} (hs : s.size ≤ maxLen) : keyOf Try.prog 9 (.string s) = some (.string s.data.toList) := Go.WideMaps.keyOf_string_mk Try.underlying9 hs
end

set_option maxHeartbeats 400000 in
theorem new_calls (w : World) : Calls Try.prog 8 #[] w fun e w' => ∃ q m, e = .returned (.pointer (some ⟨q, 0, none⟩)) ∧ QAt w' q m 0 (fun _ => 0) ∧ Fr [] w w' ∧ w.heap.size ≤ q ∧ w.heap.size ≤ m := by
  have hmm := @run_makeMap Try.prog
  go_enter Try.func8, Try.ntmps8
  go_wp2
  go_ret
  exact ⟨w.heap.size + 1, w.heap.size, rfl, ⟨by have := Blk.new (w.alloc (.map #[] 0)) 36 #[.map (some w.heap.size)]; simpa using this, (MapIs.new w).alloc _⟩, ((Fr.refl [] w).alloc _).alloc _, by omega, by omega⟩


/-- none: of a quota that somebody made: no. -/
theorem none_calls (q m n : Nat) (f : Bs → Nat) (w : World) (h : QAt w q m n f) :
    Calls Try.prog 18 #[.pointer (some ⟨q, 0, none⟩)] w fun e w' => e = .returned (.bool false) ∧ w = w' := by
  have hc := h.blk.cell 0
  simp at hc
  have qT := fun (w : World) (r : Option Nat) => run_eql_map_nil w _ _ _ r Try.underlying34
  go_enter Try.func18, Try.ntmps18
  go_wp2
  go_ret
  exact ⟨rfl, rfl⟩

/-- The look-up's own run. -/
theorem MapIs.look {w : World} {m n : Nat} {f : Bs → Nat} (h : MapIs w m n f) {s : ByteArray} (hs : s.size ≤ maxLen) :
    (Instr.lookup 34 (.map (some m)) (.string s) false).run Try.prog w = .ok (.int .i64 (f s.data.toList)) w := by
  obtain ⟨D, hown, hat, _⟩ := h
  obtain ⟨c, hrun, hat', _⟩ := hown.lookup_int law9 Try.underlying34 Try.underlying3 (zero3 _) (keyOk hs)
  rw [hat] at hat'
  injection hat' with hat'
  injection hat' with _ hat'
  rw [hrun, hat']

set_option maxHeartbeats 400000 in
theorem many_calls (q m n : Nat) (f : Bs → Nat) (s : ByteArray) (hs : s.size ≤ maxLen) (w : World) (h : QAt w q m n f) :
    Calls Try.prog 9 #[.pointer (some ⟨q, 0, none⟩), .string s] w fun e w' => e = .returned (.int .i64 (f s.data.toList)) ∧ w = w' := by
  have hc := h.blk.cell 0
  simp at hc
  have hlook := h.map.look hs
  go_enter Try.func9, Try.ntmps9
  go_wp2_with (go_at_call 18; refine (none_calls q m n f _ h).mono ?_; rintro e w' ⟨rfl, rfl⟩)
  go_ret
  exact ⟨rfl, rfl⟩

theorem MapIs.put {w' : World} {m n : Nat} {f : Bs → Nat} {D : DataW Unit} (s : Bs) (v : Nat) (hv : v ≤ n + 1) (hpos : 0 < v)
    (hat : ∀ s, D.atKey (.string s) (.lit (.int .i64 0)) = .lit (.int .i64 (f s))) (hhas : ∀ s, Maps.has D (.string s) = decide (0 < f s)) (hf : ∀ s, f s ≤ n)
    (hm : Maps.IsMap D) (h : w'.ownsMap Try.prog 9 (plainElem Try.prog 3) m (n + 1) (D.put (.string s) (.lit (.int .i64 v)))) : MapIs w' m (n + 1) (upd f s v) := by
  refine ⟨_, h, fun t => ?_, fun t => ?_, fun t => ?_⟩
  · unfold upd
    by_cases e : t = s
    · subst e; simp only [if_true]; exact atKey_put_same hm (by trivial) _ _
    · rw [if_neg e, atKey_put_other (by simpa using e)]; exact hat t
  · unfold upd
    by_cases e : t = s
    · subst e; simp only [if_true]; rw [has_put_same hm (by trivial)]; simp [hpos]
    · rw [if_neg e, has_put_other (by simpa using e)]; exact hhas t
  · unfold upd
    have := hf t
    split <;> omega

theorem MapIs.del {w' : World} {m n : Nat} {f : Bs → Nat} {D : DataW Unit} (s : Bs)
    (hat : ∀ s, D.atKey (.string s) (.lit (.int .i64 0)) = .lit (.int .i64 (f s))) (hhas : ∀ s, Maps.has D (.string s) = decide (0 < f s)) (hf : ∀ s, f s ≤ n)
    (h : w'.ownsMap Try.prog 9 (plainElem Try.prog 3) m n (D.del (.string s))) : MapIs w' m n (upd f s 0) := by
  refine ⟨_, h, fun t => ?_, fun t => ?_, fun t => ?_⟩
  · unfold upd
    by_cases e : t = s
    · subst e; simp only [if_true]; exact atKey_del_same _
    · rw [if_neg e, atKey_del_other (by simpa using e)]; exact hat t
  · unfold upd
    by_cases e : t = s
    · subst e; simp only [if_true]; rw [has_del_same]; simp
    · rw [if_neg e, has_del_other (by simpa using e)]; exact hhas t
  · unfold upd
    have := hf t
    split <;> omega

set_option maxHeartbeats 400000 in
/-- Take, where there is room. -/
theorem take_yes (q m n : Nat) (f : Bs → Nat) (s : ByteArray) (hs : s.size ≤ maxLen) (most : Int) (w : World) (h : QAt w q m n f) (hn : n < 1000000) (hr : (f s.data.toList : Int) < most) :
    Calls Try.prog 11 #[.pointer (some ⟨q, 0, none⟩), .string s, .int .i64 most] w fun e w' => e = .returned (.bool true) ∧ QAt w' q m (n + 1) (upd f s.data.toList (f s.data.toList + 1)) ∧ Fr [m] w w' := by
  have hc := h.blk.cell 0
  simp at hc
  have hlook := h.map.look hs
  obtain ⟨D, hown, hat, hhas, hf⟩ := h.map
  have hkey := keyOk hs
  have hfs := hf s.data.toList
  have HA := Lib.hid hat; have HH := Lib.hid hhas; have HF := Lib.hid hf
  clear hat hhas hf
  have hn' : n < maxLen := by unfold maxLen; omega
  go_enter Try.func11, Try.ntmps11
  go_wp2_with (first
    | (go_at_call 18; refine (none_calls q m n f _ h).mono ?_; rintro e w' ⟨rfl, rfl⟩)
    | (at_mapUpdate; refine wpList_mapUpdate_own _ rfl _ _ _ 34 rfl 9 3 law9 Try.underlying34 _ m n D rfl hown hn' _ _ _ rfl rfl hkey _ [] (plainElem_int Try.underlying3 (WalkArith.wf_i64 (by omega))) ?_; intro w1 hown1 hgrow1))
  go_ret
  have hg := Fr.of_grown hgrow1
  refine ⟨rfl, ⟨hg.blk h.blk (by simpa using h.ne), MapIs.put _ _ (by omega) (by omega) HA.out HH.out HF.out hown.isMap hown1⟩, hg⟩

theorem take_no (q m n : Nat) (f : Bs → Nat) (s : ByteArray) (hs : s.size ≤ maxLen) (most : Int) (w : World) (h : QAt w q m n f) (hr : most ≤ (f s.data.toList : Int)) :
    Calls Try.prog 11 #[.pointer (some ⟨q, 0, none⟩), .string s, .int .i64 most] w fun e w' => e = .returned (.bool false) ∧ w = w' := by
  have hc := h.blk.cell 0
  simp at hc
  have hlook := h.map.look hs
  go_enter Try.func11, Try.ntmps11
  go_wp2_with (go_at_call 18; refine (none_calls q m n f _ h).mono ?_; rintro e w' ⟨rfl, rfl⟩)
  go_ret
  exact ⟨rfl, rfl⟩

/-- Give, of a name that has none. -/
theorem give_none (q m n : Nat) (f : Bs → Nat) (s : ByteArray) (hs : s.size ≤ maxLen) (w : World) (h : QAt w q m n f) (hr : f s.data.toList = 0) :
    Calls Try.prog 10 #[.pointer (some ⟨q, 0, none⟩), .string s] w fun e w' => e = .returned (.bool false) ∧ w = w' := by
  have hm := many_calls q m n f s hs w h
  rw [hr] at hm
  have HM := Lib.hid hm; have HR := Lib.hid hr
  clear hr hm
  go_enter Try.func10, Try.ntmps10
  go_wp2_with (go_at_call 9; refine HM.out.mono ?_; rintro e w' ⟨rfl, rfl⟩)
  go_ret
  exact ⟨rfl, rfl⟩

set_option maxHeartbeats 400000 in
theorem give_one (q m n : Nat) (f : Bs → Nat) (s : ByteArray) (hs : s.size ≤ maxLen) (w : World) (h : QAt w q m n f) (hr : f s.data.toList = 1) :
    Calls Try.prog 10 #[.pointer (some ⟨q, 0, none⟩), .string s] w fun e w' => e = .returned (.bool true) ∧ QAt w' q m n (upd f s.data.toList 0) ∧ Fr [m] w w' := by
  have hm := many_calls q m n f s hs w h
  rw [hr] at hm
  have hc := h.blk.cell 0
  simp at hc
  obtain ⟨D, hown, hat, hhas, hf⟩ := h.map
  have hkey := keyOk hs
  have HA := Lib.hid hat; have HH := Lib.hid hhas; have HF := Lib.hid hf
  have HM := Lib.hid hm; have HR := Lib.hid hr
  clear hr hm hat hhas hf
  go_enter Try.func10, Try.ntmps10
  go_wp2_with (first
    | (go_at_call 9; refine HM.out.mono ?_; rintro e w' ⟨rfl, rfl⟩)
    | (at_delete; refine wpList_delete_own _ rfl _ _ 34 9 rfl 3 law9 Try.underlying34 _ m n D rfl hown _ _ rfl hkey ?_; intro w1 hown1 hturn1))
  go_ret
  have hg := Fr.of_grown hturn1.grown
  exact ⟨rfl, ⟨hg.blk h.blk (by simpa using h.ne), MapIs.del _ HA.out HH.out HF.out hown1⟩, hg⟩

set_option maxHeartbeats 400000 in
theorem give_more (q m n : Nat) (f : Bs → Nat) (s : ByteArray) (hs : s.size ≤ maxLen) (w : World) (h : QAt w q m n f) (hn : n < 1000000) (hr : 1 < f s.data.toList) :
    Calls Try.prog 10 #[.pointer (some ⟨q, 0, none⟩), .string s] w fun e w' => e = .returned (.bool true) ∧ QAt w' q m (n + 1) (upd f s.data.toList (f s.data.toList - 1)) ∧ Fr [m] w w' := by
  have hm := many_calls q m n f s hs w h
  have hc := h.blk.cell 0
  simp at hc
  have hlook := h.map.look hs
  obtain ⟨D, hown, hat, hhas, hf⟩ := h.map
  have hkey := keyOk hs
  have hfs := hf s.data.toList
  have HA := Lib.hid hat; have HH := Lib.hid hhas; have HF := Lib.hid hf
  have HM := Lib.hid hm
  clear hm hat hhas hf
  have hn' : n < maxLen := by unfold maxLen; omega
  go_enter Try.func10, Try.ntmps10
  go_wp2_with (first
    | (go_at_call 9; refine HM.out.mono ?_; rintro e w' ⟨rfl, rfl⟩)
    | (at_mapUpdate; refine wpList_mapUpdate_own _ rfl _ _ _ 34 rfl 9 3 law9 Try.underlying34 _ m n D rfl hown hn' _ _ _ rfl rfl hkey _ [] (plainElem_int Try.underlying3 (WalkArith.wf_i64 (by omega))) ?_; intro w1 hown1 hgrow1))
  go_ret
  have hg := Fr.of_grown hgrow1
  rw [show ((f s.data.toList : Int) - 1) = ((f s.data.toList - 1 : Nat) : Int) from by omega] at hown1
  exact ⟨by simp; omega, ⟨hg.blk h.blk (by simpa using h.ne), MapIs.put _ _ (by omega) (by omega) HA.out HH.out HF.out hown.isMap hown1⟩, hg⟩

/-! ### each method by one contract -/
def takeF (f : Bs → Nat) (s : Bs) (most : Int) : Bs → Nat := if (f s : Int) < most then upd f s (f s + 1) else f
def giveF (f : Bs → Nat) (s : Bs) : Bs → Nat := upd f s (f s - 1)
theorem upd_self (f : Bs → Nat) (s : Bs) : upd f s (f s) = f := by
  funext t; unfold upd; split <;> simp_all

theorem QAt.more {w : World} {q m n n' : Nat} {f : Bs → Nat} (h : QAt w q m n f) (hn : n ≤ n') : QAt w q m n' f := by
  obtain ⟨hb, D, h1, h2, h3, h4⟩ := h
  exact ⟨hb, D, h1.mono hn, h2, h3, fun s => Nat.le_trans (h4 s) hn⟩

theorem take_any (q m n : Nat) (f : Bs → Nat) (s : ByteArray) (hs : s.size ≤ maxLen) (most : Int) (w : World) (h : QAt w q m n f) (hn : n < 1000000) :
    Calls Try.prog 11 #[.pointer (some ⟨q, 0, none⟩), .string s, .int .i64 most] w fun e w' => e = .returned (.bool (decide ((f s.data.toList : Int) < most))) ∧ QAt w' q m (n + 1) (takeF f s.data.toList most) ∧ Fr [m] w w' := by
  unfold takeF
  by_cases hr : (f s.data.toList : Int) < most
  · rw [if_pos hr, decide_eq_true hr]
    exact take_yes q m n f s hs most w h hn hr
  · rw [if_neg hr, decide_eq_false hr]
    exact (take_no q m n f s hs most w h (by omega)).mono fun e w' ⟨he, hw⟩ => ⟨he, by subst hw; exact h.more (by omega), by subst hw; exact Fr.refl _ _⟩

theorem give_any (q m n : Nat) (f : Bs → Nat) (s : ByteArray) (hs : s.size ≤ maxLen) (w : World) (h : QAt w q m n f) (hn : n < 1000000) :
    Calls Try.prog 10 #[.pointer (some ⟨q, 0, none⟩), .string s] w fun e w' => e = .returned (.bool (decide (0 < f s.data.toList))) ∧ QAt w' q m (n + 1) (giveF f s.data.toList) ∧ Fr [m] w w' := by
  unfold giveF
  rcases Nat.lt_trichotomy (f s.data.toList) 1 with hr | hr | hr
  · have h0 : f s.data.toList = 0 := by omega
    refine (give_none q m n f s hs w h h0).mono fun e w' ⟨he, hw⟩ => ?_
    subst hw
    refine ⟨by rw [he, h0]; rfl, ?_, Fr.refl _ _⟩
    rw [show f s.data.toList - 1 = f s.data.toList from by omega, upd_self]
    exact h.more (by omega)
  · refine (give_one q m n f s hs w h hr).mono fun e w' ⟨he, hq, hf⟩ => ?_
    rw [hr]
    exact ⟨he, hq.more (by omega), hf⟩
  · refine (give_more q m n f s hs w h hn hr).mono fun e w' ⟨he, hq, hf⟩ => ?_
    rw [decide_eq_true (by omega : 0 < f s.data.toList)]
    exact ⟨he, hq, hf⟩

end Go.Proofs.Ytlhogpnfongfmaa
