/-
  The laws' row, great and order by their contracts.
-/
import Derived.Test.YtkioniffgmalgaaRank10
import Derived.Test.YtkioniffgmalgaaSame
namespace Go.Proofs.Ytkioniffgmalgaa
open Go.RowKit Go.Sort Sp
set_option linter.unusedVariables false

theorem info9 : (Try.prog.info? 9).map (fun i => (i.zero, i.size, i.bytes)) = some (some (.string ByteArray.empty), 1, 16) := by kernel_rfl

/-- Runners' names and weights at A. -/
def RunsAt (w : World) (A : Option Addr) (l : List (ByteArray × Int)) (ok : Nat → Prop) : Prop :=
  0 < l.length → ∃ b off, A = some ⟨b, off, none⟩ ∧ ok b ∧ b < w.heap.size ∧ ∀ (k : Nat) (r : ByteArray × Int), l[k]? = some r → w.cell? ⟨b, off + k * 2, none⟩ = some (.string r.1) ∧ w.cell? ⟨b, off + k * 2 + 1, none⟩ = some (.int .i64 r.2)
theorem RunsAt.fr {w w' : World} {A : Option Addr} {l : List (ByteArray × Int)} {ok : Nat → Prop} {L : List Nat} (h : RunsAt w A l ok) (hf : Fr L w w') (hL : ∀ b, ok b → b < w.heap.size → b ∉ L) : RunsAt w' A l ok := fun hp => by
  obtain ⟨b, off, e, ho, hb, hc⟩ := h hp
  exact ⟨b, off, e, ho, Nat.lt_of_lt_of_le hb hf.size, fun k s hk => ⟨(hf.cell (p := ⟨b, _, none⟩) hb (hL b ho hb)).trans (hc k s hk).1, (hf.cell (p := ⟨b, _, none⟩) hb (hL b ho hb)).trans (hc k s hk).2⟩⟩

def scells (l : List ByteArray) : List Value := l.map Value.string
theorem scells_one (l : List ByteArray) : ∀ u ∈ scells l, u.oneCell' = true := fun u hu => by
  simp only [scells, List.mem_map] at hu
  obtain ⟨x, _, rfl⟩ := hu
  rfl

/-- Two rows of the call's own lie apart. -/
def Apart (v u : Value) : Prop := ∀ g, v.ownBlock = some g → u.ownBlock ≠ some g
theorem Apart.symm {v u : Value} (h : Apart v u) : Apart u v := fun g hg hv => h g hv hg
theorem apart_of {v v' u : Value} {w : World} {base n : Nat} {e : TypeId} {xs : List Value} (h : Apart v u) (hu : w.ownsRow base e 1 u n xs) (ha : v'.ownBlock = v.ownBlock ∨ v'.ownBlock = some w.heap.size) : Apart v' u := by
  intro g hg hug
  rcases ha with h1 | h1
  · exact h g (by rw [← h1]; exact hg) hug
  · rw [h1] at hg; cases hg
    exact absurd (own_lt hu hug) (Nat.lt_irrefl _)

theorem own_cell {w : World} {base : Nat} {e : TypeId} {v : Value} {n : Nat} {xs : List Value} (h : w.ownsRow base e 1 v n xs) : ∃ A c, v = .slice A n c ∧ (0 < n → ∃ g, A = some ⟨g, 0, none⟩ ∧ base ≤ g ∧ g < w.heap.size ∧ ∀ (k : Nat) (u : Value), xs[k]? = some u → w.cell? ⟨g, 0 + k, none⟩ = some u) := by
  rcases h.2 with ⟨rfl, rfl⟩ | ⟨g, cap, cur, rfl, hb, hblk, hnc, _, hsz, htk⟩
  · exact ⟨none, 0, rfl, fun h0 => absurd h0 (by omega)⟩
  · have hB : Blk w g e cur := hblk
    refine ⟨_, _, rfl, fun hn => ⟨g, rfl, hb, hB.lt, fun k u hk => ?_⟩⟩
    rw [Nat.zero_add]
    refine (hB.cell k).trans ?_
    have hkl : k < n * 1 := by
      rcases Nat.lt_or_ge k (n * 1) with h' | h'
      · exact h'
      · rw [List.getElem?_eq_none (by rw [h.1]; exact h')] at hk; cases hk
    rw [← hk, ← htk, List.getElem?_take_of_lt hkl]
    simp
theorem strs_of_own {w : World} {base : Nat} {e : TypeId} {v : Value} {l : List ByteArray} (h : w.ownsRow base e 1 v l.length (scells l)) : ∃ A c, v = .slice A l.length c ∧ StrsAt w A l (fun b => base ≤ b) := by
  obtain ⟨A, c, rfl, hc⟩ := own_cell h
  refine ⟨A, c, rfl, fun hp => ?_⟩
  obtain ⟨g, rfl, hb, hlt, hcc⟩ := hc hp
  exact ⟨g, 0, rfl, hb, hlt, fun k s hs => hcc k _ (by simp [scells, hs])⟩
theorem ints_of_own {w : World} {base : Nat} {e : TypeId} {v : Value} {l : List Int} (h : w.ownsRow base e 1 v l.length (icells l)) : ∃ A c, v = .slice A l.length c ∧ IntsAt w A l (fun b => base ≤ b) := by
  obtain ⟨A, c, rfl, hc⟩ := own_cell h
  refine ⟨A, c, rfl, fun hp => ?_⟩
  obtain ⟨g, rfl, hb, hlt, hcc⟩ := hc hp
  exact ⟨g, 0, rfl, hb, hlt, fun k s hs => hcc k _ (by simp [icells, hs])⟩

set_option maxRecDepth 100000 in
set_option maxHeartbeats 1000000 in
theorem row_calls (l : List (ByteArray × Int)) (A : Option Addr) (c : Nat) (w : World) (h : RunsAt w A l (fun _ => True)) (hl : l.length * 24 ≤ 140737488355328) :
    Calls Try.prog 37 #[.slice A l.length c] w fun e w' => ∃ A1 c1 A2 c2, e = .returned (.tuple #[.slice A1 l.length c1, .slice A2 l.length c2]) ∧ StrsAt w' A1 (l.map (·.1)) (fun b => w.heap.size ≤ b) ∧ IntsAt w' A2 (l.map (·.2)) (fun b => w.heap.size ≤ b) ∧ Fr [] w w' := by
  have H := Lib.hid h
  clear h
  obtain ⟨B, hB⟩ : ∃ B, w.heap.size = B := ⟨_, rfl⟩
  go_enter Try.func37, Try.ntmps37
  rw [hB]
  go_wp2_with fail
  go_loopw [4, 5, 6] (fun v4 v5 i wr => ∃ k : Nat, k ≤ l.length ∧ i = .int .i64 k ∧ wr.ownsRow B 9 1 v4 k (scells ((l.map (·.1)).take k)) ∧ wr.ownsRow B 3 1 v5 k (icells ((l.map (·.2)).take k)) ∧ Apart v4 v5 ∧ Fr [] w wr ∧ B ≤ wr.heap.size) (fun _ _ i _ => l.length - (intOf i).toNat)
  case atStart => exact ⟨0, Nat.zero_le _, rfl, by simp [scells]; exact World.ownsRow_nil _ _ _ _, by simp [icells]; exact World.ownsRow_nil _ _ _ _, fun g hg => by simp [Value.ownBlock] at hg, Fr.refl _ _, by omega⟩
  case round =>
    obtain ⟨k, hk, rfl, ho4, ho5, hap, hfr, hBw⟩ := hrel
    have HO4 := Lib.hid ho4
    have HO5 := Lib.hid ho5
    have HAP := Lib.hid hap
    have HF := Lib.hid hfr
    clear ho4 ho5 hap hfr
    by_cases hlt : k < l.length
    · obtain ⟨b, off, rfl, _, hb, hc⟩ := H.out (by omega)
      obtain ⟨r, hr⟩ : ∃ r, l[k]? = some r := ⟨_, List.getElem?_eq_getElem hlt⟩
      have h1 : wr.cell? ⟨b, off + k * 2, none⟩ = some (.string r.1) := (HF.out.cell (p := ⟨b, _, none⟩) hb (by simp)).trans (hc k r hr).1
      have h2 : wr.cell? ⟨b, off + k * 2 + 1, none⟩ = some (.int .i64 r.2) := (HF.out.cell (p := ⟨b, _, none⟩) hb (by simp)).trans (hc k r hr).2
      have hb2 : b < wr.heap.size := Nat.lt_of_lt_of_le hb HF.out.size
      have HR := Lib.hid hr
      obtain ⟨s, x⟩ := r
      simp only at h1 h2
      clear hc hr
      obtain ⟨i9, hi9, hz90, hz91, hz92⟩ := info_parts info9
      obtain ⟨i3, hi3, hz30, hz31, hz32⟩ := info_parts info3
      go_upto_region 7 with (first
        | (at_builtin; refine wpList_append_any _ rfl (.tmp 13) (.tmp 19) _ rfl B 9 i9 _ 1 16 Try.underlying52 hi9 hz90 hz91 hz92 rfl (by omega) u4 k (scells ((l.map (·.1)).take k)) rfl (own_alloc HO4.out _) (wr.heap.size + 1) (some ⟨wr.heap.size, 0, none⟩) 1 1 (scells [s]) rfl (reads_new wr 9 (scells [s]) 1 rfl) (scells_one _) (by simp only [maxLen]; omega) (by omega) (by simp; omega) ?_; intro v6 w3 hown4 hg4 hat4))
      have hge : ∀ y ∈ u4.ownBlock.toList, B ≤ y := fun y hy => own_ge HO4.out (by simpa using hy)
      have hf3 := ((Fr.refl u4.ownBlock.toList wr).alloc (.cells (scells [s]).toArray 9)).trans (Fr.of_grownO hg4) (fun y hy => .inl hy)
      have h2' : w3.cell? ⟨b, off + k * 2 + 1, none⟩ = some (.int .i64 x) := (hf3.cell (p := ⟨b, _, none⟩) hb2 (fun hm => by have h9 : B ≤ b := hge b hm; omega)).trans h2
      have hz3 : B ≤ w3.heap.size := Nat.le_trans hBw hf3.size
      have hrow : w3.ownsRow B 9 1 v6 (k + 1) (scells ((l.map (·.1)).take (k + 1))) := by
        rw [List.take_add_one, List.getElem?_map, HR.out, Option.map_some, Option.toList_some]
        simp only [scells, List.map_append] at hown4 ⊢
        exact hown4
      have HO4' := Lib.hid hrow
      have HO5' := Lib.hid (hf3.own HO5.out (fun g hg hm => HAP.out g (by simpa using hm) hg))
      have HAP' := Lib.hid (apart_of HAP.out (own_alloc HO5.out (.cells (scells [s]).toArray 9)) hat4)
      have HF3 := Lib.hid (HF.out.trans hf3 (fun y hy => .inr (by have := hge y hy; omega)))
      clear hge hf3 hrow hown4 hg4 hat4 h1 h2 hb hb2
      go_wp2_with (first
        | (at_builtin; refine wpList_append_any _ rfl (.tmp 21) (.tmp 27) _ rfl B 3 i3 _ 1 8 Try.underlying40 hi3 hz30 hz31 hz32 rfl (by omega) u5 k (icells ((l.map (·.2)).take k)) rfl (own_alloc HO5'.out _) (w3.heap.size + 1) (some ⟨w3.heap.size, 0, none⟩) 1 1 (icells [x]) rfl (reads_new w3 3 (icells [x]) 1 rfl) (icells_one _) (by simp only [maxLen]; omega) (by omega) (by simp; omega) ?_; intro v7 w4 hown5 hg5 hat5))
      have hge : ∀ y ∈ u5.ownBlock.toList, B ≤ y := fun y hy => own_ge HO5'.out (by simpa using hy)
      have hf4 := ((Fr.refl u5.ownBlock.toList w3).alloc (.cells (icells [x]).toArray 3)).trans (Fr.of_grownO hg5) (fun y hy => .inl hy)
      have hz4 : B ≤ w4.heap.size := Nat.le_trans hz3 hf4.size
      have hrow : w4.ownsRow B 3 1 v7 (k + 1) (icells ((l.map (·.2)).take (k + 1))) := by
        rw [List.take_add_one, List.getElem?_map, HR.out, Option.map_some, Option.toList_some]
        simp only [icells, List.map_append] at hown5 ⊢
        exact hown5
      have HALL := Lib.hid (And.intro (hf4.own HO4'.out (fun g hg hm => HAP'.out g hg (by simpa using hm))) (And.intro hrow (And.intro (apart_of HAP'.out.symm (own_alloc HO4'.out (.cells (icells [x]).toArray 3)) hat5).symm (HF3.out.trans hf4 (fun y hy => .inr (by have := hge y hy; omega))))))
      clear hge hf4 hrow hown5 hg5 hat5
      go_wp2_with fail
      go_roundw
      case rel => exact ⟨k + 1, by omega, by go_num, HALL.out.1, HALL.out.2.1, HALL.out.2.2.1, HALL.out.2.2.2, hz4⟩
      case measure => simp [intOf]; omega
    · obtain rfl : k = l.length := by omega
      have hs := HO4.out
      have hx := HO5.out
      rw [List.take_of_length_le (by simp)] at hs hx
      have e1 : l.length = (l.map (·.1)).length := by simp
      have e2 : l.length = (l.map (·.2)).length := by simp
      rw [e1] at hs
      rw [e2] at hx
      obtain ⟨A1, c1, rfl, hS⟩ := strs_of_own hs
      obtain ⟨A2, c2, rfl, hI⟩ := ints_of_own hx
      have HS := Lib.hid hS
      have HI := Lib.hid hI
      rw [← e1]
      rw [← e2]
      clear hs hx hS hI e1 e2
      go_wp2_with fail
      refine bodyPost_ret (v := .tuple #[.slice A1 l.length c1, .slice A2 l.length c2]) (by simp [results, Try.results37, go_sem]) rfl (by first | exact ⟨A1, c1, A2, c2, rfl, HS.out, HI.out, HF.out⟩ | exact ⟨A1, c1, A2, ⟨c2, rfl⟩, HS.out, HI.out, HF.out⟩ | exact ⟨A1, ⟨c1, A2, ⟨c2, rfl⟩, HI.out⟩, HS.out, HF.out⟩ | (trace_state; exact ⟨A1, ⟨c1, c2, rfl⟩, HS.out, HI.out, HF.out⟩))

/-- great of runners. -/
def greatL (key : List Int) (l : List (ByteArray × Int)) : Bool := greatK key (l.map (·.1))

theorem greatL_calls (key : List Int) (A : Option Addr) (ca : Nat) (l : List (ByteArray × Int)) (B : Option Addr) (c : Nat) (w : World) (h : RunsAt w B l (fun _ => True)) (hkl : key.length ≤ 9223372036854775807) (hl : l.length * 24 ≤ 140737488355328) (hz : ∀ r ∈ l, r.1.size ≤ 9223372036854775807) :
    Calls Try.prog 18 #[.slice A key.length ca, .slice B l.length c] w fun e w' => e = .returned (.bool (greatL key l)) ∧ Fr [] w w' := by
  have HR := Lib.hid (row_calls l B c w h hl)
  have HG := Lib.hid (fun A1 c1 W (hS : StrsAt W A1 (l.map (·.1)) (fun _ => True)) => great_calls key (l.map (·.1)) A A1 ca c1 W hS hkl (by simp; omega) (by simpa using fun a b hab => hz (a, b) hab))
  have HE : Hid ((l.map (·.1)).length = l.length) := Lib.hid (by simp)
  rw [HE.out] at HG
  obtain ⟨g, hg⟩ : ∃ g, greatL key l = g := ⟨_, rfl⟩
  have hg' : greatK key (l.map (·.1)) = g := hg
  rw [hg'] at HG
  rw [hg]
  clear h hz hg hg'
  go_enter Try.func18, Try.ntmps18
  go_wp2_with fail
  refine HR.out.mono ?_
  rintro e w1 ⟨A1, c1, A2, c2, rfl, hS, hI, hf⟩
  have HF := Lib.hid hf
  have HC := Lib.hid (HG.out A1 c1 w1 (hS.imp (fun _ _ _ => trivial)))
  clear hS hI hf
  go_wp2_with fail
  refine HC.out.mono ?_
  rintro e w2 ⟨rfl, rfl⟩
  go_wp2_with fail
  go_ret
  exact ⟨rfl, HF.out⟩

/-- The order of runners by the program's order. -/
def ordL (key : List Int) (l : List (ByteArray × Int)) : List Int := ordS key (l.map (·.1)) (l.map (·.2))
theorem ordL_len (key : List Int) (l : List (ByteArray × Int)) : (ordL key l).length = l.length := by simp [ordL, ordS_len]

theorem orderL_calls (key : List Int) (A : Option Addr) (ca : Nat) (l : List (ByteArray × Int)) (B : Option Addr) (c : Nat) (w : World) (hX : BytesAt w A key (fun _ => True)) (hb : Byts key) (h : RunsAt w B l (fun _ => True)) (hkl : key.length ≤ 1000) (hl : l.length ≤ 1000) (hz : ∀ r ∈ l, r.1.size ≤ 100) (hw : ∀ r ∈ l, -9223372036854775808 ≤ r.2 ∧ r.2 ≤ 9223372036854775807) :
    Calls Try.prog 19 #[.slice A key.length ca, .slice B l.length c] w fun e w' => ∃ A1 c1, e = .returned (.slice A1 l.length c1) ∧ IntsAt w' A1 (ordL key l) (fun b => w.heap.size ≤ b) ∧ Fr [] w w' := by
  have HR := Lib.hid (row_calls l B c w h (by omega))
  have HO := Lib.hid (fun A1 c1 A2 c2 W (hX' : BytesAt W A key (fun _ => True)) (hS : StrsAt W A1 (l.map (·.1)) (fun _ => True)) (hI : IntsAt W A2 (l.map (·.2)) (fun _ => True)) => order_calls key A ca (l.map (·.1)) A1 c1 (l.map (·.2)) A2 c2 W hX' hb hkl hS (by simpa using fun a b hab => hz (a, b) hab) hI (by simpa using fun a b hab => hw (b, a) hab) (by simpa using hl) (by simp; omega))
  have HE : Hid ((l.map (·.1)).length = l.length ∧ (l.map (·.2)).length = l.length) := Lib.hid (by simp)
  rw [HE.out.1, HE.out.2, Nat.min_self] at HO
  have HX := Lib.hid hX
  have HL := Lib.hid (ordL_len key l)
  clear hX h hz hw hb
  go_enter Try.func19, Try.ntmps19
  go_wp2_with fail
  refine HR.out.mono ?_
  rintro e w1 ⟨A1, c1, A2, c2, rfl, hS, hI, hf⟩
  have HF := Lib.hid hf
  have HC := Lib.hid (HO.out A1 c1 A2 c2 w1 (HX.out.fr hf (by simp)) (hS.imp (fun _ _ _ => trivial)) (fun hp => by obtain ⟨b, off, e, _, r⟩ := hI hp; exact ⟨b, off, e, trivial, r⟩))
  clear hS hI hf
  go_wp2_with fail
  refine HC.out.mono ?_
  rintro e w2 ⟨v, rfl, ho, hf2⟩
  rw [← HL.out] at ho
  obtain ⟨A3, c3, rfl, hI⟩ := ints_of_own ho
  rw [HL.out]
  have HI := Lib.hid hI
  have HF2 := Lib.hid (HF.out.trans hf2 (by simp))
  have HZ := Lib.hid HF.out.size
  clear hI hf2 ho
  go_wp2_with fail
  go_ret
  exact ⟨A3, c3, rfl, fun hp => by obtain ⟨b, off, e, hb, r⟩ := HI.out hp; exact ⟨b, off, e, Nat.le_trans HZ.out hb, r⟩, HF2.out⟩

end Go.Proofs.Ytkioniffgmalgaa
