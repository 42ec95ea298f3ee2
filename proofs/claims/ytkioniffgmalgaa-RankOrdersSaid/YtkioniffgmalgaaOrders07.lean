/-
  RankOrders' walk.
-/
import Derived.Test.YtkioniffgmalgaaRefOrd
import Derived.BigQuiet
namespace Go.Proofs.Ytkioniffgmalgaa
open Go.RowKit Go.Sort Sp
set_option linter.unusedVariables false

theorem ownsRow_empty1 (w : World) (e : TypeId) (base : Nat) (h : base ≤ w.heap.size) : (w.alloc (.cells #[] e)).ownsRow base e 1 (.slice (some ⟨w.heap.size, 0, none⟩) 0 0) 0 [] := by
  refine ⟨by simp, .inr ⟨w.heap.size, 0, #[], rfl, h, heap_alloc_new w _, ?_⟩⟩
  simp
theorem IntsAt.reads {w : World} {A : Option Addr} {l : List Int} (h : IntsAt w A l (fun _ => True)) : Reads w w.heap.size 1 A l.length (icells l) := by
  refine ⟨by simp [icells], fun hn => ?_⟩
  obtain ⟨b, off, rfl, _, hb, hc⟩ := h hn
  refine ⟨_, rfl, hb, fun j u hu => ?_⟩
  simp only [icells, List.getElem?_map, Option.map_eq_some_iff] at hu
  obtain ⟨s, hs, rfl⟩ := hu
  have hadd : (⟨b, off, none⟩ : Addr).add j = ⟨b, off + j, none⟩ := by unfold Addr.add; split <;> simp_all
  rw [hadd]
  exact hc j s hs
theorem StrsAt.reads {w : World} {A : Option Addr} {l : List ByteArray} (h : StrsAt w A l (fun _ => True)) : Reads w w.heap.size 1 A l.length (scells l) := by
  refine ⟨by simp [scells], fun hn => ?_⟩
  obtain ⟨b, off, rfl, _, hb, hc⟩ := h hn
  refine ⟨_, rfl, hb, fun j u hu => ?_⟩
  simp only [scells, List.getElem?_map, Option.map_eq_some_iff] at hu
  obtain ⟨s, hs, rfl⟩ := hu
  have hadd : (⟨b, off, none⟩ : Addr).add j = ⟨b, off + j, none⟩ := by unfold Addr.add; split <;> simp_all
  rw [hadd]
  exact hc j s hs
theorem IntsAt.any {w : World} {A : Option Addr} {ns : List Int} {ok : Nat → Prop} (h : IntsAt w A ns ok) : IntsAt w A ns (fun _ => True) := fun hp => by
  obtain ⟨b, off, e, _, hb, hc⟩ := h hp
  exact ⟨b, off, e, trivial, hb, hc⟩

set_option maxHeartbeats 1000000 in
theorem orders_yes (key : List Int) (A : Option Addr) (ca : Nat) (ns : List ByteArray) (B : Option Addr) (cb : Nat) (ws : List Int) (C : Option Addr) (cc : Nat) (w : World)
    (hN : StrsAt w B ns (fun _ => True)) (hkl : key.length ≤ 9223372036854775807) (hs : ∀ s ∈ ns, s.size ≤ 9223372036854775807) (hl : ns.length ≤ 9223372036854775807) (hl2 : ws.length ≤ 9223372036854775807) (hg : greatK key ns = true ∨ (greatK key ns = false ∧ 30 < ws.length)) :
    Calls Try.prog 9 #[.slice A key.length ca, .slice B ns.length cb, .slice C ws.length cc] w fun e w' => e = .returned (.bool true) ∧ Fr [] w w' := by
  rcases hg with hg | ⟨hg, h30⟩
  · have HG := Lib.hid (hg ▸ great_calls key ns A B ca cb w hN hkl hl hs)
    clear hN hs hg
    go_enter Try.func9, Try.ntmps9
    go_wp2_with fail
    refine HG.out.mono ?_
    rintro e w2 ⟨rfl, rfl⟩
    go_wp2_with fail
    go_ret
    exact ⟨rfl, Fr.refl _ _⟩
  · have HG := Lib.hid (hg ▸ great_calls key ns A B ca cb w hN hkl hl hs)
    have hd : decide (30 < (ws.length : Int)) = true := by simp; omega
    clear hN hs hg
    go_enter Try.func9, Try.ntmps9
    go_wp2_with fail
    refine HG.out.mono ?_
    rintro e w2 ⟨rfl, rfl⟩
    go_wp2_with fail
    go_ret
    exact ⟨rfl, Fr.refl _ _⟩

set_option maxRecDepth 100000 in
set_option maxHeartbeats 4000000 in
theorem orders_good (key : List Int) (A : Option Addr) (ca : Nat) (ns : List ByteArray) (B : Option Addr) (cb : Nat) (ws : List Int) (C : Option Addr) (cc : Nat) (w : World)
    (hX : BytesAt w A key (fun _ => True)) (hb : Byts key) (hN : StrsAt w B ns (fun _ => True)) (hW : IntsAt w C ws (fun _ => True)) (hws : ∀ x ∈ ws, -9223372036854775808 ≤ x ∧ x ≤ 9223372036854775807) (hkl : key.length ≤ 9223372036854775807) (hs : ∀ s ∈ ns, s.size ≤ 9223372036854775807) (hl : ns.length ≤ 9223372036854775807) (hl2 : ws.length ≤ 30) (hg : greatK key ns = false) :
    Calls Try.prog 9 #[.slice A key.length ca, .slice B ns.length cb, .slice C ws.length cc] w fun e w' => e = .returned (.bool true) ∧ Fr [] w w' := by
  have hgr : key.length ≤ 100 ∧ ns.length ≤ 16 ∧ ∀ s ∈ ns, s.size ≤ 40 := by
    simp [greatK] at hg
    refine ⟨by omega, by omega, fun r hr => by have := hg.2 r hr; omega⟩
  have HG := Lib.hid (hg ▸ great_calls key ns A B ca cb w hN hkl hl hs)
  have hs40 : ∀ s ∈ ns, s.size ≤ 100 := fun s h => by have := hgr.2.2 s h; omega
  have HO := Lib.hid (fun B' cb' C' cc' W hX hN hW => order_calls key A ca ns B' cb' ws C' cc' W hX hb (by omega) hN hs40 hW hws (by omega) (by omega))
  have HRO := Lib.hid (fun W hX hN hW => refOrder_calls key A ca ns B cb ws C cc W hX hb (by omega) hN hs40 hW hws (by omega) (by omega))
  have HOL := Lib.hid (ordS_len key ns ws)
  have HX := Lib.hid hX
  have HN := Lib.hid hN
  have HW := Lib.hid hW
  obtain ⟨oa, hoa⟩ : ∃ oa, ordS key ns ws = oa := ⟨_, rfl⟩
  rw [hoa] at HO HRO HOL
  rw [← HOL.out] at HO HRO
  have hoL : oa.length ≤ 1000 := by rw [HOL.out]; omega
  have hsmO : ∀ A1 A2 c1 c2 W h1 h2, _ := fun A1 A2 c1 c2 W h1 h2 => same_calls oa oa A1 A2 c1 c2 W h1 h2 (by omega) (by omega)
  rw [show decide (oa = oa) = true by simp] at hsmO
  have HSO := Lib.hid hsmO
  have hsmW : ∀ A1 A2 c1 c2 W h1 h2, _ := fun A1 A2 c1 c2 W h1 h2 => same_calls ws ws A1 A2 c1 c2 W h1 h2 (by omega) (by omega)
  rw [show decide (ws = ws) = true by simp] at hsmW
  have HSW := Lib.hid hsmW
  have hn16 := hgr.2.1
  have hd : decide (30 < (ws.length : Int)) = false := by simp; omega
  obtain ⟨i3, hi3, hz30, hz31, hz32⟩ := info_parts info3
  obtain ⟨i9, hi9, hz90, hz91, hz92⟩ := info_parts info9
  have hrd1 := (HW.out.fr (Fr.alloc (Fr.refl [] w) (.cells #[] 3)) (by simp)).reads
  have HRD1 := Lib.hid hrd1
  clear hX hb hN hW hws hkl hs hl hg hgr hs40 hoa hsmO hsmW hrd1
  go_enter Try.func9, Try.ntmps9
  go_wp2_with fail
  refine HG.out.mono ?_
  rintro e w2 ⟨rfl, rfl⟩
  go_upto_region 4 with (first
    | (at_builtin; refine wpList_append_any _ rfl (.tmp 19) (.tmp 20) _ rfl w.heap.size 3 i3 _ 1 8 Try.underlying40 hi3 hz30 hz31 hz32 rfl (by omega) (.slice (some ⟨w.heap.size, 0, none⟩) 0 0) 0 [] rfl (ownsRow_empty1 w 3 w.heap.size (Nat.le_refl _)) _ C ws.length cc (icells ws) rfl HRD1.out (icells_one _) (by simp only [maxLen]; omega) (by omega) (by simp) ?_; intro v3 w3 hown4 hg4 hat4))
  rw [Nat.zero_add, List.nil_append] at hown4
  have hf3 := ((Fr.refl [] w).alloc (.cells #[] 3)).trans (Fr.of_grownO hg4) (fun y hy => .inr (by simp [Value.ownBlock] at hy; omega))
  obtain ⟨A3, c3, rfl, hI3⟩ := ints_of_own hown4
  have HI3 := Lib.hid hI3.any
  have HF3 := Lib.hid hf3
  have hrd2 := ((HN.out.fr hf3 (by simp)).fr (Fr.alloc (Fr.refl [] w3) (.cells #[] 9)) (by simp)).reads
  have HRD2 := Lib.hid hrd2
  clear hown4 hg4 hat4 hf3 hI3 hrd2
  go_upto_region 5 with (first
    | (at_builtin; refine wpList_append_any _ rfl (.tmp 22) (.tmp 23) _ rfl w3.heap.size 9 i9 _ 1 16 Try.underlying52 hi9 hz90 hz91 hz92 rfl (by omega) (.slice (some ⟨w3.heap.size, 0, none⟩) 0 0) 0 [] rfl (ownsRow_empty1 w3 9 w3.heap.size (Nat.le_refl _)) _ B ns.length cb (scells ns) rfl HRD2.out (scells_one _) (by simp only [maxLen]; omega) (by omega) (by simp) ?_; intro v4 w4 hown4 hg4 hat4))
  rw [Nat.zero_add, List.nil_append] at hown4
  have hf4 := ((Fr.refl [] w3).alloc (.cells #[] 9)).trans (Fr.of_grownO hg4) (fun y hy => .inr (by simp [Value.ownBlock] at hy; omega))
  obtain ⟨A4, c4, rfl, hS4⟩ := strs_of_own hown4
  have HS4 := Lib.hid (hS4.imp (ok' := fun _ => True) (fun _ _ _ => trivial))
  have HF4 := Lib.hid (HF3.out.trans hf4 (by simp))
  have HI4 := Lib.hid (HI3.out.fr hf4 (by simp))
  clear hown4 hg4 hat4 hf4 hS4
  go_wp2_with fail
  refine (HO.out A4 c4 A3 c3 w4 (HX.out.fr HF4.out (by simp)) HS4.out HI4.out).mono ?_
  rintro e w5 ⟨v5, rfl, ho5, hf5⟩
  obtain ⟨A5, c5, rfl, hI5⟩ := ints_of_own ho5
  have HI5 := Lib.hid hI5.any
  have HF5 := Lib.hid hf5
  have HFW := Lib.hid (HF4.out.trans hf5 (by simp))
  clear ho5 hI5 hf5
  go_wp2_with fail
  go_loopw [10] (fun i wr => ∃ k : Nat, k ≤ ns.length ∧ i = .int .i64 k ∧ Fr [] w5 wr) (fun i _ => ns.length - (intOf i).toNat)
  case atStart => exact ⟨0, Nat.zero_le _, rfl, Fr.refl _ _⟩
  case round =>
    obtain ⟨k, hk, rfl, hf6⟩ := hrel
    have HF6 := Lib.hid hf6
    clear hf6
    by_cases hlt : k < ns.length
    · obtain ⟨b1, o1, rfl, _, hb1, hc1⟩ := (HS4.out.fr (HF5.out.trans HF6.out (by simp)) (by simp)) (by omega)
      obtain ⟨b2, o2, rfl, _, hb2, hc2⟩ := (HN.out.fr (HFW.out.trans HF6.out (by simp)) (by simp)) (by omega)
      obtain ⟨s, hs⟩ : ∃ s, ns[k]? = some s := ⟨_, List.getElem?_eq_getElem hlt⟩
      have h1 := hc1 k s hs
      have h2 := hc2 k s hs
      clear hc1 hc2 hs
      go_wp2_with fail
      go_quiet (fail)
      go_wp2_with fail
      go_roundw
      case rel => exact ⟨k + 1, by omega, by go_num, HF6.out.drewN _⟩
      case measure => simp [intOf]; omega
    · obtain rfl : k = ns.length := by omega
      have HF7 := Lib.hid (HFW.out.trans HF6.out (by simp))
      go_wp2_with fail
      refine (HRO.out wr (HX.out.fr HF7.out (by simp)) (HN.out.fr HF7.out (by simp)) (HW.out.fr HF7.out (by simp))).mono ?_
      rintro e w8 ⟨v8, rfl, ho8, hf8⟩
      obtain ⟨A8, c8, rfl, hI8⟩ := ints_of_own ho8
      have HI8 := Lib.hid hI8.any
      have HF8 := Lib.hid hf8
      clear ho8 hI8 hf8
      go_wp2_with fail
      refine (HSO.out A5 A8 c5 c8 w8 ((HI5.out.fr HF6.out (by simp)).fr HF8.out (by simp)) HI8.out).mono ?_
      rintro e w9 ⟨rfl, hf9⟩
      have HF9 := Lib.hid (HF8.out.trans hf9 (by simp))
      clear hf9
      go_wp2_with fail
      refine (HSW.out A3 C c3 cc w9 ((HI4.out.fr HF5.out (by simp)).fr (HF6.out.trans HF9.out (by simp)) (by simp)) (HW.out.fr (HF7.out.trans HF9.out (by simp)) (by simp))).mono ?_
      rintro e w10 ⟨rfl, hf10⟩
      have HF10 := Lib.hid ((HF7.out.trans HF9.out (by simp)).trans hf10 (by simp))
      clear hf10
      go_wp2_with fail
      go_ret
      exact ⟨rfl, HF10.out⟩

theorem orders_calls (key : List Int) (A : Option Addr) (ca : Nat) (ns : List ByteArray) (B : Option Addr) (cb : Nat) (ws : List Int) (C : Option Addr) (cc : Nat) (w : World)
    (hX : BytesAt w A key (fun _ => True)) (hb : Byts key) (hN : StrsAt w B ns (fun _ => True)) (hW : IntsAt w C ws (fun _ => True)) (hws : ∀ x ∈ ws, -9223372036854775808 ≤ x ∧ x ≤ 9223372036854775807) (hkl : key.length ≤ 9223372036854775807) (hs : ∀ s ∈ ns, s.size ≤ 9223372036854775807) (hl : ns.length ≤ 9223372036854775807) (hl2 : ws.length ≤ 9223372036854775807) :
    Calls Try.prog 9 #[.slice A key.length ca, .slice B ns.length cb, .slice C ws.length cc] w fun e w' => e = .returned (.bool true) ∧ Fr [] w w' := by
  cases hg : greatK key ns with
  | true => exact orders_yes key A ca ns B cb ws C cc w hN hkl hs hl hl2 (.inl hg)
  | false =>
    rcases Nat.lt_or_ge 30 ws.length with h0 | h0
    · exact orders_yes key A ca ns B cb ws C cc w hN hkl hs hl hl2 (.inr ⟨hg, h0⟩)
    · exact orders_good key A ca ns B cb ws C cc w hX hb hN hW hws hkl hs hl h0 hg

end Go.Proofs.Ytkioniffgmalgaa
