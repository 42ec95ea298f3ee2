/-
  RingNil's walk.
-/
import Derived.Test.YtokdcddmljfgnaaRing0
import Derived.Test.YtokdcddmljfgnaaGreat
namespace Go.Proofs.Ytokdcddmljfgnaa
open Go.RowKit
set_option linter.unusedVariables false

theorem ActD.ok.more {w : World} {B B' : Nat} {a : ActD} (h : a.ok w B) (hB : B ≤ B') : a.ok w B' := ⟨h.1.imp (fun b _ hb => by omega), h.2⟩

set_option maxRecDepth 100000 in
set_option maxHeartbeats 1000000 in
theorem nil_calls (a : ActD) (w : World) (ha : a.ok w w.heap.size) :
    Calls Try.prog 3 #[.agg #[.int .u8 a.kind, .int .i64 a.n, .slice a.at_ a.bs.length a.cap]] w fun e w' => e = .returned (.bool true) ∧ Fr [] w w' := by
  have HA := Lib.hid ha
  have hn1 := ha.2.2.2.2.1
  have hn2 := ha.2.2.2.2.2.1
  have hc := ha.2.2.2.2.2.2.1
  have hc2 := ha.2.2.2.2.2.2.2
  clear ha
  go_enter Try.func3, Try.ntmps3
  go_wp2_with fail
  have hB1 : Blk ((w.alloc (.cells #[.int .u8 a.kind, .int .i64 a.n, .slice a.at_ a.bs.length a.cap] 24)).alloc (.cells #[.int .u8 a.kind, .int .i64 a.n, .slice a.at_ a.bs.length a.cap] 24)) w.heap.size 24 #[.int .u8 a.kind, .int .i64 a.n, .slice a.at_ a.bs.length a.cap] := (Blk.new w 24 _).alloc _
  have hB2 : Blk ((w.alloc (.cells #[.int .u8 a.kind, .int .i64 a.n, .slice a.at_ a.bs.length a.cap] 24)).alloc (.cells #[.int .u8 a.kind, .int .i64 a.n, .slice a.at_ a.bs.length a.cap] 24)) (w.heap.size + 1) 24 #[.int .u8 a.kind, .int .i64 a.n, .slice a.at_ a.bs.length a.cap] := by
    have := Blk.new (w.alloc (.cells #[.int .u8 a.kind, .int .i64 a.n, .slice a.at_ a.bs.length a.cap] 24)) 24 #[.int .u8 a.kind, .int .i64 a.n, .slice a.at_ a.bs.length a.cap]
    rwa [World.size_alloc] at this
  refine (great_calls (some ⟨w.heap.size + 1, 0, none⟩) 1 [a] (w.heap.size + 2) _ ⟨fun _ => ⟨w.heap.size + 1, 0, rfl, by omega, fun i a' ha' => ?_⟩, fun a' ha' => ?_⟩ (by simp)).mono ?_
  · cases i with
    | zero => simp at ha'; subst ha'; exact ⟨hB2.cell 0, hB2.cell 1, hB2.cell 2⟩
    | succ i => simp at ha'
  · simp at ha'; subst ha'
    exact (((HA.out.fr ((Fr.refl [] w).alloc _) (Nat.le_refl _) (by simp)).fr ((Fr.refl [] _).alloc _) (by simp) (by simp)).more (by omega))
  rintro e w2 ⟨rfl, rfl⟩
  cases hg : greatB [a]
  · go_wp2_with fail
    obtain ⟨w0, hw0⟩ : ∃ w0, w0 = (((w.alloc (.cells #[.int .u8 a.kind, .int .i64 a.n, .slice a.at_ a.bs.length a.cap] 24)).alloc (.cells #[.int .u8 a.kind, .int .i64 a.n, .slice a.at_ a.bs.length a.cap] 24)).alloc
      (.cells #[.slice none 0 0, .int .i64 0, .int .i64 0] 29)).alloc (.cells #[.pointer none, .pointer (some ⟨w.heap.size + 1 + 1, 0, none⟩)] 27) := ⟨_, rfl⟩
    have hsz : w0.heap.size = w.heap.size + 4 := by rw [hw0]; simp
    have hfw : Fr [] w w0 := by rw [hw0]; exact ((((Fr.refl [] w).alloc _).alloc _).alloc _).alloc _
    have hA0 : Blk w0 w.heap.size 24 #[.int .u8 a.kind, .int .i64 a.n, .slice a.at_ a.bs.length a.cap] := by rw [hw0]; exact (hB1.alloc _).alloc _
    have hR0 : Blk w0 (w.heap.size + 2) 29 #[.slice none 0 0, .int .i64 0, .int .i64 0] := by
      rw [hw0]
      have := (Blk.new ((w.alloc (.cells #[.int .u8 a.kind, .int .i64 a.n, .slice a.at_ a.bs.length a.cap] 24)).alloc (.cells #[.int .u8 a.kind, .int .i64 a.n, .slice a.at_ a.bs.length a.cap] 24)) 29 #[.slice none 0 0, .int .i64 0, .int .i64 0]).alloc (.cells #[.pointer none, .pointer (some ⟨w.heap.size + 1 + 1, 0, none⟩)] 27)
      simpa only [World.size_alloc] using this
    have hL0 : Blk w0 (w.heap.size + 3) 27 #[.pointer none, .pointer (some ⟨w.heap.size + 1 + 1, 0, none⟩)] := by
      rw [hw0]
      have := Blk.new (((w.alloc (.cells #[.int .u8 a.kind, .int .i64 a.n, .slice a.at_ a.bs.length a.cap] 24)).alloc (.cells #[.int .u8 a.kind, .int .i64 a.n, .slice a.at_ a.bs.length a.cap] 24)).alloc (.cells #[.slice none 0 0, .int .i64 0, .int .i64 0] 29)) 27 #[.pointer none, .pointer (some ⟨w.heap.size + 1 + 1, 0, none⟩)]
      simpa only [World.size_alloc] using this
    clear hB1 hB2 hg
    rw [← hw0]
    clear hw0
    go_loopw [5] (fun i wr => ∃ k : Nat, k ≤ 2 ∧ i = .int .i64 k ∧ Fr [] w0 wr) (fun i _ => 2 - (intOf i).toNat)
    case atStart => exact ⟨0, by omega, rfl, Fr.refl _ _⟩
    case round =>
      obtain ⟨k, hk, rfl, hfr⟩ := hrel
      by_cases hlt : k < 2
      · obtain ⟨p, hp, hRd⟩ : ∃ p, wr.cell? ⟨w.heap.size + 1 + 1 + 1, k, none⟩ = some (.pointer p) ∧ Rd wr p 0 0 := by
          have hL1 := hfr.blk hL0 (by simp)
          have hR1 := hfr.blk hR0 (by simp)
          rcases (by omega : k = 0 ∨ k = 1) with rfl | rfl
          · exact ⟨none, hL1.cell 0, .inl ⟨rfl, rfl, rfl⟩⟩
          · exact ⟨_, hL1.cell 1, .inr ⟨w.heap.size + 2, none, 0, rfl, hR1.lt, hR1.cell 0, hR1.cell 2, by omega, by omega⟩⟩
        have hA1 := hfr.blk hA0 (by simp)
        have hc1 : wr.cell? ⟨w.heap.size, 1, none⟩ = some (.int .i64 a.n) := hA1.cell 1
        have hc2' : wr.cell? ⟨w.heap.size, 2, none⟩ = some (.slice a.at_ a.bs.length a.cap) := hA1.cell 2
        have HR := Lib.hid hRd
        have HF := Lib.hid hfr
        have HFW := Lib.hid hfw
        clear hRd hfr hfw hL0 hR0 hA0
        go_wp2_with fail
        refine (put_none p 0 0 a.at_ a.bs.length a.cap wr HR.out (by omega) (.inr rfl)).mono ?_
        rintro e w1 ⟨rfl, hf1⟩
        have hd1 : w1.cell? ⟨w.heap.size, 1, none⟩ = some (.int .i64 a.n) := (hf1.cell (p := ⟨w.heap.size, 1, none⟩) hA1.lt (by simp)).trans hc1
        have HR1 := Lib.hid (HR.out.fr hf1 (by simp))
        have HF1 := Lib.hid hf1
        clear hf1
        go_wp2_with fail
        refine (peek_none p 0 a.n w1 HR1.out ⟨hn1, hn2⟩).mono ?_
        rintro e w2 ⟨rfl, rfl⟩
        go_wp2_with fail
        refine (take_nil p a.n w1 HR1.out ⟨hn1, hn2⟩).mono ?_
        rintro e w2 ⟨rfl, rfl⟩
        go_wp2_with fail
        refine (skip_nil p a.n w1 HR1.out).mono ?_
        rintro e w2 ⟨rfl, rfl⟩
        go_wp2_with fail
        refine (len_calls p 0 0 w1 HR1.out).mono ?_
        rintro e w2 ⟨rfl, rfl⟩
        go_wp2_with fail
        refine (room_calls p 0 0 w1 HR1.out).mono ?_
        rintro e w2 ⟨rfl, rfl⟩
        go_wp2_with fail
        refine (size_calls p 0 0 w1 HR1.out).mono ?_
        rintro e w2 ⟨rfl, rfl⟩
        go_wp2_with fail
        go_roundw
        case rel => exact ⟨k + 1, by omega, by go_num, HF.out.trans HF1.out (by simp)⟩
        case measure => simp [intOf]; omega
      · obtain rfl : k = 2 := by omega
        go_wp2_with fail
        go_ret
        exact ⟨rfl, hfw.trans hfr (by simp)⟩
  · go_wp2_with fail
    go_ret
    exact ⟨rfl, ((Fr.refl [] w).alloc _).alloc _⟩

end Go.Proofs.Ytokdcddmljfgnaa
