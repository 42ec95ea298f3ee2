/-
  RelayNil's walk.
-/
import Derived.Test.YtokdcddmljfgnaaRelay0
import Derived.Test.YtokdcddmljfgnaaGreat26
namespace Go.Proofs.Ytokdcddmljfgnaa
open Go.RowKit
set_option linter.unusedVariables false

theorem ActR.ok.more {w : World} {B B' : Nat} {a : ActR} (h : a.ok w B) (hB : B ≤ B') : a.ok w B' := ⟨h.1.imp (fun b _ hb => by omega), h.2⟩

set_option maxRecDepth 100000 in
set_option maxHeartbeats 1000000 in
theorem rnil_calls (a : ActR) (w : World) (ha : a.ok w w.heap.size) :
    Calls Try.prog 8 #[.agg #[.int .u8 a.kind, .int .i64 a.side, .int .i64 a.n, .slice a.at_ a.bs.length a.cap]] w fun e w' => e = .returned (.bool true) ∧ Fr [] w w' := by
  have HA := Lib.hid ha
  have hc := ha.2.2.2.2.2.2.2.1
  have hc2 := ha.2.2.2.2.2.2.2.2
  clear ha
  go_enter Try.func8, Try.ntmps8
  go_wp2_with fail
  have hB1 : Blk ((w.alloc (.cells #[.int .u8 a.kind, .int .i64 a.side, .int .i64 a.n, .slice a.at_ a.bs.length a.cap] 54)).alloc (.cells #[.int .u8 a.kind, .int .i64 a.side, .int .i64 a.n, .slice a.at_ a.bs.length a.cap] 54)) w.heap.size 54 #[.int .u8 a.kind, .int .i64 a.side, .int .i64 a.n, .slice a.at_ a.bs.length a.cap] := (Blk.new w 54 _).alloc _
  have hB2 : Blk ((w.alloc (.cells #[.int .u8 a.kind, .int .i64 a.side, .int .i64 a.n, .slice a.at_ a.bs.length a.cap] 54)).alloc (.cells #[.int .u8 a.kind, .int .i64 a.side, .int .i64 a.n, .slice a.at_ a.bs.length a.cap] 54)) (w.heap.size + 1) 54 #[.int .u8 a.kind, .int .i64 a.side, .int .i64 a.n, .slice a.at_ a.bs.length a.cap] := by
    have := Blk.new (w.alloc (.cells #[.int .u8 a.kind, .int .i64 a.side, .int .i64 a.n, .slice a.at_ a.bs.length a.cap] 54)) 54 #[.int .u8 a.kind, .int .i64 a.side, .int .i64 a.n, .slice a.at_ a.bs.length a.cap]
    rwa [World.size_alloc] at this
  refine (greatR_calls (some ⟨w.heap.size + 1, 0, none⟩) 1 [a] (w.heap.size + 2) _ ⟨fun _ => ⟨w.heap.size + 1, 0, rfl, by omega, fun i a' ha' => ?_⟩, fun a' ha' => ?_⟩ (by simp)).mono ?_
  · cases i with
    | zero => simp at ha'; subst ha'; exact ⟨hB2.cell 0, hB2.cell 1, hB2.cell 2, hB2.cell 3⟩
    | succ i => simp at ha'
  · simp at ha'; subst ha'
    exact (((HA.out.fr ((Fr.refl [] w).alloc _) (Nat.le_refl _) (by simp)).fr ((Fr.refl [] _).alloc _) (by simp) (by simp)).more (by omega))
  rintro e w2 ⟨rfl, rfl⟩
  cases hg : greatRB [a]
  · go_wp2_with fail
    obtain ⟨w0, hw0⟩ : ∃ w0, w0 = (((w.alloc (.cells #[.int .u8 a.kind, .int .i64 a.side, .int .i64 a.n, .slice a.at_ a.bs.length a.cap] 54)).alloc (.cells #[.int .u8 a.kind, .int .i64 a.side, .int .i64 a.n, .slice a.at_ a.bs.length a.cap] 54)).alloc
      (.cells #[.pointer none, .bool false, .bool false, .pointer none, .bool false, .bool false] 62)).alloc (.cells #[.pointer none, .pointer (some ⟨w.heap.size + 1 + 1, 0, none⟩)] 57) := ⟨_, rfl⟩
    have hsz : w0.heap.size = w.heap.size + 4 := by rw [hw0]; simp
    have hfw : Fr [] w w0 := by rw [hw0]; exact ((((Fr.refl [] w).alloc _).alloc _).alloc _).alloc _
    have hA0 : Blk w0 w.heap.size 54 #[.int .u8 a.kind, .int .i64 a.side, .int .i64 a.n, .slice a.at_ a.bs.length a.cap] := by rw [hw0]; exact (hB1.alloc _).alloc _
    have hR0 : Blk w0 (w.heap.size + 2) 62 #[.pointer none, .bool false, .bool false, .pointer none, .bool false, .bool false] := by
      rw [hw0]
      have := (Blk.new ((w.alloc (.cells #[.int .u8 a.kind, .int .i64 a.side, .int .i64 a.n, .slice a.at_ a.bs.length a.cap] 54)).alloc (.cells #[.int .u8 a.kind, .int .i64 a.side, .int .i64 a.n, .slice a.at_ a.bs.length a.cap] 54)) 62 #[.pointer none, .bool false, .bool false, .pointer none, .bool false, .bool false]).alloc (.cells #[.pointer none, .pointer (some ⟨w.heap.size + 1 + 1, 0, none⟩)] 57)
      simpa only [World.size_alloc] using this
    have hL0 : Blk w0 (w.heap.size + 3) 57 #[.pointer none, .pointer (some ⟨w.heap.size + 1 + 1, 0, none⟩)] := by
      rw [hw0]
      have := Blk.new (((w.alloc (.cells #[.int .u8 a.kind, .int .i64 a.side, .int .i64 a.n, .slice a.at_ a.bs.length a.cap] 54)).alloc (.cells #[.int .u8 a.kind, .int .i64 a.side, .int .i64 a.n, .slice a.at_ a.bs.length a.cap] 54)).alloc (.cells #[.pointer none, .bool false, .bool false, .pointer none, .bool false, .bool false] 62)) 57 #[.pointer none, .pointer (some ⟨w.heap.size + 1 + 1, 0, none⟩)]
      simpa only [World.size_alloc] using this
    clear hB1 hB2 hg
    rw [← hw0]
    clear hw0
    go_loopw [5] (fun i wr => ∃ k : Nat, k ≤ 2 ∧ i = .int .i64 k ∧ Fr [] w0 wr) (fun i _ => 2 - (intOf i).toNat)
    case atStart => exact ⟨0, by omega, rfl, Fr.refl _ _⟩
    case round =>
      obtain ⟨k, hk, rfl, hfr⟩ := hrel
      by_cases hlt : k < 2
      · obtain ⟨p, hp, hRd⟩ : ∃ p, wr.cell? ⟨w.heap.size + 1 + 1 + 1, k, none⟩ = some (.pointer p) ∧ NR wr p := by
          have hL1 := hfr.blk hL0 (by simp)
          have hR1 := hfr.blk hR0 (by simp)
          rcases (by omega : k = 0 ∨ k = 1) with rfl | rfl
          · exact ⟨none, hL1.cell 0, .inl rfl⟩
          · exact ⟨_, hL1.cell 1, .inr ⟨w.heap.size + 2, rfl, hR1.lt, hR1.cell 0⟩⟩
        have hA1 := hfr.blk hA0 (by simp)
        have hc1 : wr.cell? ⟨w.heap.size, 1, none⟩ = some (.int .i64 a.side) := hA1.cell 1
        have hc2' : wr.cell? ⟨w.heap.size, 2, none⟩ = some (.int .i64 a.n) := hA1.cell 2
        have hc3' : wr.cell? ⟨w.heap.size, 3, none⟩ = some (.slice a.at_ a.bs.length a.cap) := hA1.cell 3
        have HR := Lib.hid hRd
        have HF := Lib.hid hfr
        have HFW := Lib.hid hfw
        clear hRd hfr hfw hL0 hR0 hA0
        go_wp2_with fail
        refine (wants_nil p a.side wr HR.out).mono ?_
        rintro e w2 ⟨rfl, rfl⟩
        go_wp2_with fail
        refine (rput_nil p a.side a.at_ a.bs.length a.cap wr HR.out (by omega)).mono ?_
        rintro e w2 ⟨rfl, rfl⟩
        go_wp2_with fail
        refine (end_nil p a.side wr HR.out).mono ?_
        rintro e w2 ⟨rfl, rfl⟩
        go_wp2_with fail
        refine (waits_nil p a.side wr HR.out).mono ?_
        rintro e w2 ⟨rfl, rfl⟩
        go_wp2_with fail
        refine (rtake_nil p a.side a.n wr HR.out).mono ?_
        rintro e w2 ⟨rfl, rfl⟩
        go_wp2_with fail
        refine (shut_nil p a.side wr HR.out).mono ?_
        rintro e w2 ⟨rfl, rfl⟩
        go_wp2_with fail
        refine (over_nil p wr HR.out).mono ?_
        rintro e w2 ⟨rfl, rfl⟩
        go_wp2_with fail
        go_roundw
        case rel => exact ⟨k + 1, by omega, by go_num, HF.out⟩
        case measure => simp [intOf]; omega
      · obtain rfl : k = 2 := by omega
        go_wp2_with fail
        go_ret
        exact ⟨rfl, hfw.trans hfr (by simp)⟩
  · go_wp2_with fail
    go_ret
    exact ⟨rfl, ((Fr.refl [] w).alloc _).alloc _⟩

end Go.Proofs.Ytokdcddmljfgnaa
