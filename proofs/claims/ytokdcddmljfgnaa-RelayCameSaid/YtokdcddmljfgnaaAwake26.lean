/-
  The relay's example: 'awake' by its contract.
-/
import Derived.Test.YtokdcddmljfgnaaRelayZ
namespace Go.Proofs.Ytokdcddmljfgnaa
open Go.RowKit Go.Shelf
set_option linter.unusedVariables false

def aw1 : Sta := putSZ 4 sta0 0 [1, 2, 3, 4, 5]
def aw2 : Sta := takeSZ aw1 1 3
def aw3 : Sta := endSZ aw2 0
def aw4 : Sta := shutSZ aw3 1
def aw5 : Sta := takeSZ aw4 1 9
def aw6 : Sta := shutSZ aw5 1
def aw7 : Sta := shutSZ aw6 1
def aw8 : Sta := endSZ aw7 0
def aw9 : Sta := endSZ aw8 1
def aw10 : Sta := shutSZ aw9 0

set_option maxRecDepth 100000 in
set_option maxHeartbeats 4000000 in
theorem awake26_calls (w : World) : Calls Try.prog 46 #[] w fun e w' => e = .returned (.bool true) ∧ Fr [] w w' := by
  have hn := rlnew_good 4 w (by omega) (by omega)
  obtain ⟨r, hr⟩ : ∃ r, rF w.heap.size = r := ⟨_, rfl⟩
  obtain ⟨b, hb⟩ : ∃ b, bF w.heap.size = b := ⟨_, rfl⟩
  obtain ⟨p, hp⟩ : ∃ p, w.heap.size = p := ⟨_, rfl⟩
  have hrl : ∀ x ∈ RL p r b, w.heap.size ≤ x ∧ x < w.heap.size + 5 := by
    rw [← hr, ← hb, ← hp]
    intro x hx
    simp [RL, rF, bF] at hx
    omega
  rw [hr, hb, hp] at hn
  have hpw : w.heap.size = p := hp
  have HN := Lib.hid hn
  have HRL := Lib.hid hrl
  have HP := Lib.hid hpw
  have by1 : Byts [1, 2, 3, 4, 5] := by intro i; match i with | 0 | 1 | 2 | 3 | 4 => simp | n + 5 => simp
  have HY1 := Lib.hid by1
  clear hn hr hb hp hrl hpw by1
  go_enter Try.func46, Try.ntmps46
  go_wp2_with fail
  refine HN.out.mono ?_
  rintro e w0 ⟨rfl, hR0, hf0, hz0⟩
  have hz0' : ∀ x ∈ RL p r b, x < w0.heap.size := fun x hx => by have := HRL.out x hx; have := HP.out; omega
  have HZ0 := Lib.hid hz0'
  have HR0 := Lib.hid hR0
  have HF0 := Lib.hid hf0
  clear hR0 hf0 hz0 hz0' HN
  go_wp2_with fail
  refine (rlnew_bad 257 w0 (by omega)).mono ?_
  rintro e wx ⟨rfl, rfl⟩
  go_wp2_with fail
  have hA : Fr [] w0 (w0.alloc (.cells #[.int .u8 1, .int .u8 2, .int .u8 3, .int .u8 4, .int .u8 5] 5)) := (Fr.refl [] w0).alloc _
  have hB : BytesAt (w0.alloc (.cells #[.int .u8 1, .int .u8 2, .int .u8 3, .int .u8 4, .int .u8 5] 5)) (some ⟨w0.heap.size, 0, none⟩) [1, 2, 3, 4, 5] (· ∉ RL p r b) := bytes_new (Blk.new w0 5 _) (fun hm => by have := HZ0.out _ hm; omega)
  have hp : Calls Try.prog 31 #[.pointer (some ⟨p, 0, none⟩), .int .i64 0, .slice (some ⟨w0.heap.size, 0, none⟩) 5 5] (w0.alloc (.cells #[.int .u8 1, .int .u8 2, .int .u8 3, .int .u8 4, .int .u8 5] 5)) fun e w' => e = .returned (.int .i64 4) ∧ RelS w' p r b 4 aw1 ∧ Fr (RL p r b) (w0.alloc (.cells #[.int .u8 1, .int .u8 2, .int .u8 3, .int .u8 4, .int .u8 5] 5)) w' :=
    iz_put p 4 r b sta0 _ 0 [1, 2, 3, 4, 5] _ 5 (HR0.out.fr0 hA) hB HY1.out (by simp) (by omega)
  refine hp.mono ?_
  rintro e w1 ⟨rfl, hR, hf⟩
  have HR1 := Lib.hid hR
  have HF1 := Lib.hid ((HF0.out.trans hA (by simp)).trans hf (fun x hx => .inr (HRL.out x hx).1))
  have HZ1 : Hid (∀ x ∈ RL p r b, x < w1.heap.size) := Lib.hid (fun x hx => by have := HZ0.out x hx; have := hA.size; have := hf.size; omega)
  clear hp hB hA hR hf HR0 HF0
  go_wp2_with fail
  have hq : Calls Try.prog 30 #[.pointer (some ⟨p, 0, none⟩), .int .i64 0] w1 fun e w' => e = .returned (.int .i64 0) ∧ w1 = w' := iz_wants p 4 r b aw1 w1 0 HR1.out
  refine hq.mono ?_
  rintro e wx ⟨rfl, rfl⟩
  clear hq
  go_wp2_with fail
  have hq : Calls Try.prog 30 #[.pointer (some ⟨p, 0, none⟩), .int .i64 1] w1 fun e w' => e = .returned (.int .i64 4) ∧ w1 = w' := iz_wants p 4 r b aw1 w1 1 HR1.out
  refine hq.mono ?_
  rintro e wx ⟨rfl, rfl⟩
  clear hq
  go_wp2_with fail
  have hq : Calls Try.prog 33 #[.pointer (some ⟨p, 0, none⟩), .int .i64 1] w1 fun e w' => e = .returned (.int .i64 4) ∧ w1 = w' := iz_waits p 4 r b aw1 w1 1 HR1.out (by omega)
  refine hq.mono ?_
  rintro e wx ⟨rfl, rfl⟩
  clear hq
  go_wp2_with fail
  have ht : Calls Try.prog 34 #[.pointer (some ⟨p, 0, none⟩), .int .i64 1, .int .i64 3] w1 fun e w' => ∃ u, e = .returned u ∧ w'.ownsRow w1.heap.size 5 1 u 3 (bcells [1, 2, 3]) ∧ RelS w' p r b 4 aw2 ∧ Fr (RL p r b) w1 w' := iz_take p 4 r b aw1 w1 1 3 HR1.out (by omega) (by omega)
  refine ht.mono ?_
  rintro e w2 ⟨u, rfl, ho, hR, hf⟩
  obtain ⟨A1, c1, rfl, _, hb, hc, hcm⟩ := own_form ho
  have HB := Lib.hid (hb.imp (ok' := fun _ => True) (fun _ _ _ => trivial))
  have HR2 := Lib.hid hR
  have HF2 := Lib.hid (HF1.out.trans hf (fun x hx => .inr (HRL.out x hx).1))
  have HZ2 : Hid (∀ x ∈ RL p r b, x < w2.heap.size) := Lib.hid (fun x hx => by have := HZ1.out x hx; have := hf.size; omega)
  clear ht ho hb hR hf hc hcm HR1 HF1
  go_wp2_with fail
  have hA : Fr [] w2 (w2.alloc (.cells #[.int .u8 1, .int .u8 2, .int .u8 3] 5)) := (Fr.refl [] w2).alloc _
  have hs : Calls Try.prog 24 #[.slice A1 3 c1, .slice (some ⟨w2.heap.size, 0, none⟩) 3 3] (w2.alloc (.cells #[.int .u8 1, .int .u8 2, .int .u8 3] 5)) fun e w' => e = .returned (.bool true) ∧ Fr [] (w2.alloc (.cells #[.int .u8 1, .int .u8 2, .int .u8 3] 5)) w' :=
    same_calls [1, 2, 3] [1, 2, 3] _ _ c1 3 _ (HB.out.fr hA (by simp)) (bytes_new (Blk.new w2 5 _) trivial) (by simp) (by simp)
  refine hs.mono ?_
  rintro e w3 ⟨rfl, hf⟩
  have HR3 := Lib.hid ((HR2.out.fr0 hA).fr0 hf)
  have HF3 := Lib.hid ((HF2.out.trans hA (by simp)).trans hf (by simp))
  have HZ3 : Hid (∀ x ∈ RL p r b, x < w3.heap.size) := Lib.hid (fun x hx => by have := HZ2.out x hx; have := hA.size; have := hf.size; omega)
  clear hs hA hf HB HR2 HF2
  go_wp2_with fail
  have hq : Calls Try.prog 32 #[.pointer (some ⟨p, 0, none⟩), .int .i64 0] w3 fun e w' => e = .returned (.int .i64 0) ∧ RelS w' p r b 4 aw3 ∧ Fr (RL p r b) w3 w' := iz_end p 4 r b aw2 w3 0 HR3.out
  refine hq.mono ?_
  rintro e w4 ⟨rfl, hR, hf⟩
  have HR4 := Lib.hid hR
  have HF4 := Lib.hid (HF3.out.trans hf (fun x hx => .inr (HRL.out x hx).1))
  have HZ4 : Hid (∀ x ∈ RL p r b, x < w4.heap.size) := Lib.hid (fun x hx => by have := HZ3.out x hx; have := hf.size; omega)
  clear hq hR hf HR3 HF3
  go_wp2_with fail
  have hq : Calls Try.prog 35 #[.pointer (some ⟨p, 0, none⟩), .int .i64 1] w4 fun e w' => e = .returned (.bool false) ∧ RelS w' p r b 4 aw4 ∧ Fr (RL p r b) w4 w' := iz_shut p 4 r b aw3 w4 1 HR4.out (by omega)
  refine hq.mono ?_
  rintro e w5 ⟨rfl, hR, hf⟩
  have HR5 := Lib.hid hR
  have HF5 := Lib.hid (HF4.out.trans hf (fun x hx => .inr (HRL.out x hx).1))
  have HZ5 : Hid (∀ x ∈ RL p r b, x < w5.heap.size) := Lib.hid (fun x hx => by have := HZ4.out x hx; have := hf.size; omega)
  clear hq hR hf HR4 HF4
  go_wp2_with fail
  have ht : Calls Try.prog 34 #[.pointer (some ⟨p, 0, none⟩), .int .i64 1, .int .i64 9] w5 fun e w' => ∃ u, e = .returned u ∧ w'.ownsRow w5.heap.size 5 1 u 1 (bcells [4]) ∧ RelS w' p r b 4 aw5 ∧ Fr (RL p r b) w5 w' := iz_take p 4 r b aw4 w5 1 9 HR5.out (by omega) (by omega)
  refine ht.mono ?_
  rintro e w6 ⟨u, rfl, ho, hR, hf⟩
  obtain ⟨A5, c5, rfl, _, hb, hc, hcm⟩ := own_form ho
  have HB := Lib.hid (hb.imp (ok' := fun _ => True) (fun _ _ _ => trivial))
  have HR6 := Lib.hid hR
  have HF6 := Lib.hid (HF5.out.trans hf (fun x hx => .inr (HRL.out x hx).1))
  have HZ6 : Hid (∀ x ∈ RL p r b, x < w6.heap.size) := Lib.hid (fun x hx => by have := HZ5.out x hx; have := hf.size; omega)
  clear ht ho hb hR hf hc hcm HR5 HF5
  go_wp2_with fail
  have hA : Fr [] w6 (w6.alloc (.cells #[.int .u8 4] 5)) := (Fr.refl [] w6).alloc _
  have hs : Calls Try.prog 24 #[.slice A5 1 c5, .slice (some ⟨w6.heap.size, 0, none⟩) 1 1] (w6.alloc (.cells #[.int .u8 4] 5)) fun e w' => e = .returned (.bool true) ∧ Fr [] (w6.alloc (.cells #[.int .u8 4] 5)) w' :=
    same_calls [4] [4] _ _ c5 1 _ (HB.out.fr hA (by simp)) (bytes_new (Blk.new w6 5 _) trivial) (by simp) (by simp)
  refine hs.mono ?_
  rintro e w7 ⟨rfl, hf⟩
  have HR7 := Lib.hid ((HR6.out.fr0 hA).fr0 hf)
  have HF7 := Lib.hid ((HF6.out.trans hA (by simp)).trans hf (by simp))
  have HZ7 : Hid (∀ x ∈ RL p r b, x < w7.heap.size) := Lib.hid (fun x hx => by have := HZ6.out x hx; have := hA.size; have := hf.size; omega)
  clear hs hA hf HB HR6 HF6
  go_wp2_with fail
  have hq : Calls Try.prog 35 #[.pointer (some ⟨p, 0, none⟩), .int .i64 1] w7 fun e w' => e = .returned (.bool true) ∧ RelS w' p r b 4 aw6 ∧ Fr (RL p r b) w7 w' := iz_shut p 4 r b aw5 w7 1 HR7.out (by omega)
  refine hq.mono ?_
  rintro e w8 ⟨rfl, hR, hf⟩
  have HR8 := Lib.hid hR
  have HF8 := Lib.hid (HF7.out.trans hf (fun x hx => .inr (HRL.out x hx).1))
  have HZ8 : Hid (∀ x ∈ RL p r b, x < w8.heap.size) := Lib.hid (fun x hx => by have := HZ7.out x hx; have := hf.size; omega)
  clear hq hR hf HR7 HF7
  go_wp2_with fail
  have hq : Calls Try.prog 35 #[.pointer (some ⟨p, 0, none⟩), .int .i64 1] w8 fun e w' => e = .returned (.bool false) ∧ RelS w' p r b 4 aw7 ∧ Fr (RL p r b) w8 w' := iz_shut p 4 r b aw6 w8 1 HR8.out (by omega)
  refine hq.mono ?_
  rintro e w9 ⟨rfl, hR, hf⟩
  have HR9 := Lib.hid hR
  have HF9 := Lib.hid (HF8.out.trans hf (fun x hx => .inr (HRL.out x hx).1))
  have HZ9 : Hid (∀ x ∈ RL p r b, x < w9.heap.size) := Lib.hid (fun x hx => by have := HZ8.out x hx; have := hf.size; omega)
  clear hq hR hf HR8 HF8
  go_wp2_with fail
  have hq : Calls Try.prog 36 #[.pointer (some ⟨p, 0, none⟩)] w9 fun e w' => e = .returned (.bool false) ∧ w9 = w' := rover_calls p 4 r b aw7 w9 HR9.out
  refine hq.mono ?_
  rintro e wx ⟨rfl, rfl⟩
  clear hq
  go_wp2_with fail
  have hq : Calls Try.prog 32 #[.pointer (some ⟨p, 0, none⟩), .int .i64 0] w9 fun e w' => e = .returned (.int .i64 2) ∧ RelS w' p r b 4 aw8 ∧ Fr (RL p r b) w9 w' := iz_end p 4 r b aw7 w9 0 HR9.out
  refine hq.mono ?_
  rintro e w10 ⟨rfl, hR, hf⟩
  have HR10 := Lib.hid hR
  have HF10 := Lib.hid (HF9.out.trans hf (fun x hx => .inr (HRL.out x hx).1))
  have HZ10 : Hid (∀ x ∈ RL p r b, x < w10.heap.size) := Lib.hid (fun x hx => by have := HZ9.out x hx; have := hf.size; omega)
  clear hq hR hf HR9 HF9
  go_wp2_with fail
  have hq : Calls Try.prog 32 #[.pointer (some ⟨p, 0, none⟩), .int .i64 1] w10 fun e w' => e = .returned (.int .i64 0) ∧ RelS w' p r b 4 aw9 ∧ Fr (RL p r b) w10 w' := iz_end p 4 r b aw8 w10 1 HR10.out
  refine hq.mono ?_
  rintro e w11 ⟨rfl, hR, hf⟩
  have HR11 := Lib.hid hR
  have HF11 := Lib.hid (HF10.out.trans hf (fun x hx => .inr (HRL.out x hx).1))
  have HZ11 : Hid (∀ x ∈ RL p r b, x < w11.heap.size) := Lib.hid (fun x hx => by have := HZ10.out x hx; have := hf.size; omega)
  clear hq hR hf HR10 HF10
  go_wp2_with fail
  have hq : Calls Try.prog 35 #[.pointer (some ⟨p, 0, none⟩), .int .i64 0] w11 fun e w' => e = .returned (.bool true) ∧ RelS w' p r b 4 aw10 ∧ Fr (RL p r b) w11 w' := iz_shut p 4 r b aw9 w11 0 HR11.out (by omega)
  refine hq.mono ?_
  rintro e w12 ⟨rfl, hR, hf⟩
  have HR12 := Lib.hid hR
  have HF12 := Lib.hid (HF11.out.trans hf (fun x hx => .inr (HRL.out x hx).1))
  have HZ12 : Hid (∀ x ∈ RL p r b, x < w12.heap.size) := Lib.hid (fun x hx => by have := HZ11.out x hx; have := hf.size; omega)
  clear hq hR hf HR11 HF11
  go_wp2_with fail
  have hq : Calls Try.prog 36 #[.pointer (some ⟨p, 0, none⟩)] w12 fun e w' => e = .returned (.bool true) ∧ w12 = w' := rover_calls p 4 r b aw10 w12 HR12.out
  refine hq.mono ?_
  rintro e wx ⟨rfl, rfl⟩
  clear hq
  go_wp2_with fail
  go_ret
  exact ⟨rfl, HF12.out⟩

end Go.Proofs.Ytokdcddmljfgnaa
