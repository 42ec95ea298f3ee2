/-
  No cell of these rows narrows 'for every input' (looked for: loops, veiled, ifaces, maps, wideKeys, modest, calm, conditions, laid).
  DERIVED. THE GIVEN ROWS OF THIS SEAT. 9 by the template 'for every input the law returns true; each argument reads behind the call as it read before'; 0 by the template 'total and deterministic' (their statements: YtokdcddmljfgnaaTotals.lean).
  GIVEN WITH THE SEED: the statements are not yours to turn. If you find one false, say at which input.
  Laid BY PROGRAM, IN A SANDBOX (cutbox-rows.mjs): the forced cells as the released guide's own fill.sh prints them over the translation 2da06a3b019003cf… (all of the seat's roots in one cut). By AI agents, Wed Nov 11 2026. No macro, syntax, notation, axiom, sorry.
-/
import Derived.Test.YtokdcddmljfgnaaChecked
import GoSem.Claim
import GoSem.ClaimJoined
import GoSem.ClaimMapViews
import Derived.JoinedTies
import Derived.KernelRfl
namespace Go.Proofs.Ytokdcddmljfgnaa
/- THE CELL 'sum', in the pinned program and in every row, IS THE sha256 OF THE DUMP (.gsa) THAT YtokdcddmljfgnaaProg.lean LOADS. Nothing in Lean hashes anything: it is a label: what it is worth is what the hold of that sum in a sandbox is worth. -/
noncomputable def Try.pinned : Pinned := { name := "ytokdcddmljfgnaa", sum := "2da06a3b019003cf88c5eaca4df006d8305af607bd8e8c1f42f00995d7333ba5", checked := Try.checked }
namespace Rows
def none {H : Type} : Left H := { results := [], args := [] }

/-- 'postilionlaw01.RingNil': WHATEVER THE INPUT: true; the input reads as it did. -/
def ringNilSpec : ChangeSpec := { name := "ringNil", fn := fun _ => fun
  | [d] => { results := [.lit (.bool true)], args := [d] }
  | _ => none }
def ringNilRow : OpenClaim := { program := "ytokdcddmljfgnaa", sum := "2da06a3b019003cf88c5eaca4df006d8305af607bd8e8c1f42f00995d7333ba5", func := "postilion/postilionlaw01.RingNil", spec := "ringNil", unfollowed := true, recurses := true, apart := false }
def RingNilSaid : Prop := ringNilRow.holds Try.pinned (OpenSpec.ofChange ringNilSpec)

/-- ITS FALSE NEIGHBOUR: 'it returns false'. Refute it at one input. -/
def ringNilWrong : ChangeSpec := { name := "ringNil", fn := fun _ => fun
  | [d] => { results := [.lit (.bool false)], args := [d] }
  | _ => none }
def RingNilWrongFalsely : Prop := ringNilRow.holds Try.pinned (OpenSpec.ofChange ringNilWrong)

/-- 'postilionlaw01.RingPlays': WHATEVER THE INPUT: true; the input reads as it did. -/
def ringPlaysSpec : ChangeSpec := { name := "ringPlays", fn := fun _ => fun
  | [d1, d2] => { results := [.lit (.bool true)], args := [d1, d2] }
  | _ => none }
def ringPlaysRow : OpenClaim := { program := "ytokdcddmljfgnaa", sum := "2da06a3b019003cf88c5eaca4df006d8305af607bd8e8c1f42f00995d7333ba5", func := "postilion/postilionlaw01.RingPlays", spec := "ringPlays", unfollowed := true, recurses := true, apart := false }
def RingPlaysSaid : Prop := ringPlaysRow.holds Try.pinned (OpenSpec.ofChange ringPlaysSpec)

/-- ITS FALSE NEIGHBOUR: 'it returns false'. Refute it at one input. -/
def ringPlaysWrong : ChangeSpec := { name := "ringPlays", fn := fun _ => fun
  | [d1, d2] => { results := [.lit (.bool false)], args := [d1, d2] }
  | _ => none }
def RingPlaysWrongFalsely : Prop := ringPlaysRow.holds Try.pinned (OpenSpec.ofChange ringPlaysWrong)

/-- 'postilionlaw01.RingOrder': WHATEVER THE INPUT: true; the input reads as it did. -/
def ringOrderSpec : ChangeSpec := { name := "ringOrder", fn := fun _ => fun
  | [d1, d2] => { results := [.lit (.bool true)], args := [d1, d2] }
  | _ => none }
def ringOrderRow : OpenClaim := { program := "ytokdcddmljfgnaa", sum := "2da06a3b019003cf88c5eaca4df006d8305af607bd8e8c1f42f00995d7333ba5", func := "postilion/postilionlaw01.RingOrder", spec := "ringOrder", unfollowed := true, recurses := true, apart := false }
def RingOrderSaid : Prop := ringOrderRow.holds Try.pinned (OpenSpec.ofChange ringOrderSpec)

/-- ITS FALSE NEIGHBOUR: 'it returns false'. Refute it at one input. -/
def ringOrderWrong : ChangeSpec := { name := "ringOrder", fn := fun _ => fun
  | [d1, d2] => { results := [.lit (.bool false)], args := [d1, d2] }
  | _ => none }
def RingOrderWrongFalsely : Prop := ringOrderRow.holds Try.pinned (OpenSpec.ofChange ringOrderWrong)

/-- 'postilionlaw01.RingRoom': WHATEVER THE INPUT: true; the input reads as it did. -/
def ringRoomSpec : ChangeSpec := { name := "ringRoom", fn := fun _ => fun
  | [d1, d2, d3] => { results := [.lit (.bool true)], args := [d1, d2, d3] }
  | _ => none }
def ringRoomRow : OpenClaim := { program := "ytokdcddmljfgnaa", sum := "2da06a3b019003cf88c5eaca4df006d8305af607bd8e8c1f42f00995d7333ba5", func := "postilion/postilionlaw01.RingRoom", spec := "ringRoom", unfollowed := true, recurses := true, apart := false }
def RingRoomSaid : Prop := ringRoomRow.holds Try.pinned (OpenSpec.ofChange ringRoomSpec)

/-- ITS FALSE NEIGHBOUR: 'it returns false'. Refute it at one input. -/
def ringRoomWrong : ChangeSpec := { name := "ringRoom", fn := fun _ => fun
  | [d1, d2, d3] => { results := [.lit (.bool false)], args := [d1, d2, d3] }
  | _ => none }
def RingRoomWrongFalsely : Prop := ringRoomRow.holds Try.pinned (OpenSpec.ofChange ringRoomWrong)

/-- 'postilionlaw01.RingCut': WHATEVER THE INPUT: true; the input reads as it did. -/
def ringCutSpec : ChangeSpec := { name := "ringCut", fn := fun _ => fun
  | [d1, d2, d3, d4] => { results := [.lit (.bool true)], args := [d1, d2, d3, d4] }
  | _ => none }
def ringCutRow : OpenClaim := { program := "ytokdcddmljfgnaa", sum := "2da06a3b019003cf88c5eaca4df006d8305af607bd8e8c1f42f00995d7333ba5", func := "postilion/postilionlaw01.RingCut", spec := "ringCut", unfollowed := true, recurses := true, apart := false }
def RingCutSaid : Prop := ringCutRow.holds Try.pinned (OpenSpec.ofChange ringCutSpec)

/-- ITS FALSE NEIGHBOUR: 'it returns false'. Refute it at one input. -/
def ringCutWrong : ChangeSpec := { name := "ringCut", fn := fun _ => fun
  | [d1, d2, d3, d4] => { results := [.lit (.bool false)], args := [d1, d2, d3, d4] }
  | _ => none }
def RingCutWrongFalsely : Prop := ringCutRow.holds Try.pinned (OpenSpec.ofChange ringCutWrong)

/-- 'postilionlaw26.RelayNil': WHATEVER THE INPUT: true; the input reads as it did. -/
def relayNilSpec : ChangeSpec := { name := "relayNil", fn := fun _ => fun
  | [d] => { results := [.lit (.bool true)], args := [d] }
  | _ => none }
def relayNilRow : OpenClaim := { program := "ytokdcddmljfgnaa", sum := "2da06a3b019003cf88c5eaca4df006d8305af607bd8e8c1f42f00995d7333ba5", func := "postilion/postilionlaw26.RelayNil", spec := "relayNil", unfollowed := true, recurses := true, apart := false }
def RelayNilSaid : Prop := relayNilRow.holds Try.pinned (OpenSpec.ofChange relayNilSpec)

/-- ITS FALSE NEIGHBOUR: 'it returns false'. Refute it at one input. -/
def relayNilWrong : ChangeSpec := { name := "relayNil", fn := fun _ => fun
  | [d] => { results := [.lit (.bool false)], args := [d] }
  | _ => none }
def RelayNilWrongFalsely : Prop := relayNilRow.holds Try.pinned (OpenSpec.ofChange relayNilWrong)

/-- 'postilionlaw26.RelayPlays': WHATEVER THE INPUT: true; the input reads as it did. -/
def relayPlaysSpec : ChangeSpec := { name := "relayPlays", fn := fun _ => fun
  | [d1, d2] => { results := [.lit (.bool true)], args := [d1, d2] }
  | _ => none }
def relayPlaysRow : OpenClaim := { program := "ytokdcddmljfgnaa", sum := "2da06a3b019003cf88c5eaca4df006d8305af607bd8e8c1f42f00995d7333ba5", func := "postilion/postilionlaw26.RelayPlays", spec := "relayPlays", unfollowed := true, recurses := true, apart := false }
def RelayPlaysSaid : Prop := relayPlaysRow.holds Try.pinned (OpenSpec.ofChange relayPlaysSpec)

/-- ITS FALSE NEIGHBOUR: 'it returns false'. Refute it at one input. -/
def relayPlaysWrong : ChangeSpec := { name := "relayPlays", fn := fun _ => fun
  | [d1, d2] => { results := [.lit (.bool false)], args := [d1, d2] }
  | _ => none }
def RelayPlaysWrongFalsely : Prop := relayPlaysRow.holds Try.pinned (OpenSpec.ofChange relayPlaysWrong)

/-- 'postilionlaw26.RelayCame': WHATEVER THE INPUT: true; the input reads as it did. -/
def relayCameSpec : ChangeSpec := { name := "relayCame", fn := fun _ => fun
  | [d1, d2] => { results := [.lit (.bool true)], args := [d1, d2] }
  | _ => none }
def relayCameRow : OpenClaim := { program := "ytokdcddmljfgnaa", sum := "2da06a3b019003cf88c5eaca4df006d8305af607bd8e8c1f42f00995d7333ba5", func := "postilion/postilionlaw26.RelayCame", spec := "relayCame", unfollowed := true, recurses := true, apart := false }
def RelayCameSaid : Prop := relayCameRow.holds Try.pinned (OpenSpec.ofChange relayCameSpec)

/-- ITS FALSE NEIGHBOUR: 'it returns false'. Refute it at one input. -/
def relayCameWrong : ChangeSpec := { name := "relayCame", fn := fun _ => fun
  | [d1, d2] => { results := [.lit (.bool false)], args := [d1, d2] }
  | _ => none }
def RelayCameWrongFalsely : Prop := relayCameRow.holds Try.pinned (OpenSpec.ofChange relayCameWrong)

/-- 'postilionlaw26.RelayOnce': WHATEVER THE INPUT: true; the input reads as it did. -/
def relayOnceSpec : ChangeSpec := { name := "relayOnce", fn := fun _ => fun
  | [d1, d2] => { results := [.lit (.bool true)], args := [d1, d2] }
  | _ => none }
def relayOnceRow : OpenClaim := { program := "ytokdcddmljfgnaa", sum := "2da06a3b019003cf88c5eaca4df006d8305af607bd8e8c1f42f00995d7333ba5", func := "postilion/postilionlaw26.RelayOnce", spec := "relayOnce", unfollowed := true, recurses := true, apart := false }
def RelayOnceSaid : Prop := relayOnceRow.holds Try.pinned (OpenSpec.ofChange relayOnceSpec)

/-- ITS FALSE NEIGHBOUR: 'it returns false'. Refute it at one input. -/
def relayOnceWrong : ChangeSpec := { name := "relayOnce", fn := fun _ => fun
  | [d1, d2] => { results := [.lit (.bool false)], args := [d1, d2] }
  | _ => none }
def RelayOnceWrongFalsely : Prop := relayOnceRow.holds Try.pinned (OpenSpec.ofChange relayOnceWrong)

/- THE SECOND FORM. 'bulk': how many values and letters a reading holds, each counted each time it is reached (what is shared counts as often as it is met; a slice's spare places count too). A statement '..UptoSaid' is the law's where the arguments, and the package variables that the reading takes, are together of bulk at most 1048576: NARROWER than '..Said'. Prove '..Said' where nothing that the law and all that it calls make is longer than what came in: it says more and counts as full. Else prove '..UptoSaid'. A law counts once. -/
mutual
def uptoBulk {H : Type} : DataW H → Nat
  | .lit (.string bytes) => bytes.length + 1
  | .lit _ => 1
  | .nil => 1
  | .ptr d => uptoBulk d + 1
  | .slice elems spare => uptoBulkAll elems + uptoBulkAll spare + 1
  | .agg parts => uptoBulkAll parts + 1
  | .iface _ d => uptoBulk d + 1
  | .map entries => uptoBulkEntries entries + 1
  | .held _ => 1
def uptoBulkAll {H : Type} : List (DataW H) → Nat
  | [] => 0
  | d :: r => uptoBulk d + uptoBulkAll r
def uptoBulkEntries {H : Type} : List (Lit × DataW H) → Nat
  | [] => 0
  | x :: r => uptoBulkEntry x + uptoBulkEntries r
def uptoBulkEntry {H : Type} : Lit × DataW H → Nat
  | (.string bytes, d) => bytes.length + uptoBulk d + 1
  | (_, d) => uptoBulk d + 1
 end
def uptoSmall : (H : Type) → List (DataW H) → Bool := fun _ ds => decide (uptoBulkAll ds ≤ 1048576)
def OpenSpec.upto (s : _root_.Go.ChangeSpec) : _root_.Go.OpenSpec := { _root_.Go.OpenSpec.ofChange s with cond := some uptoSmall }

/-- 'postilionlaw01.RingNil', WHERE WHAT IT READS IS OF BULK AT MOST 1048576: true; the input reads as it did. -/
def ringNilUptoRow : OpenClaim := { program := "ytokdcddmljfgnaa", sum := "2da06a3b019003cf88c5eaca4df006d8305af607bd8e8c1f42f00995d7333ba5", func := "postilion/postilionlaw01.RingNil", spec := "ringNil", unfollowed := true, recurses := true, apart := false, narrowed := true }
def RingNilUptoSaid : Prop := ringNilUptoRow.holds Try.pinned (OpenSpec.upto ringNilSpec)

/-- 'postilionlaw01.RingPlays', WHERE WHAT IT READS IS OF BULK AT MOST 1048576: true; the input reads as it did. -/
def ringPlaysUptoRow : OpenClaim := { program := "ytokdcddmljfgnaa", sum := "2da06a3b019003cf88c5eaca4df006d8305af607bd8e8c1f42f00995d7333ba5", func := "postilion/postilionlaw01.RingPlays", spec := "ringPlays", unfollowed := true, recurses := true, apart := false, narrowed := true }
def RingPlaysUptoSaid : Prop := ringPlaysUptoRow.holds Try.pinned (OpenSpec.upto ringPlaysSpec)

/-- 'postilionlaw01.RingOrder', WHERE WHAT IT READS IS OF BULK AT MOST 1048576: true; the input reads as it did. -/
def ringOrderUptoRow : OpenClaim := { program := "ytokdcddmljfgnaa", sum := "2da06a3b019003cf88c5eaca4df006d8305af607bd8e8c1f42f00995d7333ba5", func := "postilion/postilionlaw01.RingOrder", spec := "ringOrder", unfollowed := true, recurses := true, apart := false, narrowed := true }
def RingOrderUptoSaid : Prop := ringOrderUptoRow.holds Try.pinned (OpenSpec.upto ringOrderSpec)

/-- 'postilionlaw01.RingRoom', WHERE WHAT IT READS IS OF BULK AT MOST 1048576: true; the input reads as it did. -/
def ringRoomUptoRow : OpenClaim := { program := "ytokdcddmljfgnaa", sum := "2da06a3b019003cf88c5eaca4df006d8305af607bd8e8c1f42f00995d7333ba5", func := "postilion/postilionlaw01.RingRoom", spec := "ringRoom", unfollowed := true, recurses := true, apart := false, narrowed := true }
def RingRoomUptoSaid : Prop := ringRoomUptoRow.holds Try.pinned (OpenSpec.upto ringRoomSpec)

/-- 'postilionlaw01.RingCut', WHERE WHAT IT READS IS OF BULK AT MOST 1048576: true; the input reads as it did. -/
def ringCutUptoRow : OpenClaim := { program := "ytokdcddmljfgnaa", sum := "2da06a3b019003cf88c5eaca4df006d8305af607bd8e8c1f42f00995d7333ba5", func := "postilion/postilionlaw01.RingCut", spec := "ringCut", unfollowed := true, recurses := true, apart := false, narrowed := true }
def RingCutUptoSaid : Prop := ringCutUptoRow.holds Try.pinned (OpenSpec.upto ringCutSpec)

/-- 'postilionlaw26.RelayNil', WHERE WHAT IT READS IS OF BULK AT MOST 1048576: true; the input reads as it did. -/
def relayNilUptoRow : OpenClaim := { program := "ytokdcddmljfgnaa", sum := "2da06a3b019003cf88c5eaca4df006d8305af607bd8e8c1f42f00995d7333ba5", func := "postilion/postilionlaw26.RelayNil", spec := "relayNil", unfollowed := true, recurses := true, apart := false, narrowed := true }
def RelayNilUptoSaid : Prop := relayNilUptoRow.holds Try.pinned (OpenSpec.upto relayNilSpec)

/-- 'postilionlaw26.RelayPlays', WHERE WHAT IT READS IS OF BULK AT MOST 1048576: true; the input reads as it did. -/
def relayPlaysUptoRow : OpenClaim := { program := "ytokdcddmljfgnaa", sum := "2da06a3b019003cf88c5eaca4df006d8305af607bd8e8c1f42f00995d7333ba5", func := "postilion/postilionlaw26.RelayPlays", spec := "relayPlays", unfollowed := true, recurses := true, apart := false, narrowed := true }
def RelayPlaysUptoSaid : Prop := relayPlaysUptoRow.holds Try.pinned (OpenSpec.upto relayPlaysSpec)

/-- 'postilionlaw26.RelayCame', WHERE WHAT IT READS IS OF BULK AT MOST 1048576: true; the input reads as it did. -/
def relayCameUptoRow : OpenClaim := { program := "ytokdcddmljfgnaa", sum := "2da06a3b019003cf88c5eaca4df006d8305af607bd8e8c1f42f00995d7333ba5", func := "postilion/postilionlaw26.RelayCame", spec := "relayCame", unfollowed := true, recurses := true, apart := false, narrowed := true }
def RelayCameUptoSaid : Prop := relayCameUptoRow.holds Try.pinned (OpenSpec.upto relayCameSpec)

/-- 'postilionlaw26.RelayOnce', WHERE WHAT IT READS IS OF BULK AT MOST 1048576: true; the input reads as it did. -/
def relayOnceUptoRow : OpenClaim := { program := "ytokdcddmljfgnaa", sum := "2da06a3b019003cf88c5eaca4df006d8305af607bd8e8c1f42f00995d7333ba5", func := "postilion/postilionlaw26.RelayOnce", spec := "relayOnce", unfollowed := true, recurses := true, apart := false, narrowed := true }
def RelayOnceUptoSaid : Prop := relayOnceUptoRow.holds Try.pinned (OpenSpec.upto relayOnceSpec)

end Rows
end Go.Proofs.Ytokdcddmljfgnaa
