/-
  No cell of these rows narrows 'for every input' (looked for: loops, veiled, ifaces, maps, wideKeys, modest, calm, conditions, laid).
  DERIVED. THE GIVEN ROWS OF THIS SEAT. 9 by the template 'for every input the law returns true; each argument reads behind the call as it read before'; 0 by the template 'total and deterministic' (their statements: YtkioniffgmalgaaTotals.lean).
  GIVEN WITH THE SEED: the statements are not yours to turn. If you find one false, say at which input.
  Laid BY PROGRAM, IN A SANDBOX (cutbox-rows.mjs): the forced cells as the released guide's own fill.sh prints them over the translation 7571a6f8e5e7fbad… (all of the seat's roots in one cut). By AI agents, Wed Nov 11 2026. No macro, syntax, notation, axiom, sorry.
-/
import Derived.Test.YtkioniffgmalgaaChecked
import GoSem.Claim
import GoSem.ClaimJoined
import GoSem.ClaimMapViews
import Derived.JoinedTies
import Derived.KernelRfl
namespace Go.Proofs.Ytkioniffgmalgaa
/- THE CELL 'sum', in the pinned program and in every row, IS THE sha256 OF THE DUMP (.gsa) THAT YtkioniffgmalgaaProg.lean LOADS. Nothing in Lean hashes anything: it is a label: what it is worth is what the hold of that sum in a sandbox is worth. -/
noncomputable def Try.pinned : Pinned := { name := "ytkioniffgmalgaa", sum := "7571a6f8e5e7fbad695906aa3c360dbb36e04cfd46ee4149a94b644b1d72ca7c", checked := Try.checked }
namespace Rows
def none {H : Type} : Left H := { results := [], args := [] }

/-- 'postilionlaw06.SipAdds': WHATEVER THE INPUT: true; the input reads as it did. -/
def sipAddsSpec : ChangeSpec := { name := "sipAdds", fn := fun _ => fun
  | [d1, d2, d3] => { results := [.lit (.bool true)], args := [d1, d2, d3] }
  | _ => none }
def sipAddsRow : OpenClaim := { program := "ytkioniffgmalgaa", sum := "7571a6f8e5e7fbad695906aa3c360dbb36e04cfd46ee4149a94b644b1d72ca7c", func := "postilion/postilionlaw06.SipAdds", spec := "sipAdds", apart := false }
def SipAddsSaid : Prop := sipAddsRow.holds Try.pinned (OpenSpec.ofChange sipAddsSpec)

/-- ITS FALSE NEIGHBOUR: 'it returns false'. Refute it at one input. -/
def sipAddsWrong : ChangeSpec := { name := "sipAdds", fn := fun _ => fun
  | [d1, d2, d3] => { results := [.lit (.bool false)], args := [d1, d2, d3] }
  | _ => none }
def SipAddsWrongFalsely : Prop := sipAddsRow.holds Try.pinned (OpenSpec.ofChange sipAddsWrong)

/-- 'postilionlaw06.SipSums': WHATEVER THE INPUT: true; the input reads as it did. -/
def sipSumsSpec : ChangeSpec := { name := "sipSums", fn := fun _ => fun
  | [d1, d2, d3] => { results := [.lit (.bool true)], args := [d1, d2, d3] }
  | _ => none }
def sipSumsRow : OpenClaim := { program := "ytkioniffgmalgaa", sum := "7571a6f8e5e7fbad695906aa3c360dbb36e04cfd46ee4149a94b644b1d72ca7c", func := "postilion/postilionlaw06.SipSums", spec := "sipSums", apart := false }
def SipSumsSaid : Prop := sipSumsRow.holds Try.pinned (OpenSpec.ofChange sipSumsSpec)

/-- ITS FALSE NEIGHBOUR: 'it returns false'. Refute it at one input. -/
def sipSumsWrong : ChangeSpec := { name := "sipSums", fn := fun _ => fun
  | [d1, d2, d3] => { results := [.lit (.bool false)], args := [d1, d2, d3] }
  | _ => none }
def SipSumsWrongFalsely : Prop := sipSumsRow.holds Try.pinned (OpenSpec.ofChange sipSumsWrong)

/-- 'postilionlaw07.RankOnce': WHATEVER THE INPUT: true; the input reads as it did. -/
def rankOnceSpec : ChangeSpec := { name := "rankOnce", fn := fun _ => fun
  | [d1, d2] => { results := [.lit (.bool true)], args := [d1, d2] }
  | _ => none }
def rankOnceRow : OpenClaim := { program := "ytkioniffgmalgaa", sum := "7571a6f8e5e7fbad695906aa3c360dbb36e04cfd46ee4149a94b644b1d72ca7c", func := "postilion/postilionlaw07.RankOnce", spec := "rankOnce", unfollowed := true, recurses := true, apart := false }
def RankOnceSaid : Prop := rankOnceRow.holds Try.pinned (OpenSpec.ofChange rankOnceSpec)

/-- ITS FALSE NEIGHBOUR: 'it returns false'. Refute it at one input. -/
def rankOnceWrong : ChangeSpec := { name := "rankOnce", fn := fun _ => fun
  | [d1, d2] => { results := [.lit (.bool false)], args := [d1, d2] }
  | _ => none }
def RankOnceWrongFalsely : Prop := rankOnceRow.holds Try.pinned (OpenSpec.ofChange rankOnceWrong)

/-- 'postilionlaw06.SipPieces': WHATEVER THE INPUT: true; the input reads as it did. -/
def sipPiecesSpec : ChangeSpec := { name := "sipPieces", fn := fun _ => fun
  | [d1, d2, d3, d4] => { results := [.lit (.bool true)], args := [d1, d2, d3, d4] }
  | _ => none }
def sipPiecesRow : OpenClaim := { program := "ytkioniffgmalgaa", sum := "7571a6f8e5e7fbad695906aa3c360dbb36e04cfd46ee4149a94b644b1d72ca7c", func := "postilion/postilionlaw06.SipPieces", spec := "sipPieces", apart := false }
def SipPiecesSaid : Prop := sipPiecesRow.holds Try.pinned (OpenSpec.ofChange sipPiecesSpec)

/-- ITS FALSE NEIGHBOUR: 'it returns false'. Refute it at one input. -/
def sipPiecesWrong : ChangeSpec := { name := "sipPieces", fn := fun _ => fun
  | [d1, d2, d3, d4] => { results := [.lit (.bool false)], args := [d1, d2, d3, d4] }
  | _ => none }
def SipPiecesWrongFalsely : Prop := sipPiecesRow.holds Try.pinned (OpenSpec.ofChange sipPiecesWrong)

/-- 'postilionlaw07.RankRow': WHATEVER THE INPUT: true; the input reads as it did. -/
def rankRowSpec : ChangeSpec := { name := "rankRow", fn := fun _ => fun
  | [d1, d2, d3, d4] => { results := [.lit (.bool true)], args := [d1, d2, d3, d4] }
  | _ => none }
def rankRowRow : OpenClaim := { program := "ytkioniffgmalgaa", sum := "7571a6f8e5e7fbad695906aa3c360dbb36e04cfd46ee4149a94b644b1d72ca7c", func := "postilion/postilionlaw07.RankRow", spec := "rankRow", unfollowed := true, recurses := true, apart := false }
def RankRowSaid : Prop := rankRowRow.holds Try.pinned (OpenSpec.ofChange rankRowSpec)

/-- ITS FALSE NEIGHBOUR: 'it returns false'. Refute it at one input. -/
def rankRowWrong : ChangeSpec := { name := "rankRow", fn := fun _ => fun
  | [d1, d2, d3, d4] => { results := [.lit (.bool false)], args := [d1, d2, d3, d4] }
  | _ => none }
def RankRowWrongFalsely : Prop := rankRowRow.holds Try.pinned (OpenSpec.ofChange rankRowWrong)

/-- 'postilionlaw07.RankScores': WHATEVER THE INPUT: true; the input reads as it did. -/
def rankScoresSpec : ChangeSpec := { name := "rankScores", fn := fun _ => fun
  | [d1, d2, d3, d4] => { results := [.lit (.bool true)], args := [d1, d2, d3, d4] }
  | _ => none }
def rankScoresRow : OpenClaim := { program := "ytkioniffgmalgaa", sum := "7571a6f8e5e7fbad695906aa3c360dbb36e04cfd46ee4149a94b644b1d72ca7c", func := "postilion/postilionlaw07.RankScores", spec := "rankScores", apart := false }
def RankScoresSaid : Prop := rankScoresRow.holds Try.pinned (OpenSpec.ofChange rankScoresSpec)

/-- ITS FALSE NEIGHBOUR: 'it returns false'. Refute it at one input. -/
def rankScoresWrong : ChangeSpec := { name := "rankScores", fn := fun _ => fun
  | [d1, d2, d3, d4] => { results := [.lit (.bool false)], args := [d1, d2, d3, d4] }
  | _ => none }
def RankScoresWrongFalsely : Prop := rankScoresRow.holds Try.pinned (OpenSpec.ofChange rankScoresWrong)

/-- 'postilionlaw07.RankOrders': WHATEVER THE INPUT: true; the input reads as it did. -/
def rankOrdersSpec : ChangeSpec := { name := "rankOrders", fn := fun _ => fun
  | [d1, d2, d3] => { results := [.lit (.bool true)], args := [d1, d2, d3] }
  | _ => none }
def rankOrdersRow : OpenClaim := { program := "ytkioniffgmalgaa", sum := "7571a6f8e5e7fbad695906aa3c360dbb36e04cfd46ee4149a94b644b1d72ca7c", func := "postilion/postilionlaw07.RankOrders", spec := "rankOrders", unfollowed := true, recurses := true, apart := false }
def RankOrdersSaid : Prop := rankOrdersRow.holds Try.pinned (OpenSpec.ofChange rankOrdersSpec)

/-- ITS FALSE NEIGHBOUR: 'it returns false'. Refute it at one input. -/
def rankOrdersWrong : ChangeSpec := { name := "rankOrders", fn := fun _ => fun
  | [d1, d2, d3] => { results := [.lit (.bool false)], args := [d1, d2, d3] }
  | _ => none }
def RankOrdersWrongFalsely : Prop := rankOrdersRow.holds Try.pinned (OpenSpec.ofChange rankOrdersWrong)

/-- 'postilionlaw07.RankLess': WHATEVER THE INPUT: true; the input reads as it did. -/
def rankLessSpec : ChangeSpec := { name := "rankLess", fn := fun _ => fun
  | [d1, d2, d3] => { results := [.lit (.bool true)], args := [d1, d2, d3] }
  | _ => none }
def rankLessRow : OpenClaim := { program := "ytkioniffgmalgaa", sum := "7571a6f8e5e7fbad695906aa3c360dbb36e04cfd46ee4149a94b644b1d72ca7c", func := "postilion/postilionlaw07.RankLess", spec := "rankLess", unfollowed := true, recurses := true, apart := false }
def RankLessSaid : Prop := rankLessRow.holds Try.pinned (OpenSpec.ofChange rankLessSpec)

/-- ITS FALSE NEIGHBOUR: 'it returns false'. Refute it at one input. -/
def rankLessWrong : ChangeSpec := { name := "rankLess", fn := fun _ => fun
  | [d1, d2, d3] => { results := [.lit (.bool false)], args := [d1, d2, d3] }
  | _ => none }
def RankLessWrongFalsely : Prop := rankLessRow.holds Try.pinned (OpenSpec.ofChange rankLessWrong)

/-- 'postilionlaw07.RankMore': WHATEVER THE INPUT: true; the input reads as it did. -/
def rankMoreSpec : ChangeSpec := { name := "rankMore", fn := fun _ => fun
  | [d1, d2, d3, d4] => { results := [.lit (.bool true)], args := [d1, d2, d3, d4] }
  | _ => none }
def rankMoreRow : OpenClaim := { program := "ytkioniffgmalgaa", sum := "7571a6f8e5e7fbad695906aa3c360dbb36e04cfd46ee4149a94b644b1d72ca7c", func := "postilion/postilionlaw07.RankMore", spec := "rankMore", unfollowed := true, recurses := true, apart := false }
def RankMoreSaid : Prop := rankMoreRow.holds Try.pinned (OpenSpec.ofChange rankMoreSpec)

/-- ITS FALSE NEIGHBOUR: 'it returns false'. Refute it at one input. -/
def rankMoreWrong : ChangeSpec := { name := "rankMore", fn := fun _ => fun
  | [d1, d2, d3, d4] => { results := [.lit (.bool false)], args := [d1, d2, d3, d4] }
  | _ => none }
def RankMoreWrongFalsely : Prop := rankMoreRow.holds Try.pinned (OpenSpec.ofChange rankMoreWrong)

/- THE SECOND FORM. 'bulk': how many values and letters a reading holds, each counted each time it is reached (what is shared counts as often as it is met; a slice's spare places count too). A statement '..UptoSaid' is the law's where the arguments, and the package variables that the reading takes, are together of bulk at most 1048576: NARROWER than '..Said'. Prove '..Said' where nothing that the law and all that it calls make is longer than what came in: it says more and counts as full. Else prove '..UptoSaid'. A law counts once. -/
mutual
def uptoBulk {H : Type} : DataW H → Nat
  | .lit (.string bytes) => bytes.length + 1
  | .lit _ => 1
  | .nil => 1
  | .ptr d => uptoBulk d + 1
  | .slice elems spare => uptoBulkAll elems + uptoBulkAll spare + 1
  | .agg parts => uptoBulkAll parts + 1
  | .iface _ d => uptoBulk d + 1
  | .map entries => uptoBulkEntries entries + 1
  | .held _ => 1
def uptoBulkAll {H : Type} : List (DataW H) → Nat
  | [] => 0
  | d :: r => uptoBulk d + uptoBulkAll r
def uptoBulkEntries {H : Type} : List (Lit × DataW H) → Nat
  | [] => 0
  | x :: r => uptoBulkEntry x + uptoBulkEntries r
def uptoBulkEntry {H : Type} : Lit × DataW H → Nat
  | (.string bytes, d) => bytes.length + uptoBulk d + 1
  | (_, d) => uptoBulk d + 1
 end
def uptoSmall : (H : Type) → List (DataW H) → Bool := fun _ ds => decide (uptoBulkAll ds ≤ 1048576)
def OpenSpec.upto (s : _root_.Go.ChangeSpec) : _root_.Go.OpenSpec := { _root_.Go.OpenSpec.ofChange s with cond := some uptoSmall }

/-- 'postilionlaw06.SipAdds', WHERE WHAT IT READS IS OF BULK AT MOST 1048576: true; the input reads as it did. -/
def sipAddsUptoRow : OpenClaim := { program := "ytkioniffgmalgaa", sum := "7571a6f8e5e7fbad695906aa3c360dbb36e04cfd46ee4149a94b644b1d72ca7c", func := "postilion/postilionlaw06.SipAdds", spec := "sipAdds", apart := false, narrowed := true }
def SipAddsUptoSaid : Prop := sipAddsUptoRow.holds Try.pinned (OpenSpec.upto sipAddsSpec)

/-- 'postilionlaw06.SipSums', WHERE WHAT IT READS IS OF BULK AT MOST 1048576: true; the input reads as it did. -/
def sipSumsUptoRow : OpenClaim := { program := "ytkioniffgmalgaa", sum := "7571a6f8e5e7fbad695906aa3c360dbb36e04cfd46ee4149a94b644b1d72ca7c", func := "postilion/postilionlaw06.SipSums", spec := "sipSums", apart := false, narrowed := true }
def SipSumsUptoSaid : Prop := sipSumsUptoRow.holds Try.pinned (OpenSpec.upto sipSumsSpec)

/-- 'postilionlaw07.RankOnce', WHERE WHAT IT READS IS OF BULK AT MOST 1048576: true; the input reads as it did. -/
def rankOnceUptoRow : OpenClaim := { program := "ytkioniffgmalgaa", sum := "7571a6f8e5e7fbad695906aa3c360dbb36e04cfd46ee4149a94b644b1d72ca7c", func := "postilion/postilionlaw07.RankOnce", spec := "rankOnce", unfollowed := true, recurses := true, apart := false, narrowed := true }
def RankOnceUptoSaid : Prop := rankOnceUptoRow.holds Try.pinned (OpenSpec.upto rankOnceSpec)

/-- 'postilionlaw06.SipPieces', WHERE WHAT IT READS IS OF BULK AT MOST 1048576: true; the input reads as it did. -/
def sipPiecesUptoRow : OpenClaim := { program := "ytkioniffgmalgaa", sum := "7571a6f8e5e7fbad695906aa3c360dbb36e04cfd46ee4149a94b644b1d72ca7c", func := "postilion/postilionlaw06.SipPieces", spec := "sipPieces", apart := false, narrowed := true }
def SipPiecesUptoSaid : Prop := sipPiecesUptoRow.holds Try.pinned (OpenSpec.upto sipPiecesSpec)

/-- 'postilionlaw07.RankRow', WHERE WHAT IT READS IS OF BULK AT MOST 1048576: true; the input reads as it did. -/
def rankRowUptoRow : OpenClaim := { program := "ytkioniffgmalgaa", sum := "7571a6f8e5e7fbad695906aa3c360dbb36e04cfd46ee4149a94b644b1d72ca7c", func := "postilion/postilionlaw07.RankRow", spec := "rankRow", unfollowed := true, recurses := true, apart := false, narrowed := true }
def RankRowUptoSaid : Prop := rankRowUptoRow.holds Try.pinned (OpenSpec.upto rankRowSpec)

/-- 'postilionlaw07.RankScores', WHERE WHAT IT READS IS OF BULK AT MOST 1048576: true; the input reads as it did. -/
def rankScoresUptoRow : OpenClaim := { program := "ytkioniffgmalgaa", sum := "7571a6f8e5e7fbad695906aa3c360dbb36e04cfd46ee4149a94b644b1d72ca7c", func := "postilion/postilionlaw07.RankScores", spec := "rankScores", apart := false, narrowed := true }
def RankScoresUptoSaid : Prop := rankScoresUptoRow.holds Try.pinned (OpenSpec.upto rankScoresSpec)

/-- 'postilionlaw07.RankOrders', WHERE WHAT IT READS IS OF BULK AT MOST 1048576: true; the input reads as it did. -/
def rankOrdersUptoRow : OpenClaim := { program := "ytkioniffgmalgaa", sum := "7571a6f8e5e7fbad695906aa3c360dbb36e04cfd46ee4149a94b644b1d72ca7c", func := "postilion/postilionlaw07.RankOrders", spec := "rankOrders", unfollowed := true, recurses := true, apart := false, narrowed := true }
def RankOrdersUptoSaid : Prop := rankOrdersUptoRow.holds Try.pinned (OpenSpec.upto rankOrdersSpec)

/-- 'postilionlaw07.RankLess', WHERE WHAT IT READS IS OF BULK AT MOST 1048576: true; the input reads as it did. -/
def rankLessUptoRow : OpenClaim := { program := "ytkioniffgmalgaa", sum := "7571a6f8e5e7fbad695906aa3c360dbb36e04cfd46ee4149a94b644b1d72ca7c", func := "postilion/postilionlaw07.RankLess", spec := "rankLess", unfollowed := true, recurses := true, apart := false, narrowed := true }
def RankLessUptoSaid : Prop := rankLessUptoRow.holds Try.pinned (OpenSpec.upto rankLessSpec)

/-- 'postilionlaw07.RankMore', WHERE WHAT IT READS IS OF BULK AT MOST 1048576: true; the input reads as it did. -/
def rankMoreUptoRow : OpenClaim := { program := "ytkioniffgmalgaa", sum := "7571a6f8e5e7fbad695906aa3c360dbb36e04cfd46ee4149a94b644b1d72ca7c", func := "postilion/postilionlaw07.RankMore", spec := "rankMore", unfollowed := true, recurses := true, apart := false, narrowed := true }
def RankMoreUptoSaid : Prop := rankMoreUptoRow.holds Try.pinned (OpenSpec.upto rankMoreSpec)

end Rows
end Go.Proofs.Ytkioniffgmalgaa
