/-
  No cell of these rows narrows 'for every input' (looked for: loops, veiled, ifaces, maps, wideKeys, modest, calm, conditions, laid).
  DERIVED. THE GIVEN ROWS OF THIS SEAT. 7 by the template 'for every input the law returns true; each argument reads behind the call as it read before'; 0 by the template 'total and deterministic' (their statements: YtcpjgcpclekjkaaTotals.lean).
  GIVEN WITH THE SEED: the statements are not yours to turn. If you find one false, say at which input.
  Laid BY PROGRAM, IN A SANDBOX (cutbox-rows.mjs): the forced cells as the released guide's own fill.sh prints them over the translation 93fc6c724f0db839… (all of the seat's roots in one cut). By AI agents, Wed Nov 11 2026. No macro, syntax, notation, axiom, sorry.
-/
import Derived.Test.YtcpjgcpclekjkaaChecked
import GoSem.Claim
import GoSem.ClaimJoined
import GoSem.ClaimMapViews
import Derived.JoinedTies
import Derived.KernelRfl
namespace Go.Proofs.Ytcpjgcpclekjkaa
/- THE CELL 'sum', in the pinned program and in every row, IS THE sha256 OF THE DUMP (.gsa) THAT YtcpjgcpclekjkaaProg.lean LOADS. Nothing in Lean hashes anything: it is a label: what it is worth is what the hold of that sum in a sandbox is worth. -/
noncomputable def Try.pinned : Pinned := { name := "ytcpjgcpclekjkaa", sum := "93fc6c724f0db8397b7d678430f10db588e0e45703adb6d2ea15a9b162e86cdf", checked := Try.checked }
namespace Rows
def none {H : Type} : Left H := { results := [], args := [] }

/-- 'snicketlaw07.PointTurns': WHATEVER THE INPUT: true; the input reads as it did. -/
def pointTurnsSpec : ChangeSpec := { name := "pointTurns", fn := fun _ => fun
  | [d1, d2] => { results := [.lit (.bool true)], args := [d1, d2] }
  | _ => none }
def pointTurnsRow : OpenClaim := { program := "ytcpjgcpclekjkaa", sum := "93fc6c724f0db8397b7d678430f10db588e0e45703adb6d2ea15a9b162e86cdf", func := "snicket/snicketlaw07.PointTurns", spec := "pointTurns", apart := false }
def PointTurnsSaid : Prop := pointTurnsRow.holds Try.pinned (OpenSpec.ofChange pointTurnsSpec)

/-- ITS FALSE NEIGHBOUR: 'it returns false'. Refute it at one input. -/
def pointTurnsWrong : ChangeSpec := { name := "pointTurns", fn := fun _ => fun
  | [d1, d2] => { results := [.lit (.bool false)], args := [d1, d2] }
  | _ => none }
def PointTurnsWrongFalsely : Prop := pointTurnsRow.holds Try.pinned (OpenSpec.ofChange pointTurnsWrong)

/-- 'snicketlaw07.PointCrosses': WHATEVER THE INPUT: true; the input reads as it did. -/
def pointCrossesSpec : ChangeSpec := { name := "pointCrosses", fn := fun _ => fun
  | [d1, d2, d3] => { results := [.lit (.bool true)], args := [d1, d2, d3] }
  | _ => none }
def pointCrossesRow : OpenClaim := { program := "ytcpjgcpclekjkaa", sum := "93fc6c724f0db8397b7d678430f10db588e0e45703adb6d2ea15a9b162e86cdf", func := "snicket/snicketlaw07.PointCrosses", spec := "pointCrosses", apart := false }
def PointCrossesSaid : Prop := pointCrossesRow.holds Try.pinned (OpenSpec.ofChange pointCrossesSpec)

/-- ITS FALSE NEIGHBOUR: 'it returns false'. Refute it at one input. -/
def pointCrossesWrong : ChangeSpec := { name := "pointCrosses", fn := fun _ => fun
  | [d1, d2, d3] => { results := [.lit (.bool false)], args := [d1, d2, d3] }
  | _ => none }
def PointCrossesWrongFalsely : Prop := pointCrossesRow.holds Try.pinned (OpenSpec.ofChange pointCrossesWrong)

/-- 'snicketlaw07.PointBoxes': WHATEVER THE INPUT: true; the input reads as it did. -/
def pointBoxesSpec : ChangeSpec := { name := "pointBoxes", fn := fun _ => fun
  | [d1, d2] => { results := [.lit (.bool true)], args := [d1, d2] }
  | _ => none }
def pointBoxesRow : OpenClaim := { program := "ytcpjgcpclekjkaa", sum := "93fc6c724f0db8397b7d678430f10db588e0e45703adb6d2ea15a9b162e86cdf", func := "snicket/snicketlaw07.PointBoxes", spec := "pointBoxes", apart := false }
def PointBoxesSaid : Prop := pointBoxesRow.holds Try.pinned (OpenSpec.ofChange pointBoxesSpec)

/-- ITS FALSE NEIGHBOUR: 'it returns false'. Refute it at one input. -/
def pointBoxesWrong : ChangeSpec := { name := "pointBoxes", fn := fun _ => fun
  | [d1, d2] => { results := [.lit (.bool false)], args := [d1, d2] }
  | _ => none }
def PointBoxesWrongFalsely : Prop := pointBoxesRow.holds Try.pinned (OpenSpec.ofChange pointBoxesWrong)

/-- 'snicketlaw08.OrientSides': WHATEVER THE INPUT: true; the input reads as it did. -/
def orientSidesSpec : ChangeSpec := { name := "orientSides", fn := fun _ => fun
  | [d1, d2, d3] => { results := [.lit (.bool true)], args := [d1, d2, d3] }
  | _ => none }
def orientSidesRow : OpenClaim := { program := "ytcpjgcpclekjkaa", sum := "93fc6c724f0db8397b7d678430f10db588e0e45703adb6d2ea15a9b162e86cdf", func := "snicket/snicketlaw08.OrientSides", spec := "orientSides", apart := false }
def OrientSidesSaid : Prop := orientSidesRow.holds Try.pinned (OpenSpec.ofChange orientSidesSpec)

/-- ITS FALSE NEIGHBOUR: 'it returns false'. Refute it at one input. -/
def orientSidesWrong : ChangeSpec := { name := "orientSides", fn := fun _ => fun
  | [d1, d2, d3] => { results := [.lit (.bool false)], args := [d1, d2, d3] }
  | _ => none }
def OrientSidesWrongFalsely : Prop := orientSidesRow.holds Try.pinned (OpenSpec.ofChange orientSidesWrong)

/-- 'snicketlaw08.OrientOn': WHATEVER THE INPUT: true; the input reads as it did. -/
def orientOnSpec : ChangeSpec := { name := "orientOn", fn := fun _ => fun
  | [d1, d2, d3] => { results := [.lit (.bool true)], args := [d1, d2, d3] }
  | _ => none }
def orientOnRow : OpenClaim := { program := "ytcpjgcpclekjkaa", sum := "93fc6c724f0db8397b7d678430f10db588e0e45703adb6d2ea15a9b162e86cdf", func := "snicket/snicketlaw08.OrientOn", spec := "orientOn", apart := false }
def OrientOnSaid : Prop := orientOnRow.holds Try.pinned (OpenSpec.ofChange orientOnSpec)

/-- ITS FALSE NEIGHBOUR: 'it returns false'. Refute it at one input. -/
def orientOnWrong : ChangeSpec := { name := "orientOn", fn := fun _ => fun
  | [d1, d2, d3] => { results := [.lit (.bool false)], args := [d1, d2, d3] }
  | _ => none }
def OrientOnWrongFalsely : Prop := orientOnRow.holds Try.pinned (OpenSpec.ofChange orientOnWrong)

/-- 'snicketlaw08.OrientTouch': WHATEVER THE INPUT: true; the input reads as it did. -/
def orientTouchSpec : ChangeSpec := { name := "orientTouch", fn := fun _ => fun
  | [d1, d2] => { results := [.lit (.bool true)], args := [d1, d2] }
  | _ => none }
def orientTouchRow : OpenClaim := { program := "ytcpjgcpclekjkaa", sum := "93fc6c724f0db8397b7d678430f10db588e0e45703adb6d2ea15a9b162e86cdf", func := "snicket/snicketlaw08.OrientTouch", spec := "orientTouch", apart := false }
def OrientTouchSaid : Prop := orientTouchRow.holds Try.pinned (OpenSpec.ofChange orientTouchSpec)

/-- ITS FALSE NEIGHBOUR: 'it returns false'. Refute it at one input. -/
def orientTouchWrong : ChangeSpec := { name := "orientTouch", fn := fun _ => fun
  | [d1, d2] => { results := [.lit (.bool false)], args := [d1, d2] }
  | _ => none }
def OrientTouchWrongFalsely : Prop := orientTouchRow.holds Try.pinned (OpenSpec.ofChange orientTouchWrong)

/-- 'snicketlaw08.OrientTurned': WHATEVER THE INPUT: true; the input reads as it did. -/
def orientTurnedSpec : ChangeSpec := { name := "orientTurned", fn := fun _ => fun
  | [d1, d2, d3] => { results := [.lit (.bool true)], args := [d1, d2, d3] }
  | _ => none }
def orientTurnedRow : OpenClaim := { program := "ytcpjgcpclekjkaa", sum := "93fc6c724f0db8397b7d678430f10db588e0e45703adb6d2ea15a9b162e86cdf", func := "snicket/snicketlaw08.OrientTurned", spec := "orientTurned", unfollowed := true, recurses := true, apart := false }
def OrientTurnedSaid : Prop := orientTurnedRow.holds Try.pinned (OpenSpec.ofChange orientTurnedSpec)

/-- ITS FALSE NEIGHBOUR: 'it returns false'. Refute it at one input. -/
def orientTurnedWrong : ChangeSpec := { name := "orientTurned", fn := fun _ => fun
  | [d1, d2, d3] => { results := [.lit (.bool false)], args := [d1, d2, d3] }
  | _ => none }
def OrientTurnedWrongFalsely : Prop := orientTurnedRow.holds Try.pinned (OpenSpec.ofChange orientTurnedWrong)

/- THE SECOND FORM. 'bulk': how many values and letters a reading holds, each counted each time it is reached (what is shared counts as often as it is met; a slice's spare places count too). A statement '..UptoSaid' is the law's where the arguments, and the package variables that the reading takes, are together of bulk at most 1048576: NARROWER than '..Said'. Prove '..Said' where nothing that the law and all that it calls make is longer than what came in: it says more and counts as full. Else prove '..UptoSaid'. A law counts once. -/
mutual
def uptoBulk {H : Type} : DataW H → Nat
  | .lit (.string bytes) => bytes.length + 1
  | .lit _ => 1
  | .nil => 1
  | .ptr d => uptoBulk d + 1
  | .slice elems spare => uptoBulkAll elems + uptoBulkAll spare + 1
  | .agg parts => uptoBulkAll parts + 1
  | .iface _ d => uptoBulk d + 1
  | .map entries => uptoBulkEntries entries + 1
  | .held _ => 1
def uptoBulkAll {H : Type} : List (DataW H) → Nat
  | [] => 0
  | d :: r => uptoBulk d + uptoBulkAll r
def uptoBulkEntries {H : Type} : List (Lit × DataW H) → Nat
  | [] => 0
  | x :: r => uptoBulkEntry x + uptoBulkEntries r
def uptoBulkEntry {H : Type} : Lit × DataW H → Nat
  | (.string bytes, d) => bytes.length + uptoBulk d + 1
  | (_, d) => uptoBulk d + 1
 end
def uptoSmall : (H : Type) → List (DataW H) → Bool := fun _ ds => decide (uptoBulkAll ds ≤ 1048576)
def OpenSpec.upto (s : _root_.Go.ChangeSpec) : _root_.Go.OpenSpec := { _root_.Go.OpenSpec.ofChange s with cond := some uptoSmall }

/-- 'snicketlaw07.PointTurns', WHERE WHAT IT READS IS OF BULK AT MOST 1048576: true; the input reads as it did. -/
def pointTurnsUptoRow : OpenClaim := { program := "ytcpjgcpclekjkaa", sum := "93fc6c724f0db8397b7d678430f10db588e0e45703adb6d2ea15a9b162e86cdf", func := "snicket/snicketlaw07.PointTurns", spec := "pointTurns", apart := false, narrowed := true }
def PointTurnsUptoSaid : Prop := pointTurnsUptoRow.holds Try.pinned (OpenSpec.upto pointTurnsSpec)

/-- 'snicketlaw07.PointCrosses', WHERE WHAT IT READS IS OF BULK AT MOST 1048576: true; the input reads as it did. -/
def pointCrossesUptoRow : OpenClaim := { program := "ytcpjgcpclekjkaa", sum := "93fc6c724f0db8397b7d678430f10db588e0e45703adb6d2ea15a9b162e86cdf", func := "snicket/snicketlaw07.PointCrosses", spec := "pointCrosses", apart := false, narrowed := true }
def PointCrossesUptoSaid : Prop := pointCrossesUptoRow.holds Try.pinned (OpenSpec.upto pointCrossesSpec)

/-- 'snicketlaw07.PointBoxes', WHERE WHAT IT READS IS OF BULK AT MOST 1048576: true; the input reads as it did. -/
def pointBoxesUptoRow : OpenClaim := { program := "ytcpjgcpclekjkaa", sum := "93fc6c724f0db8397b7d678430f10db588e0e45703adb6d2ea15a9b162e86cdf", func := "snicket/snicketlaw07.PointBoxes", spec := "pointBoxes", apart := false, narrowed := true }
def PointBoxesUptoSaid : Prop := pointBoxesUptoRow.holds Try.pinned (OpenSpec.upto pointBoxesSpec)

/-- 'snicketlaw08.OrientSides', WHERE WHAT IT READS IS OF BULK AT MOST 1048576: true; the input reads as it did. -/
def orientSidesUptoRow : OpenClaim := { program := "ytcpjgcpclekjkaa", sum := "93fc6c724f0db8397b7d678430f10db588e0e45703adb6d2ea15a9b162e86cdf", func := "snicket/snicketlaw08.OrientSides", spec := "orientSides", apart := false, narrowed := true }
def OrientSidesUptoSaid : Prop := orientSidesUptoRow.holds Try.pinned (OpenSpec.upto orientSidesSpec)

/-- 'snicketlaw08.OrientOn', WHERE WHAT IT READS IS OF BULK AT MOST 1048576: true; the input reads as it did. -/
def orientOnUptoRow : OpenClaim := { program := "ytcpjgcpclekjkaa", sum := "93fc6c724f0db8397b7d678430f10db588e0e45703adb6d2ea15a9b162e86cdf", func := "snicket/snicketlaw08.OrientOn", spec := "orientOn", apart := false, narrowed := true }
def OrientOnUptoSaid : Prop := orientOnUptoRow.holds Try.pinned (OpenSpec.upto orientOnSpec)

/-- 'snicketlaw08.OrientTouch', WHERE WHAT IT READS IS OF BULK AT MOST 1048576: true; the input reads as it did. -/
def orientTouchUptoRow : OpenClaim := { program := "ytcpjgcpclekjkaa", sum := "93fc6c724f0db8397b7d678430f10db588e0e45703adb6d2ea15a9b162e86cdf", func := "snicket/snicketlaw08.OrientTouch", spec := "orientTouch", apart := false, narrowed := true }
def OrientTouchUptoSaid : Prop := orientTouchUptoRow.holds Try.pinned (OpenSpec.upto orientTouchSpec)

/-- 'snicketlaw08.OrientTurned', WHERE WHAT IT READS IS OF BULK AT MOST 1048576: true; the input reads as it did. -/
def orientTurnedUptoRow : OpenClaim := { program := "ytcpjgcpclekjkaa", sum := "93fc6c724f0db8397b7d678430f10db588e0e45703adb6d2ea15a9b162e86cdf", func := "snicket/snicketlaw08.OrientTurned", spec := "orientTurned", unfollowed := true, recurses := true, apart := false, narrowed := true }
def OrientTurnedUptoSaid : Prop := orientTurnedUptoRow.holds Try.pinned (OpenSpec.upto orientTurnedSpec)

end Rows
end Go.Proofs.Ytcpjgcpclekjkaa
