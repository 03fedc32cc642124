/-
  No cell of these rows narrows 'for every input' (looked for: loops, veiled, ifaces, maps, wideKeys, modest, calm, conditions, laid).
  DERIVED. THE GIVEN ROWS OF THIS SEAT. 5 by the template 'for every input the law returns true; each argument reads behind the call as it read before'; 0 by the template 'total and deterministic' (their statements: YtnpilmjpinmgfaaTotals.lean).
  GIVEN WITH THE SEED: the statements are not yours to turn. If you find one false, say at which input.
  Laid BY PROGRAM, IN A SANDBOX (cutbox-rows.mjs): the forced cells as the released guide's own fill.sh prints them over the translation bc31db6cebf781a6… (all of the seat's roots in one cut). By AI agents, Wed Nov 11 2026. No macro, syntax, notation, axiom, sorry.
-/
import Derived.Test.YtnpilmjpinmgfaaChecked
import GoSem.Claim
import GoSem.ClaimJoined
import GoSem.ClaimMapViews
import Derived.JoinedTies
import Derived.KernelRfl
namespace Go.Proofs.Ytnpilmjpinmgfaa
/- THE CELL 'sum', in the pinned program and in every row, IS THE sha256 OF THE DUMP (.gsa) THAT YtnpilmjpinmgfaaProg.lean LOADS. Nothing in Lean hashes anything: it is a label: what it is worth is what the hold of that sum in a sandbox is worth. -/
noncomputable def Try.pinned : Pinned := { name := "ytnpilmjpinmgfaa", sum := "bc31db6cebf781a603fd17f69afb6168d2f7a1106ac8f68ade76d97eb5177140", checked := Try.checked }
namespace Rows
def none {H : Type} : Left H := { results := [], args := [] }

/-- 'snicketlaw49.TileOf': WHATEVER THE INPUT: true; the input reads as it did. -/
def tileOfSpec : ChangeSpec := { name := "tileOf", fn := fun _ => fun
  | [d1, d2] => { results := [.lit (.bool true)], args := [d1, d2] }
  | _ => none }
def tileOfRow : OpenClaim := { program := "ytnpilmjpinmgfaa", sum := "bc31db6cebf781a603fd17f69afb6168d2f7a1106ac8f68ade76d97eb5177140", func := "snicket/snicketlaw49.TileOf", spec := "tileOf", apart := false }
def TileOfSaid : Prop := tileOfRow.holds Try.pinned (OpenSpec.ofChange tileOfSpec)

/-- ITS FALSE NEIGHBOUR: 'it returns false'. Refute it at one input. -/
def tileOfWrong : ChangeSpec := { name := "tileOf", fn := fun _ => fun
  | [d1, d2] => { results := [.lit (.bool false)], args := [d1, d2] }
  | _ => none }
def TileOfWrongFalsely : Prop := tileOfRow.holds Try.pinned (OpenSpec.ofChange tileOfWrong)

/-- 'snicketlaw47.HilbPoints': WHATEVER THE INPUT: true; the input reads as it did. -/
def hilbPointsSpec : ChangeSpec := { name := "hilbPoints", fn := fun _ => fun
  | [d1, d2] => { results := [.lit (.bool true)], args := [d1, d2] }
  | _ => none }
def hilbPointsRow : OpenClaim := { program := "ytnpilmjpinmgfaa", sum := "bc31db6cebf781a603fd17f69afb6168d2f7a1106ac8f68ade76d97eb5177140", func := "snicket/snicketlaw47.HilbPoints", spec := "hilbPoints", recurses := true, apart := false }
def HilbPointsSaid : Prop := hilbPointsRow.holds Try.pinned (OpenSpec.ofChange hilbPointsSpec)

/-- ITS FALSE NEIGHBOUR: 'it returns false'. Refute it at one input. -/
def hilbPointsWrong : ChangeSpec := { name := "hilbPoints", fn := fun _ => fun
  | [d1, d2] => { results := [.lit (.bool false)], args := [d1, d2] }
  | _ => none }
def HilbPointsWrongFalsely : Prop := hilbPointsRow.holds Try.pinned (OpenSpec.ofChange hilbPointsWrong)

/-- 'snicketlaw49.TileKeys': WHATEVER THE INPUT: true; the input reads as it did. -/
def tileKeysSpec : ChangeSpec := { name := "tileKeys", fn := fun _ => fun
  | [d1, d2] => { results := [.lit (.bool true)], args := [d1, d2] }
  | _ => none }
def tileKeysRow : OpenClaim := { program := "ytnpilmjpinmgfaa", sum := "bc31db6cebf781a603fd17f69afb6168d2f7a1106ac8f68ade76d97eb5177140", func := "snicket/snicketlaw49.TileKeys", spec := "tileKeys", apart := false }
def TileKeysSaid : Prop := tileKeysRow.holds Try.pinned (OpenSpec.ofChange tileKeysSpec)

/-- ITS FALSE NEIGHBOUR: 'it returns false'. Refute it at one input. -/
def tileKeysWrong : ChangeSpec := { name := "tileKeys", fn := fun _ => fun
  | [d1, d2] => { results := [.lit (.bool false)], args := [d1, d2] }
  | _ => none }
def TileKeysWrongFalsely : Prop := tileKeysRow.holds Try.pinned (OpenSpec.ofChange tileKeysWrong)

/-- 'snicketlaw47.HilbIndex': WHATEVER THE INPUT: true; the input reads as it did. -/
def hilbIndexSpec : ChangeSpec := { name := "hilbIndex", fn := fun _ => fun
  | [d1, d2, d3] => { results := [.lit (.bool true)], args := [d1, d2, d3] }
  | _ => none }
def hilbIndexRow : OpenClaim := { program := "ytnpilmjpinmgfaa", sum := "bc31db6cebf781a603fd17f69afb6168d2f7a1106ac8f68ade76d97eb5177140", func := "snicket/snicketlaw47.HilbIndex", spec := "hilbIndex", unfollowed := true, recurses := true, apart := false }
def HilbIndexSaid : Prop := hilbIndexRow.holds Try.pinned (OpenSpec.ofChange hilbIndexSpec)

/-- ITS FALSE NEIGHBOUR: 'it returns false'. Refute it at one input. -/
def hilbIndexWrong : ChangeSpec := { name := "hilbIndex", fn := fun _ => fun
  | [d1, d2, d3] => { results := [.lit (.bool false)], args := [d1, d2, d3] }
  | _ => none }
def HilbIndexWrongFalsely : Prop := hilbIndexRow.holds Try.pinned (OpenSpec.ofChange hilbIndexWrong)

/-- 'snicketlaw47.HilbSorts': WHATEVER THE INPUT: true; the input reads as it did. -/
def hilbSortsSpec : ChangeSpec := { name := "hilbSorts", fn := fun _ => fun
  | [d1, d2] => { results := [.lit (.bool true)], args := [d1, d2] }
  | _ => none }
def hilbSortsRow : OpenClaim := { program := "ytnpilmjpinmgfaa", sum := "bc31db6cebf781a603fd17f69afb6168d2f7a1106ac8f68ade76d97eb5177140", func := "snicket/snicketlaw47.HilbSorts", spec := "hilbSorts", unfollowed := true, recurses := true, apart := false }
def HilbSortsSaid : Prop := hilbSortsRow.holds Try.pinned (OpenSpec.ofChange hilbSortsSpec)

/-- ITS FALSE NEIGHBOUR: 'it returns false'. Refute it at one input. -/
def hilbSortsWrong : ChangeSpec := { name := "hilbSorts", fn := fun _ => fun
  | [d1, d2] => { results := [.lit (.bool false)], args := [d1, d2] }
  | _ => none }
def HilbSortsWrongFalsely : Prop := hilbSortsRow.holds Try.pinned (OpenSpec.ofChange hilbSortsWrong)

/- THE SECOND FORM. 'bulk': how many values and letters a reading holds, each counted each time it is reached (what is shared counts as often as it is met; a slice's spare places count too). A statement '..UptoSaid' is the law's where the arguments, and the package variables that the reading takes, are together of bulk at most 1048576: NARROWER than '..Said'. Prove '..Said' where nothing that the law and all that it calls make is longer than what came in: it says more and counts as full. Else prove '..UptoSaid'. A law counts once. -/
mutual
def uptoBulk {H : Type} : DataW H → Nat
  | .lit (.string bytes) => bytes.length + 1
  | .lit _ => 1
  | .nil => 1
  | .ptr d => uptoBulk d + 1
  | .slice elems spare => uptoBulkAll elems + uptoBulkAll spare + 1
  | .agg parts => uptoBulkAll parts + 1
  | .iface _ d => uptoBulk d + 1
  | .map entries => uptoBulkEntries entries + 1
  | .held _ => 1
def uptoBulkAll {H : Type} : List (DataW H) → Nat
  | [] => 0
  | d :: r => uptoBulk d + uptoBulkAll r
def uptoBulkEntries {H : Type} : List (Lit × DataW H) → Nat
  | [] => 0
  | x :: r => uptoBulkEntry x + uptoBulkEntries r
def uptoBulkEntry {H : Type} : Lit × DataW H → Nat
  | (.string bytes, d) => bytes.length + uptoBulk d + 1
  | (_, d) => uptoBulk d + 1
 end
def uptoSmall : (H : Type) → List (DataW H) → Bool := fun _ ds => decide (uptoBulkAll ds ≤ 1048576)
def OpenSpec.upto (s : _root_.Go.ChangeSpec) : _root_.Go.OpenSpec := { _root_.Go.OpenSpec.ofChange s with cond := some uptoSmall }

/-- 'snicketlaw49.TileOf', WHERE WHAT IT READS IS OF BULK AT MOST 1048576: true; the input reads as it did. -/
def tileOfUptoRow : OpenClaim := { program := "ytnpilmjpinmgfaa", sum := "bc31db6cebf781a603fd17f69afb6168d2f7a1106ac8f68ade76d97eb5177140", func := "snicket/snicketlaw49.TileOf", spec := "tileOf", apart := false, narrowed := true }
def TileOfUptoSaid : Prop := tileOfUptoRow.holds Try.pinned (OpenSpec.upto tileOfSpec)

/-- 'snicketlaw47.HilbPoints', WHERE WHAT IT READS IS OF BULK AT MOST 1048576: true; the input reads as it did. -/
def hilbPointsUptoRow : OpenClaim := { program := "ytnpilmjpinmgfaa", sum := "bc31db6cebf781a603fd17f69afb6168d2f7a1106ac8f68ade76d97eb5177140", func := "snicket/snicketlaw47.HilbPoints", spec := "hilbPoints", recurses := true, apart := false, narrowed := true }
def HilbPointsUptoSaid : Prop := hilbPointsUptoRow.holds Try.pinned (OpenSpec.upto hilbPointsSpec)

/-- 'snicketlaw49.TileKeys', WHERE WHAT IT READS IS OF BULK AT MOST 1048576: true; the input reads as it did. -/
def tileKeysUptoRow : OpenClaim := { program := "ytnpilmjpinmgfaa", sum := "bc31db6cebf781a603fd17f69afb6168d2f7a1106ac8f68ade76d97eb5177140", func := "snicket/snicketlaw49.TileKeys", spec := "tileKeys", apart := false, narrowed := true }
def TileKeysUptoSaid : Prop := tileKeysUptoRow.holds Try.pinned (OpenSpec.upto tileKeysSpec)

/-- 'snicketlaw47.HilbIndex', WHERE WHAT IT READS IS OF BULK AT MOST 1048576: true; the input reads as it did. -/
def hilbIndexUptoRow : OpenClaim := { program := "ytnpilmjpinmgfaa", sum := "bc31db6cebf781a603fd17f69afb6168d2f7a1106ac8f68ade76d97eb5177140", func := "snicket/snicketlaw47.HilbIndex", spec := "hilbIndex", unfollowed := true, recurses := true, apart := false, narrowed := true }
def HilbIndexUptoSaid : Prop := hilbIndexUptoRow.holds Try.pinned (OpenSpec.upto hilbIndexSpec)

/-- 'snicketlaw47.HilbSorts', WHERE WHAT IT READS IS OF BULK AT MOST 1048576: true; the input reads as it did. -/
def hilbSortsUptoRow : OpenClaim := { program := "ytnpilmjpinmgfaa", sum := "bc31db6cebf781a603fd17f69afb6168d2f7a1106ac8f68ade76d97eb5177140", func := "snicket/snicketlaw47.HilbSorts", spec := "hilbSorts", unfollowed := true, recurses := true, apart := false, narrowed := true }
def HilbSortsUptoSaid : Prop := hilbSortsUptoRow.holds Try.pinned (OpenSpec.upto hilbSortsSpec)

end Rows
end Go.Proofs.Ytnpilmjpinmgfaa
