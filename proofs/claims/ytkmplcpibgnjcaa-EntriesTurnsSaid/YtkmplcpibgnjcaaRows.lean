/-
  No cell of these rows narrows 'for every input' (looked for: loops, veiled, ifaces, maps, wideKeys, modest, calm, conditions, laid).
  DERIVED. THE GIVEN ROWS OF THIS SEAT. 9 by the template 'for every input the law returns true; each argument reads behind the call as it read before'; 0 by the template 'total and deterministic' (their statements: YtkmplcpibgnjcaaTotals.lean).
  GIVEN WITH THE SEED: the statements are not yours to turn. If you find one false, say at which input.
  Laid BY PROGRAM, IN A SANDBOX (cutbox-rows.mjs): the forced cells as the released guide's own fill.sh prints them over the translation 850f737fe0c3d5c3… (all of the seat's roots in one cut). By AI agents, Wed Nov 11 2026. No macro, syntax, notation, axiom, sorry.
-/
import Derived.Test.YtkmplcpibgnjcaaChecked
import GoSem.Claim
import GoSem.ClaimJoined
import GoSem.ClaimMapViews
import Derived.JoinedTies
import Derived.KernelRfl
namespace Go.Proofs.Ytkmplcpibgnjcaa
/- THE CELL 'sum', in the pinned program and in every row, IS THE sha256 OF THE DUMP (.gsa) THAT YtkmplcpibgnjcaaProg.lean LOADS. Nothing in Lean hashes anything: it is a label: what it is worth is what the hold of that sum in a sandbox is worth. -/
noncomputable def Try.pinned : Pinned := { name := "ytkmplcpibgnjcaa", sum := "850f737fe0c3d5c3f8e0368976eb0912ea6512b1ee466f2770d9f6c67ca685d5", checked := Try.checked }
namespace Rows
def none {H : Type} : Left H := { results := [], args := [] }

/-- 'antipodelaw12.EntriesCompact': WHATEVER THE INPUT: true; the input reads as it did. -/
def entriesCompactSpec : ChangeSpec := { name := "entriesCompact", fn := fun _ => fun
  | [d1, d2, d3, d4] => { results := [.lit (.bool true)], args := [d1, d2, d3, d4] }
  | _ => none }
def entriesCompactRow : OpenClaim := { program := "ytkmplcpibgnjcaa", sum := "850f737fe0c3d5c3f8e0368976eb0912ea6512b1ee466f2770d9f6c67ca685d5", func := "antipode/antipodelaw12.EntriesCompact", spec := "entriesCompact", unfollowed := true, recurses := true, apart := false }
def EntriesCompactSaid : Prop := entriesCompactRow.holds Try.pinned (OpenSpec.ofChange entriesCompactSpec)

/-- ITS FALSE NEIGHBOUR: 'it returns false'. Refute it at one input. -/
def entriesCompactWrong : ChangeSpec := { name := "entriesCompact", fn := fun _ => fun
  | [d1, d2, d3, d4] => { results := [.lit (.bool false)], args := [d1, d2, d3, d4] }
  | _ => none }
def EntriesCompactWrongFalsely : Prop := entriesCompactRow.holds Try.pinned (OpenSpec.ofChange entriesCompactWrong)

/-- 'antipodelaw12.EntriesOrder': WHATEVER THE INPUT: true; the input reads as it did. -/
def entriesOrderSpec : ChangeSpec := { name := "entriesOrder", fn := fun _ => fun
  | [d1, d2, d3] => { results := [.lit (.bool true)], args := [d1, d2, d3] }
  | _ => none }
def entriesOrderRow : OpenClaim := { program := "ytkmplcpibgnjcaa", sum := "850f737fe0c3d5c3f8e0368976eb0912ea6512b1ee466f2770d9f6c67ca685d5", func := "antipode/antipodelaw12.EntriesOrder", spec := "entriesOrder", unfollowed := true, recurses := true, apart := false }
def EntriesOrderSaid : Prop := entriesOrderRow.holds Try.pinned (OpenSpec.ofChange entriesOrderSpec)

/-- ITS FALSE NEIGHBOUR: 'it returns false'. Refute it at one input. -/
def entriesOrderWrong : ChangeSpec := { name := "entriesOrder", fn := fun _ => fun
  | [d1, d2, d3] => { results := [.lit (.bool false)], args := [d1, d2, d3] }
  | _ => none }
def EntriesOrderWrongFalsely : Prop := entriesOrderRow.holds Try.pinned (OpenSpec.ofChange entriesOrderWrong)

/-- 'antipodelaw12.EntriesTurns': WHATEVER THE INPUT: true; the input reads as it did. -/
def entriesTurnsSpec : ChangeSpec := { name := "entriesTurns", fn := fun _ => fun
  | [d1, d2, d3, d4, d5, d6] => { results := [.lit (.bool true)], args := [d1, d2, d3, d4, d5, d6] }
  | _ => none }
def entriesTurnsRow : OpenClaim := { program := "ytkmplcpibgnjcaa", sum := "850f737fe0c3d5c3f8e0368976eb0912ea6512b1ee466f2770d9f6c67ca685d5", func := "antipode/antipodelaw12.EntriesTurns", spec := "entriesTurns", unfollowed := true, recurses := true, apart := false }
def EntriesTurnsSaid : Prop := entriesTurnsRow.holds Try.pinned (OpenSpec.ofChange entriesTurnsSpec)

/-- ITS FALSE NEIGHBOUR: 'it returns false'. Refute it at one input. -/
def entriesTurnsWrong : ChangeSpec := { name := "entriesTurns", fn := fun _ => fun
  | [d1, d2, d3, d4, d5, d6] => { results := [.lit (.bool false)], args := [d1, d2, d3, d4, d5, d6] }
  | _ => none }
def EntriesTurnsWrongFalsely : Prop := entriesTurnsRow.holds Try.pinned (OpenSpec.ofChange entriesTurnsWrong)

/-- 'antipodelaw12.EntriesMerge': WHATEVER THE INPUT: true; the input reads as it did. -/
def entriesMergeSpec : ChangeSpec := { name := "entriesMerge", fn := fun _ => fun
  | [d1, d2, d3, d4] => { results := [.lit (.bool true)], args := [d1, d2, d3, d4] }
  | _ => none }
def entriesMergeRow : OpenClaim := { program := "ytkmplcpibgnjcaa", sum := "850f737fe0c3d5c3f8e0368976eb0912ea6512b1ee466f2770d9f6c67ca685d5", func := "antipode/antipodelaw12.EntriesMerge", spec := "entriesMerge", unfollowed := true, recurses := true, apart := false }
def EntriesMergeSaid : Prop := entriesMergeRow.holds Try.pinned (OpenSpec.ofChange entriesMergeSpec)

/-- ITS FALSE NEIGHBOUR: 'it returns false'. Refute it at one input. -/
def entriesMergeWrong : ChangeSpec := { name := "entriesMerge", fn := fun _ => fun
  | [d1, d2, d3, d4] => { results := [.lit (.bool false)], args := [d1, d2, d3, d4] }
  | _ => none }
def EntriesMergeWrongFalsely : Prop := entriesMergeRow.holds Try.pinned (OpenSpec.ofChange entriesMergeWrong)

/-- 'antipodelaw12.EntriesPieces': WHATEVER THE INPUT: true; the input reads as it did. -/
def entriesPiecesSpec : ChangeSpec := { name := "entriesPieces", fn := fun _ => fun
  | [d1, d2, d3] => { results := [.lit (.bool true)], args := [d1, d2, d3] }
  | _ => none }
def entriesPiecesRow : OpenClaim := { program := "ytkmplcpibgnjcaa", sum := "850f737fe0c3d5c3f8e0368976eb0912ea6512b1ee466f2770d9f6c67ca685d5", func := "antipode/antipodelaw12.EntriesPieces", spec := "entriesPieces", unfollowed := true, recurses := true, apart := false }
def EntriesPiecesSaid : Prop := entriesPiecesRow.holds Try.pinned (OpenSpec.ofChange entriesPiecesSpec)

/-- ITS FALSE NEIGHBOUR: 'it returns false'. Refute it at one input. -/
def entriesPiecesWrong : ChangeSpec := { name := "entriesPieces", fn := fun _ => fun
  | [d1, d2, d3] => { results := [.lit (.bool false)], args := [d1, d2, d3] }
  | _ => none }
def EntriesPiecesWrongFalsely : Prop := entriesPiecesRow.holds Try.pinned (OpenSpec.ofChange entriesPiecesWrong)

/-- 'antipodelaw12.EntriesTell': WHATEVER THE INPUT: true; the input reads as it did. -/
def entriesTellSpec : ChangeSpec := { name := "entriesTell", fn := fun _ => fun
  | [d1, d2, d3, d4] => { results := [.lit (.bool true)], args := [d1, d2, d3, d4] }
  | _ => none }
def entriesTellRow : OpenClaim := { program := "ytkmplcpibgnjcaa", sum := "850f737fe0c3d5c3f8e0368976eb0912ea6512b1ee466f2770d9f6c67ca685d5", func := "antipode/antipodelaw12.EntriesTell", spec := "entriesTell", unfollowed := true, recurses := true, apart := false }
def EntriesTellSaid : Prop := entriesTellRow.holds Try.pinned (OpenSpec.ofChange entriesTellSpec)

/-- ITS FALSE NEIGHBOUR: 'it returns false'. Refute it at one input. -/
def entriesTellWrong : ChangeSpec := { name := "entriesTell", fn := fun _ => fun
  | [d1, d2, d3, d4] => { results := [.lit (.bool false)], args := [d1, d2, d3, d4] }
  | _ => none }
def EntriesTellWrongFalsely : Prop := entriesTellRow.holds Try.pinned (OpenSpec.ofChange entriesTellWrong)

/-- 'antipodelaw15.HardReads': WHATEVER THE INPUT: true; the input reads as it did. -/
def hardReadsSpec : ChangeSpec := { name := "hardReads", fn := fun _ => fun
  | [d1, d2, d3] => { results := [.lit (.bool true)], args := [d1, d2, d3] }
  | _ => none }
def hardReadsRow : OpenClaim := { program := "ytkmplcpibgnjcaa", sum := "850f737fe0c3d5c3f8e0368976eb0912ea6512b1ee466f2770d9f6c67ca685d5", func := "antipode/antipodelaw15.HardReads", spec := "hardReads", unfollowed := true, recurses := true, apart := false }
def HardReadsSaid : Prop := hardReadsRow.holds Try.pinned (OpenSpec.ofChange hardReadsSpec)

/-- ITS FALSE NEIGHBOUR: 'it returns false'. Refute it at one input. -/
def hardReadsWrong : ChangeSpec := { name := "hardReads", fn := fun _ => fun
  | [d1, d2, d3] => { results := [.lit (.bool false)], args := [d1, d2, d3] }
  | _ => none }
def HardReadsWrongFalsely : Prop := hardReadsRow.holds Try.pinned (OpenSpec.ofChange hardReadsWrong)

/-- 'antipodelaw15.HardWrites': WHATEVER THE INPUT: true; the input reads as it did. -/
def hardWritesSpec : ChangeSpec := { name := "hardWrites", fn := fun _ => fun
  | [d1, d2, d3, d4] => { results := [.lit (.bool true)], args := [d1, d2, d3, d4] }
  | _ => none }
def hardWritesRow : OpenClaim := { program := "ytkmplcpibgnjcaa", sum := "850f737fe0c3d5c3f8e0368976eb0912ea6512b1ee466f2770d9f6c67ca685d5", func := "antipode/antipodelaw15.HardWrites", spec := "hardWrites", unfollowed := true, recurses := true, apart := false }
def HardWritesSaid : Prop := hardWritesRow.holds Try.pinned (OpenSpec.ofChange hardWritesSpec)

/-- ITS FALSE NEIGHBOUR: 'it returns false'. Refute it at one input. -/
def hardWritesWrong : ChangeSpec := { name := "hardWrites", fn := fun _ => fun
  | [d1, d2, d3, d4] => { results := [.lit (.bool false)], args := [d1, d2, d3, d4] }
  | _ => none }
def HardWritesWrongFalsely : Prop := hardWritesRow.holds Try.pinned (OpenSpec.ofChange hardWritesWrong)

/-- 'antipodelaw15.HardPairs': WHATEVER THE INPUT: true; the input reads as it did. -/
def hardPairsSpec : ChangeSpec := { name := "hardPairs", fn := fun _ => fun
  | [d1, d2] => { results := [.lit (.bool true)], args := [d1, d2] }
  | _ => none }
def hardPairsRow : OpenClaim := { program := "ytkmplcpibgnjcaa", sum := "850f737fe0c3d5c3f8e0368976eb0912ea6512b1ee466f2770d9f6c67ca685d5", func := "antipode/antipodelaw15.HardPairs", spec := "hardPairs", unfollowed := true, recurses := true, apart := false }
def HardPairsSaid : Prop := hardPairsRow.holds Try.pinned (OpenSpec.ofChange hardPairsSpec)

/-- ITS FALSE NEIGHBOUR: 'it returns false'. Refute it at one input. -/
def hardPairsWrong : ChangeSpec := { name := "hardPairs", fn := fun _ => fun
  | [d1, d2] => { results := [.lit (.bool false)], args := [d1, d2] }
  | _ => none }
def HardPairsWrongFalsely : Prop := hardPairsRow.holds Try.pinned (OpenSpec.ofChange hardPairsWrong)

/- THE SECOND FORM. 'bulk': how many values and letters a reading holds, each counted each time it is reached (what is shared counts as often as it is met; a slice's spare places count too). A statement '..UptoSaid' is the law's where the arguments, and the package variables that the reading takes, are together of bulk at most 1048576: NARROWER than '..Said'. Prove '..Said' where nothing that the law and all that it calls make is longer than what came in: it says more and counts as full. Else prove '..UptoSaid'. A law counts once. -/
mutual
def uptoBulk {H : Type} : DataW H → Nat
  | .lit (.string bytes) => bytes.length + 1
  | .lit _ => 1
  | .nil => 1
  | .ptr d => uptoBulk d + 1
  | .slice elems spare => uptoBulkAll elems + uptoBulkAll spare + 1
  | .agg parts => uptoBulkAll parts + 1
  | .iface _ d => uptoBulk d + 1
  | .map entries => uptoBulkEntries entries + 1
  | .held _ => 1
def uptoBulkAll {H : Type} : List (DataW H) → Nat
  | [] => 0
  | d :: r => uptoBulk d + uptoBulkAll r
def uptoBulkEntries {H : Type} : List (Lit × DataW H) → Nat
  | [] => 0
  | x :: r => uptoBulkEntry x + uptoBulkEntries r
def uptoBulkEntry {H : Type} : Lit × DataW H → Nat
  | (.string bytes, d) => bytes.length + uptoBulk d + 1
  | (_, d) => uptoBulk d + 1
 end
def uptoSmall : (H : Type) → List (DataW H) → Bool := fun _ ds => decide (uptoBulkAll ds ≤ 1048576)
def OpenSpec.upto (s : _root_.Go.ChangeSpec) : _root_.Go.OpenSpec := { _root_.Go.OpenSpec.ofChange s with cond := some uptoSmall }

/-- 'antipodelaw12.EntriesCompact', WHERE WHAT IT READS IS OF BULK AT MOST 1048576: true; the input reads as it did. -/
def entriesCompactUptoRow : OpenClaim := { program := "ytkmplcpibgnjcaa", sum := "850f737fe0c3d5c3f8e0368976eb0912ea6512b1ee466f2770d9f6c67ca685d5", func := "antipode/antipodelaw12.EntriesCompact", spec := "entriesCompact", unfollowed := true, recurses := true, apart := false, narrowed := true }
def EntriesCompactUptoSaid : Prop := entriesCompactUptoRow.holds Try.pinned (OpenSpec.upto entriesCompactSpec)

/-- 'antipodelaw12.EntriesOrder', WHERE WHAT IT READS IS OF BULK AT MOST 1048576: true; the input reads as it did. -/
def entriesOrderUptoRow : OpenClaim := { program := "ytkmplcpibgnjcaa", sum := "850f737fe0c3d5c3f8e0368976eb0912ea6512b1ee466f2770d9f6c67ca685d5", func := "antipode/antipodelaw12.EntriesOrder", spec := "entriesOrder", unfollowed := true, recurses := true, apart := false, narrowed := true }
def EntriesOrderUptoSaid : Prop := entriesOrderUptoRow.holds Try.pinned (OpenSpec.upto entriesOrderSpec)

/-- 'antipodelaw12.EntriesTurns', WHERE WHAT IT READS IS OF BULK AT MOST 1048576: true; the input reads as it did. -/
def entriesTurnsUptoRow : OpenClaim := { program := "ytkmplcpibgnjcaa", sum := "850f737fe0c3d5c3f8e0368976eb0912ea6512b1ee466f2770d9f6c67ca685d5", func := "antipode/antipodelaw12.EntriesTurns", spec := "entriesTurns", unfollowed := true, recurses := true, apart := false, narrowed := true }
def EntriesTurnsUptoSaid : Prop := entriesTurnsUptoRow.holds Try.pinned (OpenSpec.upto entriesTurnsSpec)

/-- 'antipodelaw12.EntriesMerge', WHERE WHAT IT READS IS OF BULK AT MOST 1048576: true; the input reads as it did. -/
def entriesMergeUptoRow : OpenClaim := { program := "ytkmplcpibgnjcaa", sum := "850f737fe0c3d5c3f8e0368976eb0912ea6512b1ee466f2770d9f6c67ca685d5", func := "antipode/antipodelaw12.EntriesMerge", spec := "entriesMerge", unfollowed := true, recurses := true, apart := false, narrowed := true }
def EntriesMergeUptoSaid : Prop := entriesMergeUptoRow.holds Try.pinned (OpenSpec.upto entriesMergeSpec)

/-- 'antipodelaw12.EntriesPieces', WHERE WHAT IT READS IS OF BULK AT MOST 1048576: true; the input reads as it did. -/
def entriesPiecesUptoRow : OpenClaim := { program := "ytkmplcpibgnjcaa", sum := "850f737fe0c3d5c3f8e0368976eb0912ea6512b1ee466f2770d9f6c67ca685d5", func := "antipode/antipodelaw12.EntriesPieces", spec := "entriesPieces", unfollowed := true, recurses := true, apart := false, narrowed := true }
def EntriesPiecesUptoSaid : Prop := entriesPiecesUptoRow.holds Try.pinned (OpenSpec.upto entriesPiecesSpec)

/-- 'antipodelaw12.EntriesTell', WHERE WHAT IT READS IS OF BULK AT MOST 1048576: true; the input reads as it did. -/
def entriesTellUptoRow : OpenClaim := { program := "ytkmplcpibgnjcaa", sum := "850f737fe0c3d5c3f8e0368976eb0912ea6512b1ee466f2770d9f6c67ca685d5", func := "antipode/antipodelaw12.EntriesTell", spec := "entriesTell", unfollowed := true, recurses := true, apart := false, narrowed := true }
def EntriesTellUptoSaid : Prop := entriesTellUptoRow.holds Try.pinned (OpenSpec.upto entriesTellSpec)

/-- 'antipodelaw15.HardReads', WHERE WHAT IT READS IS OF BULK AT MOST 1048576: true; the input reads as it did. -/
def hardReadsUptoRow : OpenClaim := { program := "ytkmplcpibgnjcaa", sum := "850f737fe0c3d5c3f8e0368976eb0912ea6512b1ee466f2770d9f6c67ca685d5", func := "antipode/antipodelaw15.HardReads", spec := "hardReads", unfollowed := true, recurses := true, apart := false, narrowed := true }
def HardReadsUptoSaid : Prop := hardReadsUptoRow.holds Try.pinned (OpenSpec.upto hardReadsSpec)

/-- 'antipodelaw15.HardWrites', WHERE WHAT IT READS IS OF BULK AT MOST 1048576: true; the input reads as it did. -/
def hardWritesUptoRow : OpenClaim := { program := "ytkmplcpibgnjcaa", sum := "850f737fe0c3d5c3f8e0368976eb0912ea6512b1ee466f2770d9f6c67ca685d5", func := "antipode/antipodelaw15.HardWrites", spec := "hardWrites", unfollowed := true, recurses := true, apart := false, narrowed := true }
def HardWritesUptoSaid : Prop := hardWritesUptoRow.holds Try.pinned (OpenSpec.upto hardWritesSpec)

/-- 'antipodelaw15.HardPairs', WHERE WHAT IT READS IS OF BULK AT MOST 1048576: true; the input reads as it did. -/
def hardPairsUptoRow : OpenClaim := { program := "ytkmplcpibgnjcaa", sum := "850f737fe0c3d5c3f8e0368976eb0912ea6512b1ee466f2770d9f6c67ca685d5", func := "antipode/antipodelaw15.HardPairs", spec := "hardPairs", unfollowed := true, recurses := true, apart := false, narrowed := true }
def HardPairsUptoSaid : Prop := hardPairsUptoRow.holds Try.pinned (OpenSpec.upto hardPairsSpec)

end Rows
end Go.Proofs.Ytkmplcpibgnjcaa
