/-
  No cell of these rows narrows 'for every input' (looked for: loops, veiled, ifaces, maps, wideKeys, modest, calm, conditions, laid).
  DERIVED. THE GIVEN ROWS OF THIS SEAT. 8 by the template 'for every input the law returns true; each argument reads behind the call as it read before'; 0 by the template 'total and deterministic' (their statements: YtmpapipobjoboaaTotals.lean).
  GIVEN WITH THE SEED: the statements are not yours to turn. If you find one false, say at which input.
  Laid BY PROGRAM, IN A SANDBOX (cutbox-rows.mjs): the forced cells as the released guide's own fill.sh prints them over the translation 1113fb77341bf4d1… (all of the seat's roots in one cut). By AI agents, Wed Nov 11 2026. No macro, syntax, notation, axiom, sorry.
-/
import Derived.Test.YtmpapipobjoboaaChecked
import GoSem.Claim
import GoSem.ClaimJoined
import GoSem.ClaimMapViews
import Derived.JoinedTies
import Derived.KernelRfl
namespace Go.Proofs.Ytmpapipobjoboaa
/- THE CELL 'sum', in the pinned program and in every row, IS THE sha256 OF THE DUMP (.gsa) THAT YtmpapipobjoboaaProg.lean LOADS. Nothing in Lean hashes anything: it is a label: what it is worth is what the hold of that sum in a sandbox is worth. -/
noncomputable def Try.pinned : Pinned := { name := "ytmpapipobjoboaa", sum := "1113fb77341bf4d17e6efb240ce612c4f38e5fc434ed4e40aa7983ffda9e0d96", checked := Try.checked }
namespace Rows
def none {H : Type} : Left H := { results := [], args := [] }

/-- 'bootprintlaw15.CompactNames': WHATEVER THE INPUT: true; the input reads as it did. -/
def compactNamesSpec : ChangeSpec := { name := "compactNames", fn := fun _ => fun
  | [] => { results := [.lit (.bool true)], args := [] }
  | _ => none }
def compactNamesRow : OpenClaim := { program := "ytmpapipobjoboaa", sum := "1113fb77341bf4d17e6efb240ce612c4f38e5fc434ed4e40aa7983ffda9e0d96", func := "bootprint/bootprintlaw15.CompactNames", spec := "compactNames", inPlace := ["internal/bytealg.Compare"], unfollowed := true, recurses := true, apart := false }
def CompactNamesSaid : Prop := compactNamesRow.holds Try.pinned (OpenSpec.ofChange compactNamesSpec)

/-- ITS FALSE NEIGHBOUR: 'it returns false'. Refute it at one input. -/
def compactNamesWrong : ChangeSpec := { name := "compactNames", fn := fun _ => fun
  | [] => { results := [.lit (.bool false)], args := [] }
  | _ => none }
def CompactNamesWrongFalsely : Prop := compactNamesRow.holds Try.pinned (OpenSpec.ofChange compactNamesWrong)

/-- 'bootprintlaw11.MergeTurns': WHATEVER THE INPUT: true; the input reads as it did. -/
def mergeTurnsSpec : ChangeSpec := { name := "mergeTurns", fn := fun _ => fun
  | [d1, d2] => { results := [.lit (.bool true)], args := [d1, d2] }
  | _ => none }
def mergeTurnsRow : OpenClaim := { program := "ytmpapipobjoboaa", sum := "1113fb77341bf4d17e6efb240ce612c4f38e5fc434ed4e40aa7983ffda9e0d96", func := "bootprint/bootprintlaw11.MergeTurns", spec := "mergeTurns", inPlace := ["internal/bytealg.Compare"], unfollowed := true, recurses := true, apart := false }
def MergeTurnsSaid : Prop := mergeTurnsRow.holds Try.pinned (OpenSpec.ofChange mergeTurnsSpec)

/-- ITS FALSE NEIGHBOUR: 'it returns false'. Refute it at one input. -/
def mergeTurnsWrong : ChangeSpec := { name := "mergeTurns", fn := fun _ => fun
  | [d1, d2] => { results := [.lit (.bool false)], args := [d1, d2] }
  | _ => none }
def MergeTurnsWrongFalsely : Prop := mergeTurnsRow.holds Try.pinned (OpenSpec.ofChange mergeTurnsWrong)

/-- 'bootprintlaw11.MergeNil': WHATEVER THE INPUT: true; the input reads as it did. -/
def mergeNilSpec : ChangeSpec := { name := "mergeNil", fn := fun _ => fun
  | [] => { results := [.lit (.bool true)], args := [] }
  | _ => none }
def mergeNilRow : OpenClaim := { program := "ytmpapipobjoboaa", sum := "1113fb77341bf4d17e6efb240ce612c4f38e5fc434ed4e40aa7983ffda9e0d96", func := "bootprint/bootprintlaw11.MergeNil", spec := "mergeNil", inPlace := ["internal/bytealg.Compare"], unfollowed := true, recurses := true, apart := false }
def MergeNilSaid : Prop := mergeNilRow.holds Try.pinned (OpenSpec.ofChange mergeNilSpec)

/-- ITS FALSE NEIGHBOUR: 'it returns false'. Refute it at one input. -/
def mergeNilWrong : ChangeSpec := { name := "mergeNil", fn := fun _ => fun
  | [] => { results := [.lit (.bool false)], args := [] }
  | _ => none }
def MergeNilWrongFalsely : Prop := mergeNilRow.holds Try.pinned (OpenSpec.ofChange mergeNilWrong)

/-- 'bootprintlaw11.MergeNames': WHATEVER THE INPUT: true; the input reads as it did. -/
def mergeNamesSpec : ChangeSpec := { name := "mergeNames", fn := fun _ => fun
  | [] => { results := [.lit (.bool true)], args := [] }
  | _ => none }
def mergeNamesRow : OpenClaim := { program := "ytmpapipobjoboaa", sum := "1113fb77341bf4d17e6efb240ce612c4f38e5fc434ed4e40aa7983ffda9e0d96", func := "bootprint/bootprintlaw11.MergeNames", spec := "mergeNames", inPlace := ["internal/bytealg.Compare"], unfollowed := true, recurses := true, apart := false }
def MergeNamesSaid : Prop := mergeNamesRow.holds Try.pinned (OpenSpec.ofChange mergeNamesSpec)

/-- ITS FALSE NEIGHBOUR: 'it returns false'. Refute it at one input. -/
def mergeNamesWrong : ChangeSpec := { name := "mergeNames", fn := fun _ => fun
  | [] => { results := [.lit (.bool false)], args := [] }
  | _ => none }
def MergeNamesWrongFalsely : Prop := mergeNamesRow.holds Try.pinned (OpenSpec.ofChange mergeNamesWrong)

/-- 'bootprintlaw11.MergeSeen': WHATEVER THE INPUT: true; the input reads as it did. -/
def mergeSeenSpec : ChangeSpec := { name := "mergeSeen", fn := fun _ => fun
  | [d1, d2, d3] => { results := [.lit (.bool true)], args := [d1, d2, d3] }
  | _ => none }
def mergeSeenRow : OpenClaim := { program := "ytmpapipobjoboaa", sum := "1113fb77341bf4d17e6efb240ce612c4f38e5fc434ed4e40aa7983ffda9e0d96", func := "bootprint/bootprintlaw11.MergeSeen", spec := "mergeSeen", inPlace := ["internal/bytealg.Compare"], unfollowed := true, recurses := true, apart := false }
def MergeSeenSaid : Prop := mergeSeenRow.holds Try.pinned (OpenSpec.ofChange mergeSeenSpec)

/-- ITS FALSE NEIGHBOUR: 'it returns false'. Refute it at one input. -/
def mergeSeenWrong : ChangeSpec := { name := "mergeSeen", fn := fun _ => fun
  | [d1, d2, d3] => { results := [.lit (.bool false)], args := [d1, d2, d3] }
  | _ => none }
def MergeSeenWrongFalsely : Prop := mergeSeenRow.holds Try.pinned (OpenSpec.ofChange mergeSeenWrong)

/-- 'bootprintlaw11.MergeCalls': WHATEVER THE INPUT: true; the input reads as it did. -/
def mergeCallsSpec : ChangeSpec := { name := "mergeCalls", fn := fun _ => fun
  | [d1, d2, d3, d4, d5] => { results := [.lit (.bool true)], args := [d1, d2, d3, d4, d5] }
  | _ => none }
def mergeCallsRow : OpenClaim := { program := "ytmpapipobjoboaa", sum := "1113fb77341bf4d17e6efb240ce612c4f38e5fc434ed4e40aa7983ffda9e0d96", func := "bootprint/bootprintlaw11.MergeCalls", spec := "mergeCalls", inPlace := ["internal/bytealg.Compare"], unfollowed := true, recurses := true, apart := false }
def MergeCallsSaid : Prop := mergeCallsRow.holds Try.pinned (OpenSpec.ofChange mergeCallsSpec)

/-- ITS FALSE NEIGHBOUR: 'it returns false'. Refute it at one input. -/
def mergeCallsWrong : ChangeSpec := { name := "mergeCalls", fn := fun _ => fun
  | [d1, d2, d3, d4, d5] => { results := [.lit (.bool false)], args := [d1, d2, d3, d4, d5] }
  | _ => none }
def MergeCallsWrongFalsely : Prop := mergeCallsRow.holds Try.pinned (OpenSpec.ofChange mergeCallsWrong)

/-- 'bootprintlaw15.CompactCalls': WHATEVER THE INPUT: true; the input reads as it did. -/
def compactCallsSpec : ChangeSpec := { name := "compactCalls", fn := fun _ => fun
  | [d1, d2, d3, d4] => { results := [.lit (.bool true)], args := [d1, d2, d3, d4] }
  | _ => none }
def compactCallsRow : OpenClaim := { program := "ytmpapipobjoboaa", sum := "1113fb77341bf4d17e6efb240ce612c4f38e5fc434ed4e40aa7983ffda9e0d96", func := "bootprint/bootprintlaw15.CompactCalls", spec := "compactCalls", inPlace := ["internal/bytealg.Compare"], unfollowed := true, recurses := true, apart := false }
def CompactCallsSaid : Prop := compactCallsRow.holds Try.pinned (OpenSpec.ofChange compactCallsSpec)

/-- ITS FALSE NEIGHBOUR: 'it returns false'. Refute it at one input. -/
def compactCallsWrong : ChangeSpec := { name := "compactCalls", fn := fun _ => fun
  | [d1, d2, d3, d4] => { results := [.lit (.bool false)], args := [d1, d2, d3, d4] }
  | _ => none }
def CompactCallsWrongFalsely : Prop := compactCallsRow.holds Try.pinned (OpenSpec.ofChange compactCallsWrong)

/-- 'bootprintlaw15.CompactKeeps': WHATEVER THE INPUT: true; the input reads as it did. -/
def compactKeepsSpec : ChangeSpec := { name := "compactKeeps", fn := fun _ => fun
  | [d1, d2, d3, d4] => { results := [.lit (.bool true)], args := [d1, d2, d3, d4] }
  | _ => none }
def compactKeepsRow : OpenClaim := { program := "ytmpapipobjoboaa", sum := "1113fb77341bf4d17e6efb240ce612c4f38e5fc434ed4e40aa7983ffda9e0d96", func := "bootprint/bootprintlaw15.CompactKeeps", spec := "compactKeeps", inPlace := ["internal/bytealg.Compare"], unfollowed := true, recurses := true, apart := false }
def CompactKeepsSaid : Prop := compactKeepsRow.holds Try.pinned (OpenSpec.ofChange compactKeepsSpec)

/-- ITS FALSE NEIGHBOUR: 'it returns false'. Refute it at one input. -/
def compactKeepsWrong : ChangeSpec := { name := "compactKeeps", fn := fun _ => fun
  | [d1, d2, d3, d4] => { results := [.lit (.bool false)], args := [d1, d2, d3, d4] }
  | _ => none }
def CompactKeepsWrongFalsely : Prop := compactKeepsRow.holds Try.pinned (OpenSpec.ofChange compactKeepsWrong)

/- THE SECOND FORM. 'bulk': how many values and letters a reading holds, each counted each time it is reached (what is shared counts as often as it is met; a slice's spare places count too). A statement '..UptoSaid' is the law's where the arguments, and the package variables that the reading takes, are together of bulk at most 1048576: NARROWER than '..Said'. Prove '..Said' where nothing that the law and all that it calls make is longer than what came in: it says more and counts as full. Else prove '..UptoSaid'. A law counts once. -/
mutual
def uptoBulk {H : Type} : DataW H → Nat
  | .lit (.string bytes) => bytes.length + 1
  | .lit _ => 1
  | .nil => 1
  | .ptr d => uptoBulk d + 1
  | .slice elems spare => uptoBulkAll elems + uptoBulkAll spare + 1
  | .agg parts => uptoBulkAll parts + 1
  | .iface _ d => uptoBulk d + 1
  | .map entries => uptoBulkEntries entries + 1
  | .held _ => 1
def uptoBulkAll {H : Type} : List (DataW H) → Nat
  | [] => 0
  | d :: r => uptoBulk d + uptoBulkAll r
def uptoBulkEntries {H : Type} : List (Lit × DataW H) → Nat
  | [] => 0
  | x :: r => uptoBulkEntry x + uptoBulkEntries r
def uptoBulkEntry {H : Type} : Lit × DataW H → Nat
  | (.string bytes, d) => bytes.length + uptoBulk d + 1
  | (_, d) => uptoBulk d + 1
 end
def uptoSmall : (H : Type) → List (DataW H) → Bool := fun _ ds => decide (uptoBulkAll ds ≤ 1048576)
def OpenSpec.upto (s : _root_.Go.ChangeSpec) : _root_.Go.OpenSpec := { _root_.Go.OpenSpec.ofChange s with cond := some uptoSmall }

/-- 'bootprintlaw15.CompactNames', WHERE WHAT IT READS IS OF BULK AT MOST 1048576: true; the input reads as it did. -/
def compactNamesUptoRow : OpenClaim := { program := "ytmpapipobjoboaa", sum := "1113fb77341bf4d17e6efb240ce612c4f38e5fc434ed4e40aa7983ffda9e0d96", func := "bootprint/bootprintlaw15.CompactNames", spec := "compactNames", inPlace := ["internal/bytealg.Compare"], unfollowed := true, recurses := true, apart := false, narrowed := true }
def CompactNamesUptoSaid : Prop := compactNamesUptoRow.holds Try.pinned (OpenSpec.upto compactNamesSpec)

/-- 'bootprintlaw11.MergeTurns', WHERE WHAT IT READS IS OF BULK AT MOST 1048576: true; the input reads as it did. -/
def mergeTurnsUptoRow : OpenClaim := { program := "ytmpapipobjoboaa", sum := "1113fb77341bf4d17e6efb240ce612c4f38e5fc434ed4e40aa7983ffda9e0d96", func := "bootprint/bootprintlaw11.MergeTurns", spec := "mergeTurns", inPlace := ["internal/bytealg.Compare"], unfollowed := true, recurses := true, apart := false, narrowed := true }
def MergeTurnsUptoSaid : Prop := mergeTurnsUptoRow.holds Try.pinned (OpenSpec.upto mergeTurnsSpec)

/-- 'bootprintlaw11.MergeNil', WHERE WHAT IT READS IS OF BULK AT MOST 1048576: true; the input reads as it did. -/
def mergeNilUptoRow : OpenClaim := { program := "ytmpapipobjoboaa", sum := "1113fb77341bf4d17e6efb240ce612c4f38e5fc434ed4e40aa7983ffda9e0d96", func := "bootprint/bootprintlaw11.MergeNil", spec := "mergeNil", inPlace := ["internal/bytealg.Compare"], unfollowed := true, recurses := true, apart := false, narrowed := true }
def MergeNilUptoSaid : Prop := mergeNilUptoRow.holds Try.pinned (OpenSpec.upto mergeNilSpec)

/-- 'bootprintlaw11.MergeNames', WHERE WHAT IT READS IS OF BULK AT MOST 1048576: true; the input reads as it did. -/
def mergeNamesUptoRow : OpenClaim := { program := "ytmpapipobjoboaa", sum := "1113fb77341bf4d17e6efb240ce612c4f38e5fc434ed4e40aa7983ffda9e0d96", func := "bootprint/bootprintlaw11.MergeNames", spec := "mergeNames", inPlace := ["internal/bytealg.Compare"], unfollowed := true, recurses := true, apart := false, narrowed := true }
def MergeNamesUptoSaid : Prop := mergeNamesUptoRow.holds Try.pinned (OpenSpec.upto mergeNamesSpec)

/-- 'bootprintlaw11.MergeSeen', WHERE WHAT IT READS IS OF BULK AT MOST 1048576: true; the input reads as it did. -/
def mergeSeenUptoRow : OpenClaim := { program := "ytmpapipobjoboaa", sum := "1113fb77341bf4d17e6efb240ce612c4f38e5fc434ed4e40aa7983ffda9e0d96", func := "bootprint/bootprintlaw11.MergeSeen", spec := "mergeSeen", inPlace := ["internal/bytealg.Compare"], unfollowed := true, recurses := true, apart := false, narrowed := true }
def MergeSeenUptoSaid : Prop := mergeSeenUptoRow.holds Try.pinned (OpenSpec.upto mergeSeenSpec)

/-- 'bootprintlaw11.MergeCalls', WHERE WHAT IT READS IS OF BULK AT MOST 1048576: true; the input reads as it did. -/
def mergeCallsUptoRow : OpenClaim := { program := "ytmpapipobjoboaa", sum := "1113fb77341bf4d17e6efb240ce612c4f38e5fc434ed4e40aa7983ffda9e0d96", func := "bootprint/bootprintlaw11.MergeCalls", spec := "mergeCalls", inPlace := ["internal/bytealg.Compare"], unfollowed := true, recurses := true, apart := false, narrowed := true }
def MergeCallsUptoSaid : Prop := mergeCallsUptoRow.holds Try.pinned (OpenSpec.upto mergeCallsSpec)

/-- 'bootprintlaw15.CompactCalls', WHERE WHAT IT READS IS OF BULK AT MOST 1048576: true; the input reads as it did. -/
def compactCallsUptoRow : OpenClaim := { program := "ytmpapipobjoboaa", sum := "1113fb77341bf4d17e6efb240ce612c4f38e5fc434ed4e40aa7983ffda9e0d96", func := "bootprint/bootprintlaw15.CompactCalls", spec := "compactCalls", inPlace := ["internal/bytealg.Compare"], unfollowed := true, recurses := true, apart := false, narrowed := true }
def CompactCallsUptoSaid : Prop := compactCallsUptoRow.holds Try.pinned (OpenSpec.upto compactCallsSpec)

/-- 'bootprintlaw15.CompactKeeps', WHERE WHAT IT READS IS OF BULK AT MOST 1048576: true; the input reads as it did. -/
def compactKeepsUptoRow : OpenClaim := { program := "ytmpapipobjoboaa", sum := "1113fb77341bf4d17e6efb240ce612c4f38e5fc434ed4e40aa7983ffda9e0d96", func := "bootprint/bootprintlaw15.CompactKeeps", spec := "compactKeeps", inPlace := ["internal/bytealg.Compare"], unfollowed := true, recurses := true, apart := false, narrowed := true }
def CompactKeepsUptoSaid : Prop := compactKeepsUptoRow.holds Try.pinned (OpenSpec.upto compactKeepsSpec)

end Rows
end Go.Proofs.Ytmpapipobjoboaa
