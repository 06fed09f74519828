/-
  No cell of these rows narrows 'for every input' (looked for: loops, veiled, ifaces, maps, wideKeys, modest, calm, conditions, laid).
  DERIVED. THE GIVEN ROWS OF THIS SEAT. 6 by the template 'for every input the law returns true; each argument reads behind the call as it read before'; 0 by the template 'total and deterministic' (their statements: YtkcohhldmhdcfaaTotals.lean).
  GIVEN WITH THE SEED: the statements are not yours to turn. If you find one false, say at which input.
  Laid BY PROGRAM, IN A SANDBOX (cutbox-rows.mjs): the forced cells as the released guide's own fill.sh prints them over the translation 303ba12efe6ba109… (all of the seat's roots in one cut). By AI agents, Wed Nov 11 2026. No macro, syntax, notation, axiom, sorry.
-/
import Derived.Test.YtkcohhldmhdcfaaChecked
import GoSem.Claim
import GoSem.ClaimJoined
import GoSem.ClaimMapViews
import Derived.JoinedTies
import Derived.KernelRfl
namespace Go.Proofs.Ytkcohhldmhdcfaa
/- THE CELL 'sum', in the pinned program and in every row, IS THE sha256 OF THE DUMP (.gsa) THAT YtkcohhldmhdcfaaProg.lean LOADS. Nothing in Lean hashes anything: it is a label: what it is worth is what the hold of that sum in a sandbox is worth. -/
noncomputable def Try.pinned : Pinned := { name := "ytkcohhldmhdcfaa", sum := "303ba12efe6ba1095b1a2a877d653d394f68a4e9aeadf4823c649554863c95d8", checked := Try.checked }
namespace Rows
def none {H : Type} : Left H := { results := [], args := [] }

/-- 'bootprintlaw14.PickSound': WHATEVER THE INPUT: true; the input reads as it did. -/
def pickSoundSpec : ChangeSpec := { name := "pickSound", fn := fun _ => fun
  | [d1, d2] => { results := [.lit (.bool true)], args := [d1, d2] }
  | _ => none }
def pickSoundRow : OpenClaim := { program := "ytkcohhldmhdcfaa", sum := "303ba12efe6ba1095b1a2a877d653d394f68a4e9aeadf4823c649554863c95d8", func := "bootprint/bootprintlaw14.PickSound", spec := "pickSound", inPlace := ["internal/bytealg.Compare"], unfollowed := true, recurses := true, apart := false }
def PickSoundSaid : Prop := pickSoundRow.holds Try.pinned (OpenSpec.ofChange pickSoundSpec)

/-- ITS FALSE NEIGHBOUR: 'it returns false'. Refute it at one input. -/
def pickSoundWrong : ChangeSpec := { name := "pickSound", fn := fun _ => fun
  | [d1, d2] => { results := [.lit (.bool false)], args := [d1, d2] }
  | _ => none }
def PickSoundWrongFalsely : Prop := pickSoundRow.holds Try.pinned (OpenSpec.ofChange pickSoundWrong)

/-- 'bootprintlaw14.PickNames': WHATEVER THE INPUT: true; the input reads as it did. -/
def pickNamesSpec : ChangeSpec := { name := "pickNames", fn := fun _ => fun
  | [] => { results := [.lit (.bool true)], args := [] }
  | _ => none }
def pickNamesRow : OpenClaim := { program := "ytkcohhldmhdcfaa", sum := "303ba12efe6ba1095b1a2a877d653d394f68a4e9aeadf4823c649554863c95d8", func := "bootprint/bootprintlaw14.PickNames", spec := "pickNames", inPlace := ["internal/bytealg.Compare"], unfollowed := true, recurses := true, apart := false }
def PickNamesSaid : Prop := pickNamesRow.holds Try.pinned (OpenSpec.ofChange pickNamesSpec)

/-- ITS FALSE NEIGHBOUR: 'it returns false'. Refute it at one input. -/
def pickNamesWrong : ChangeSpec := { name := "pickNames", fn := fun _ => fun
  | [] => { results := [.lit (.bool false)], args := [] }
  | _ => none }
def PickNamesWrongFalsely : Prop := pickNamesRow.holds Try.pinned (OpenSpec.ofChange pickNamesWrong)

/-- 'bootprintlaw14.PickCalls': WHATEVER THE INPUT: true; the input reads as it did. -/
def pickCallsSpec : ChangeSpec := { name := "pickCalls", fn := fun _ => fun
  | [d1, d2, d3] => { results := [.lit (.bool true)], args := [d1, d2, d3] }
  | _ => none }
def pickCallsRow : OpenClaim := { program := "ytkcohhldmhdcfaa", sum := "303ba12efe6ba1095b1a2a877d653d394f68a4e9aeadf4823c649554863c95d8", func := "bootprint/bootprintlaw14.PickCalls", spec := "pickCalls", inPlace := ["internal/bytealg.Compare"], unfollowed := true, recurses := true, apart := false }
def PickCallsSaid : Prop := pickCallsRow.holds Try.pinned (OpenSpec.ofChange pickCallsSpec)

/-- ITS FALSE NEIGHBOUR: 'it returns false'. Refute it at one input. -/
def pickCallsWrong : ChangeSpec := { name := "pickCalls", fn := fun _ => fun
  | [d1, d2, d3] => { results := [.lit (.bool false)], args := [d1, d2, d3] }
  | _ => none }
def PickCallsWrongFalsely : Prop := pickCallsRow.holds Try.pinned (OpenSpec.ofChange pickCallsWrong)

/-- 'bootprintlaw12.VersionNames': WHATEVER THE INPUT: true; the input reads as it did. -/
def versionNamesSpec : ChangeSpec := { name := "versionNames", fn := fun _ => fun
  | [] => { results := [.lit (.bool true)], args := [] }
  | _ => none }
def versionNamesRow : OpenClaim := { program := "ytkcohhldmhdcfaa", sum := "303ba12efe6ba1095b1a2a877d653d394f68a4e9aeadf4823c649554863c95d8", func := "bootprint/bootprintlaw12.VersionNames", spec := "versionNames", inPlace := ["internal/bytealg.Compare", "slices.overlaps[bootprint/api.File]"], unfollowed := true, recurses := true, apart := false }
def VersionNamesSaid : Prop := versionNamesRow.holds Try.pinned (OpenSpec.ofChange versionNamesSpec)

/-- ITS FALSE NEIGHBOUR: 'it returns false'. Refute it at one input. -/
def versionNamesWrong : ChangeSpec := { name := "versionNames", fn := fun _ => fun
  | [] => { results := [.lit (.bool false)], args := [] }
  | _ => none }
def VersionNamesWrongFalsely : Prop := versionNamesRow.holds Try.pinned (OpenSpec.ofChange versionNamesWrong)

/-- 'bootprintlaw12.VersionCalls': WHATEVER THE INPUT: true; the input reads as it did. -/
def versionCallsSpec : ChangeSpec := { name := "versionCalls", fn := fun _ => fun
  | [d1, d2, d3, d4, d5] => { results := [.lit (.bool true)], args := [d1, d2, d3, d4, d5] }
  | _ => none }
def versionCallsRow : OpenClaim := { program := "ytkcohhldmhdcfaa", sum := "303ba12efe6ba1095b1a2a877d653d394f68a4e9aeadf4823c649554863c95d8", func := "bootprint/bootprintlaw12.VersionCalls", spec := "versionCalls", inPlace := ["internal/bytealg.Compare", "slices.overlaps[bootprint/api.File]"], unfollowed := true, recurses := true, apart := false }
def VersionCallsSaid : Prop := versionCallsRow.holds Try.pinned (OpenSpec.ofChange versionCallsSpec)

/-- ITS FALSE NEIGHBOUR: 'it returns false'. Refute it at one input. -/
def versionCallsWrong : ChangeSpec := { name := "versionCalls", fn := fun _ => fun
  | [d1, d2, d3, d4, d5] => { results := [.lit (.bool false)], args := [d1, d2, d3, d4, d5] }
  | _ => none }
def VersionCallsWrongFalsely : Prop := versionCallsRow.holds Try.pinned (OpenSpec.ofChange versionCallsWrong)

/-- 'bootprintlaw12.VersionBack': WHATEVER THE INPUT: true; the input reads as it did. -/
def versionBackSpec : ChangeSpec := { name := "versionBack", fn := fun _ => fun
  | [d] => { results := [.lit (.bool true)], args := [d] }
  | _ => none }
def versionBackRow : OpenClaim := { program := "ytkcohhldmhdcfaa", sum := "303ba12efe6ba1095b1a2a877d653d394f68a4e9aeadf4823c649554863c95d8", func := "bootprint/bootprintlaw12.VersionBack", spec := "versionBack", inPlace := ["internal/bytealg.Compare", "slices.overlaps[bootprint/api.File]"], unfollowed := true, recurses := true, apart := false }
def VersionBackSaid : Prop := versionBackRow.holds Try.pinned (OpenSpec.ofChange versionBackSpec)

/-- ITS FALSE NEIGHBOUR: 'it returns false'. Refute it at one input. -/
def versionBackWrong : ChangeSpec := { name := "versionBack", fn := fun _ => fun
  | [d] => { results := [.lit (.bool false)], args := [d] }
  | _ => none }
def VersionBackWrongFalsely : Prop := versionBackRow.holds Try.pinned (OpenSpec.ofChange versionBackWrong)

/- THE SECOND FORM. 'bulk': how many values and letters a reading holds, each counted each time it is reached (what is shared counts as often as it is met; a slice's spare places count too). A statement '..UptoSaid' is the law's where the arguments, and the package variables that the reading takes, are together of bulk at most 1048576: NARROWER than '..Said'. Prove '..Said' where nothing that the law and all that it calls make is longer than what came in: it says more and counts as full. Else prove '..UptoSaid'. A law counts once. -/
mutual
def uptoBulk {H : Type} : DataW H → Nat
  | .lit (.string bytes) => bytes.length + 1
  | .lit _ => 1
  | .nil => 1
  | .ptr d => uptoBulk d + 1
  | .slice elems spare => uptoBulkAll elems + uptoBulkAll spare + 1
  | .agg parts => uptoBulkAll parts + 1
  | .iface _ d => uptoBulk d + 1
  | .map entries => uptoBulkEntries entries + 1
  | .held _ => 1
def uptoBulkAll {H : Type} : List (DataW H) → Nat
  | [] => 0
  | d :: r => uptoBulk d + uptoBulkAll r
def uptoBulkEntries {H : Type} : List (Lit × DataW H) → Nat
  | [] => 0
  | x :: r => uptoBulkEntry x + uptoBulkEntries r
def uptoBulkEntry {H : Type} : Lit × DataW H → Nat
  | (.string bytes, d) => bytes.length + uptoBulk d + 1
  | (_, d) => uptoBulk d + 1
 end
def uptoSmall : (H : Type) → List (DataW H) → Bool := fun _ ds => decide (uptoBulkAll ds ≤ 1048576)
def OpenSpec.upto (s : _root_.Go.ChangeSpec) : _root_.Go.OpenSpec := { _root_.Go.OpenSpec.ofChange s with cond := some uptoSmall }

/-- 'bootprintlaw14.PickSound', WHERE WHAT IT READS IS OF BULK AT MOST 1048576: true; the input reads as it did. -/
def pickSoundUptoRow : OpenClaim := { program := "ytkcohhldmhdcfaa", sum := "303ba12efe6ba1095b1a2a877d653d394f68a4e9aeadf4823c649554863c95d8", func := "bootprint/bootprintlaw14.PickSound", spec := "pickSound", inPlace := ["internal/bytealg.Compare"], unfollowed := true, recurses := true, apart := false, narrowed := true }
def PickSoundUptoSaid : Prop := pickSoundUptoRow.holds Try.pinned (OpenSpec.upto pickSoundSpec)

/-- 'bootprintlaw14.PickNames', WHERE WHAT IT READS IS OF BULK AT MOST 1048576: true; the input reads as it did. -/
def pickNamesUptoRow : OpenClaim := { program := "ytkcohhldmhdcfaa", sum := "303ba12efe6ba1095b1a2a877d653d394f68a4e9aeadf4823c649554863c95d8", func := "bootprint/bootprintlaw14.PickNames", spec := "pickNames", inPlace := ["internal/bytealg.Compare"], unfollowed := true, recurses := true, apart := false, narrowed := true }
def PickNamesUptoSaid : Prop := pickNamesUptoRow.holds Try.pinned (OpenSpec.upto pickNamesSpec)

/-- 'bootprintlaw14.PickCalls', WHERE WHAT IT READS IS OF BULK AT MOST 1048576: true; the input reads as it did. -/
def pickCallsUptoRow : OpenClaim := { program := "ytkcohhldmhdcfaa", sum := "303ba12efe6ba1095b1a2a877d653d394f68a4e9aeadf4823c649554863c95d8", func := "bootprint/bootprintlaw14.PickCalls", spec := "pickCalls", inPlace := ["internal/bytealg.Compare"], unfollowed := true, recurses := true, apart := false, narrowed := true }
def PickCallsUptoSaid : Prop := pickCallsUptoRow.holds Try.pinned (OpenSpec.upto pickCallsSpec)

/-- 'bootprintlaw12.VersionNames', WHERE WHAT IT READS IS OF BULK AT MOST 1048576: true; the input reads as it did. -/
def versionNamesUptoRow : OpenClaim := { program := "ytkcohhldmhdcfaa", sum := "303ba12efe6ba1095b1a2a877d653d394f68a4e9aeadf4823c649554863c95d8", func := "bootprint/bootprintlaw12.VersionNames", spec := "versionNames", inPlace := ["internal/bytealg.Compare", "slices.overlaps[bootprint/api.File]"], unfollowed := true, recurses := true, apart := false, narrowed := true }
def VersionNamesUptoSaid : Prop := versionNamesUptoRow.holds Try.pinned (OpenSpec.upto versionNamesSpec)

/-- 'bootprintlaw12.VersionCalls', WHERE WHAT IT READS IS OF BULK AT MOST 1048576: true; the input reads as it did. -/
def versionCallsUptoRow : OpenClaim := { program := "ytkcohhldmhdcfaa", sum := "303ba12efe6ba1095b1a2a877d653d394f68a4e9aeadf4823c649554863c95d8", func := "bootprint/bootprintlaw12.VersionCalls", spec := "versionCalls", inPlace := ["internal/bytealg.Compare", "slices.overlaps[bootprint/api.File]"], unfollowed := true, recurses := true, apart := false, narrowed := true }
def VersionCallsUptoSaid : Prop := versionCallsUptoRow.holds Try.pinned (OpenSpec.upto versionCallsSpec)

/-- 'bootprintlaw12.VersionBack', WHERE WHAT IT READS IS OF BULK AT MOST 1048576: true; the input reads as it did. -/
def versionBackUptoRow : OpenClaim := { program := "ytkcohhldmhdcfaa", sum := "303ba12efe6ba1095b1a2a877d653d394f68a4e9aeadf4823c649554863c95d8", func := "bootprint/bootprintlaw12.VersionBack", spec := "versionBack", inPlace := ["internal/bytealg.Compare", "slices.overlaps[bootprint/api.File]"], unfollowed := true, recurses := true, apart := false, narrowed := true }
def VersionBackUptoSaid : Prop := versionBackUptoRow.holds Try.pinned (OpenSpec.upto versionBackSpec)

end Rows
end Go.Proofs.Ytkcohhldmhdcfaa
