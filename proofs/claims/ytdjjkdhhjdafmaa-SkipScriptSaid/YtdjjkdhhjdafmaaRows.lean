/-
  No cell of these rows narrows 'for every input' (looked for: loops, veiled, ifaces, maps, wideKeys, modest, calm, conditions, laid).
  DERIVED. THE GIVEN ROWS OF THIS SEAT. 4 by the template 'for every input the law returns true; each argument reads behind the call as it read before'; 0 by the template 'total and deterministic' (their statements: YtdjjkdhhjdafmaaTotals.lean).
  GIVEN WITH THE SEED: the statements are not yours to turn. If you find one false, say at which input.
  Laid BY PROGRAM, IN A SANDBOX (cutbox-rows.mjs): the forced cells as the released guide's own fill.sh prints them over the translation a1cb0ee799d9f309… (all of the seat's roots in one cut). By AI agents, Wed Nov 11 2026. No macro, syntax, notation, axiom, sorry.
-/
import Derived.Test.YtdjjkdhhjdafmaaChecked
import GoSem.Claim
import GoSem.ClaimJoined
import GoSem.ClaimMapViews
import Derived.JoinedTies
import Derived.KernelRfl
namespace Go.Proofs.Ytdjjkdhhjdafmaa
/- THE CELL 'sum', in the pinned program and in every row, IS THE sha256 OF THE DUMP (.gsa) THAT YtdjjkdhhjdafmaaProg.lean LOADS. Nothing in Lean hashes anything: it is a label: what it is worth is what the hold of that sum in a sandbox is worth. -/
noncomputable def Try.pinned : Pinned := { name := "ytdjjkdhhjdafmaa", sum := "a1cb0ee799d9f30948655eb43c1eb26feb06673c7c70ae59738e1764c3a30edd", checked := Try.checked }
namespace Rows
def none {H : Type} : Left H := { results := [], args := [] }

/-- 'bootprintlaw07.SkipHeights': WHATEVER THE INPUT: true; the input reads as it did. -/
def skipHeightsSpec : ChangeSpec := { name := "skipHeights", fn := fun _ => fun
  | [d1, d2, d3] => { results := [.lit (.bool true)], args := [d1, d2, d3] }
  | _ => none }
def skipHeightsRow : OpenClaim := { program := "ytdjjkdhhjdafmaa", sum := "a1cb0ee799d9f30948655eb43c1eb26feb06673c7c70ae59738e1764c3a30edd", func := "bootprint/bootprintlaw07.SkipHeights", spec := "skipHeights", inPlace := ["internal/bytealg.Compare"], unfollowed := true, recurses := true, apart := false }
def SkipHeightsSaid : Prop := skipHeightsRow.holds Try.pinned (OpenSpec.ofChange skipHeightsSpec)

/-- ITS FALSE NEIGHBOUR: 'it returns false'. Refute it at one input. -/
def skipHeightsWrong : ChangeSpec := { name := "skipHeights", fn := fun _ => fun
  | [d1, d2, d3] => { results := [.lit (.bool false)], args := [d1, d2, d3] }
  | _ => none }
def SkipHeightsWrongFalsely : Prop := skipHeightsRow.holds Try.pinned (OpenSpec.ofChange skipHeightsWrong)

/-- 'bootprintlaw07.SkipNames': WHATEVER THE INPUT: true; the input reads as it did. -/
def skipNamesSpec : ChangeSpec := { name := "skipNames", fn := fun _ => fun
  | [] => { results := [.lit (.bool true)], args := [] }
  | _ => none }
def skipNamesRow : OpenClaim := { program := "ytdjjkdhhjdafmaa", sum := "a1cb0ee799d9f30948655eb43c1eb26feb06673c7c70ae59738e1764c3a30edd", func := "bootprint/bootprintlaw07.SkipNames", spec := "skipNames", inPlace := ["internal/bytealg.Compare"], unfollowed := true, recurses := true, apart := false }
def SkipNamesSaid : Prop := skipNamesRow.holds Try.pinned (OpenSpec.ofChange skipNamesSpec)

/-- ITS FALSE NEIGHBOUR: 'it returns false'. Refute it at one input. -/
def skipNamesWrong : ChangeSpec := { name := "skipNames", fn := fun _ => fun
  | [] => { results := [.lit (.bool false)], args := [] }
  | _ => none }
def SkipNamesWrongFalsely : Prop := skipNamesRow.holds Try.pinned (OpenSpec.ofChange skipNamesWrong)

/-- 'bootprintlaw07.SkipScript': WHATEVER THE INPUT: true; the input reads as it did. -/
def skipScriptSpec : ChangeSpec := { name := "skipScript", fn := fun _ => fun
  | [d] => { results := [.lit (.bool true)], args := [d] }
  | _ => none }
def skipScriptRow : OpenClaim := { program := "ytdjjkdhhjdafmaa", sum := "a1cb0ee799d9f30948655eb43c1eb26feb06673c7c70ae59738e1764c3a30edd", func := "bootprint/bootprintlaw07.SkipScript", spec := "skipScript", inPlace := ["internal/bytealg.Compare"], unfollowed := true, recurses := true, apart := false }
def SkipScriptSaid : Prop := skipScriptRow.holds Try.pinned (OpenSpec.ofChange skipScriptSpec)

/-- ITS FALSE NEIGHBOUR: 'it returns false'. Refute it at one input. -/
def skipScriptWrong : ChangeSpec := { name := "skipScript", fn := fun _ => fun
  | [d] => { results := [.lit (.bool false)], args := [d] }
  | _ => none }
def SkipScriptWrongFalsely : Prop := skipScriptRow.holds Try.pinned (OpenSpec.ofChange skipScriptWrong)

/-- 'bootprintlaw07.SkipNil': WHATEVER THE INPUT: true; the input reads as it did. -/
def skipNilSpec : ChangeSpec := { name := "skipNil", fn := fun _ => fun
  | [d] => { results := [.lit (.bool true)], args := [d] }
  | _ => none }
def skipNilRow : OpenClaim := { program := "ytdjjkdhhjdafmaa", sum := "a1cb0ee799d9f30948655eb43c1eb26feb06673c7c70ae59738e1764c3a30edd", func := "bootprint/bootprintlaw07.SkipNil", spec := "skipNil", inPlace := ["internal/bytealg.Compare"], unfollowed := true, recurses := true, apart := false }
def SkipNilSaid : Prop := skipNilRow.holds Try.pinned (OpenSpec.ofChange skipNilSpec)

/-- ITS FALSE NEIGHBOUR: 'it returns false'. Refute it at one input. -/
def skipNilWrong : ChangeSpec := { name := "skipNil", fn := fun _ => fun
  | [d] => { results := [.lit (.bool false)], args := [d] }
  | _ => none }
def SkipNilWrongFalsely : Prop := skipNilRow.holds Try.pinned (OpenSpec.ofChange skipNilWrong)

/- THE SECOND FORM. 'bulk': how many values and letters a reading holds, each counted each time it is reached (what is shared counts as often as it is met; a slice's spare places count too). A statement '..UptoSaid' is the law's where the arguments, and the package variables that the reading takes, are together of bulk at most 1048576: NARROWER than '..Said'. Prove '..Said' where nothing that the law and all that it calls make is longer than what came in: it says more and counts as full. Else prove '..UptoSaid'. A law counts once. -/
mutual
def uptoBulk {H : Type} : DataW H → Nat
  | .lit (.string bytes) => bytes.length + 1
  | .lit _ => 1
  | .nil => 1
  | .ptr d => uptoBulk d + 1
  | .slice elems spare => uptoBulkAll elems + uptoBulkAll spare + 1
  | .agg parts => uptoBulkAll parts + 1
  | .iface _ d => uptoBulk d + 1
  | .map entries => uptoBulkEntries entries + 1
  | .held _ => 1
def uptoBulkAll {H : Type} : List (DataW H) → Nat
  | [] => 0
  | d :: r => uptoBulk d + uptoBulkAll r
def uptoBulkEntries {H : Type} : List (Lit × DataW H) → Nat
  | [] => 0
  | x :: r => uptoBulkEntry x + uptoBulkEntries r
def uptoBulkEntry {H : Type} : Lit × DataW H → Nat
  | (.string bytes, d) => bytes.length + uptoBulk d + 1
  | (_, d) => uptoBulk d + 1
 end
def uptoSmall : (H : Type) → List (DataW H) → Bool := fun _ ds => decide (uptoBulkAll ds ≤ 1048576)
def OpenSpec.upto (s : _root_.Go.ChangeSpec) : _root_.Go.OpenSpec := { _root_.Go.OpenSpec.ofChange s with cond := some uptoSmall }

/-- 'bootprintlaw07.SkipHeights', WHERE WHAT IT READS IS OF BULK AT MOST 1048576: true; the input reads as it did. -/
def skipHeightsUptoRow : OpenClaim := { program := "ytdjjkdhhjdafmaa", sum := "a1cb0ee799d9f30948655eb43c1eb26feb06673c7c70ae59738e1764c3a30edd", func := "bootprint/bootprintlaw07.SkipHeights", spec := "skipHeights", inPlace := ["internal/bytealg.Compare"], unfollowed := true, recurses := true, apart := false, narrowed := true }
def SkipHeightsUptoSaid : Prop := skipHeightsUptoRow.holds Try.pinned (OpenSpec.upto skipHeightsSpec)

/-- 'bootprintlaw07.SkipNames', WHERE WHAT IT READS IS OF BULK AT MOST 1048576: true; the input reads as it did. -/
def skipNamesUptoRow : OpenClaim := { program := "ytdjjkdhhjdafmaa", sum := "a1cb0ee799d9f30948655eb43c1eb26feb06673c7c70ae59738e1764c3a30edd", func := "bootprint/bootprintlaw07.SkipNames", spec := "skipNames", inPlace := ["internal/bytealg.Compare"], unfollowed := true, recurses := true, apart := false, narrowed := true }
def SkipNamesUptoSaid : Prop := skipNamesUptoRow.holds Try.pinned (OpenSpec.upto skipNamesSpec)

/-- 'bootprintlaw07.SkipScript', WHERE WHAT IT READS IS OF BULK AT MOST 1048576: true; the input reads as it did. -/
def skipScriptUptoRow : OpenClaim := { program := "ytdjjkdhhjdafmaa", sum := "a1cb0ee799d9f30948655eb43c1eb26feb06673c7c70ae59738e1764c3a30edd", func := "bootprint/bootprintlaw07.SkipScript", spec := "skipScript", inPlace := ["internal/bytealg.Compare"], unfollowed := true, recurses := true, apart := false, narrowed := true }
def SkipScriptUptoSaid : Prop := skipScriptUptoRow.holds Try.pinned (OpenSpec.upto skipScriptSpec)

/-- 'bootprintlaw07.SkipNil', WHERE WHAT IT READS IS OF BULK AT MOST 1048576: true; the input reads as it did. -/
def skipNilUptoRow : OpenClaim := { program := "ytdjjkdhhjdafmaa", sum := "a1cb0ee799d9f30948655eb43c1eb26feb06673c7c70ae59738e1764c3a30edd", func := "bootprint/bootprintlaw07.SkipNil", spec := "skipNil", inPlace := ["internal/bytealg.Compare"], unfollowed := true, recurses := true, apart := false, narrowed := true }
def SkipNilUptoSaid : Prop := skipNilUptoRow.holds Try.pinned (OpenSpec.upto skipNilSpec)

end Rows
end Go.Proofs.Ytdjjkdhhjdafmaa
