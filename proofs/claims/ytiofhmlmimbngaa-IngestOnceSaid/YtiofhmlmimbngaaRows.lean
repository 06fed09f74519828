/-
  No cell of these rows narrows 'for every input' (looked for: loops, veiled, ifaces, maps, wideKeys, modest, calm, conditions, laid).
  DERIVED. THE GIVEN ROWS OF THIS SEAT. 4 by the template 'for every input the law returns true; each argument reads behind the call as it read before'; 0 by the template 'total and deterministic' (their statements: YtiofhmlmimbngaaTotals.lean).
  GIVEN WITH THE SEED: the statements are not yours to turn. If you find one false, say at which input.
  Laid BY PROGRAM, IN A SANDBOX (cutbox-rows.mjs): the forced cells as the released guide's own fill.sh prints them over the translation 8bae34f386fc44ee… (all of the seat's roots in one cut). By AI agents, Wed Nov 11 2026. No macro, syntax, notation, axiom, sorry.
-/
import Derived.Test.YtiofhmlmimbngaaChecked
import GoSem.Claim
import GoSem.ClaimJoined
import GoSem.ClaimMapViews
import Derived.JoinedTies
import Derived.KernelRfl
namespace Go.Proofs.Ytiofhmlmimbngaa
/- THE CELL 'sum', in the pinned program and in every row, IS THE sha256 OF THE DUMP (.gsa) THAT YtiofhmlmimbngaaProg.lean LOADS. Nothing in Lean hashes anything: it is a label: what it is worth is what the hold of that sum in a sandbox is worth. -/
noncomputable def Try.pinned : Pinned := { name := "ytiofhmlmimbngaa", sum := "8bae34f386fc44eea60cc5ce1ab38373fb7cf46774e99d4c4b6caa6b48eb3aca", checked := Try.checked }
namespace Rows
def none {H : Type} : Left H := { results := [], args := [] }

/-- 'bootprintlaw19.IngestNames': WHATEVER THE INPUT: true; the input reads as it did. -/
def ingestNamesSpec : ChangeSpec := { name := "ingestNames", fn := fun _ => fun
  | [] => { results := [.lit (.bool true)], args := [] }
  | _ => none }
def ingestNamesRow : OpenClaim := { program := "ytiofhmlmimbngaa", sum := "8bae34f386fc44eea60cc5ce1ab38373fb7cf46774e99d4c4b6caa6b48eb3aca", func := "bootprint/bootprintlaw19.IngestNames", spec := "ingestNames", unfollowed := true, recurses := true, apart := false }
def IngestNamesSaid : Prop := ingestNamesRow.holds Try.pinned (OpenSpec.ofChange ingestNamesSpec)

/-- ITS FALSE NEIGHBOUR: 'it returns false'. Refute it at one input. -/
def ingestNamesWrong : ChangeSpec := { name := "ingestNames", fn := fun _ => fun
  | [] => { results := [.lit (.bool false)], args := [] }
  | _ => none }
def IngestNamesWrongFalsely : Prop := ingestNamesRow.holds Try.pinned (OpenSpec.ofChange ingestNamesWrong)

/-- 'bootprintlaw19.IngestOnce': WHATEVER THE INPUT: true; the input reads as it did. -/
def ingestOnceSpec : ChangeSpec := { name := "ingestOnce", fn := fun _ => fun
  | [d1, d2, d3] => { results := [.lit (.bool true)], args := [d1, d2, d3] }
  | _ => none }
def ingestOnceRow : OpenClaim := { program := "ytiofhmlmimbngaa", sum := "8bae34f386fc44eea60cc5ce1ab38373fb7cf46774e99d4c4b6caa6b48eb3aca", func := "bootprint/bootprintlaw19.IngestOnce", spec := "ingestOnce", unfollowed := true, recurses := true, apart := false }
def IngestOnceSaid : Prop := ingestOnceRow.holds Try.pinned (OpenSpec.ofChange ingestOnceSpec)

/-- ITS FALSE NEIGHBOUR: 'it returns false'. Refute it at one input. -/
def ingestOnceWrong : ChangeSpec := { name := "ingestOnce", fn := fun _ => fun
  | [d1, d2, d3] => { results := [.lit (.bool false)], args := [d1, d2, d3] }
  | _ => none }
def IngestOnceWrongFalsely : Prop := ingestOnceRow.holds Try.pinned (OpenSpec.ofChange ingestOnceWrong)

/-- 'bootprintlaw19.IngestScript': WHATEVER THE INPUT: true; the input reads as it did. -/
def ingestScriptSpec : ChangeSpec := { name := "ingestScript", fn := fun _ => fun
  | [d1, d2] => { results := [.lit (.bool true)], args := [d1, d2] }
  | _ => none }
def ingestScriptRow : OpenClaim := { program := "ytiofhmlmimbngaa", sum := "8bae34f386fc44eea60cc5ce1ab38373fb7cf46774e99d4c4b6caa6b48eb3aca", func := "bootprint/bootprintlaw19.IngestScript", spec := "ingestScript", unfollowed := true, recurses := true, apart := false }
def IngestScriptSaid : Prop := ingestScriptRow.holds Try.pinned (OpenSpec.ofChange ingestScriptSpec)

/-- ITS FALSE NEIGHBOUR: 'it returns false'. Refute it at one input. -/
def ingestScriptWrong : ChangeSpec := { name := "ingestScript", fn := fun _ => fun
  | [d1, d2] => { results := [.lit (.bool false)], args := [d1, d2] }
  | _ => none }
def IngestScriptWrongFalsely : Prop := ingestScriptRow.holds Try.pinned (OpenSpec.ofChange ingestScriptWrong)

/-- 'bootprintlaw19.IngestNil': WHATEVER THE INPUT: true; the input reads as it did. -/
def ingestNilSpec : ChangeSpec := { name := "ingestNil", fn := fun _ => fun
  | [d] => { results := [.lit (.bool true)], args := [d] }
  | _ => none }
def ingestNilRow : OpenClaim := { program := "ytiofhmlmimbngaa", sum := "8bae34f386fc44eea60cc5ce1ab38373fb7cf46774e99d4c4b6caa6b48eb3aca", func := "bootprint/bootprintlaw19.IngestNil", spec := "ingestNil", unfollowed := true, recurses := true, apart := false }
def IngestNilSaid : Prop := ingestNilRow.holds Try.pinned (OpenSpec.ofChange ingestNilSpec)

/-- ITS FALSE NEIGHBOUR: 'it returns false'. Refute it at one input. -/
def ingestNilWrong : ChangeSpec := { name := "ingestNil", fn := fun _ => fun
  | [d] => { results := [.lit (.bool false)], args := [d] }
  | _ => none }
def IngestNilWrongFalsely : Prop := ingestNilRow.holds Try.pinned (OpenSpec.ofChange ingestNilWrong)

/- THE SECOND FORM. 'bulk': how many values and letters a reading holds, each counted each time it is reached (what is shared counts as often as it is met; a slice's spare places count too). A statement '..UptoSaid' is the law's where the arguments, and the package variables that the reading takes, are together of bulk at most 1048576: NARROWER than '..Said'. Prove '..Said' where nothing that the law and all that it calls make is longer than what came in: it says more and counts as full. Else prove '..UptoSaid'. A law counts once. -/
mutual
def uptoBulk {H : Type} : DataW H → Nat
  | .lit (.string bytes) => bytes.length + 1
  | .lit _ => 1
  | .nil => 1
  | .ptr d => uptoBulk d + 1
  | .slice elems spare => uptoBulkAll elems + uptoBulkAll spare + 1
  | .agg parts => uptoBulkAll parts + 1
  | .iface _ d => uptoBulk d + 1
  | .map entries => uptoBulkEntries entries + 1
  | .held _ => 1
def uptoBulkAll {H : Type} : List (DataW H) → Nat
  | [] => 0
  | d :: r => uptoBulk d + uptoBulkAll r
def uptoBulkEntries {H : Type} : List (Lit × DataW H) → Nat
  | [] => 0
  | x :: r => uptoBulkEntry x + uptoBulkEntries r
def uptoBulkEntry {H : Type} : Lit × DataW H → Nat
  | (.string bytes, d) => bytes.length + uptoBulk d + 1
  | (_, d) => uptoBulk d + 1
 end
def uptoSmall : (H : Type) → List (DataW H) → Bool := fun _ ds => decide (uptoBulkAll ds ≤ 1048576)
def OpenSpec.upto (s : _root_.Go.ChangeSpec) : _root_.Go.OpenSpec := { _root_.Go.OpenSpec.ofChange s with cond := some uptoSmall }

/-- 'bootprintlaw19.IngestNames', WHERE WHAT IT READS IS OF BULK AT MOST 1048576: true; the input reads as it did. -/
def ingestNamesUptoRow : OpenClaim := { program := "ytiofhmlmimbngaa", sum := "8bae34f386fc44eea60cc5ce1ab38373fb7cf46774e99d4c4b6caa6b48eb3aca", func := "bootprint/bootprintlaw19.IngestNames", spec := "ingestNames", unfollowed := true, recurses := true, apart := false, narrowed := true }
def IngestNamesUptoSaid : Prop := ingestNamesUptoRow.holds Try.pinned (OpenSpec.upto ingestNamesSpec)

/-- 'bootprintlaw19.IngestOnce', WHERE WHAT IT READS IS OF BULK AT MOST 1048576: true; the input reads as it did. -/
def ingestOnceUptoRow : OpenClaim := { program := "ytiofhmlmimbngaa", sum := "8bae34f386fc44eea60cc5ce1ab38373fb7cf46774e99d4c4b6caa6b48eb3aca", func := "bootprint/bootprintlaw19.IngestOnce", spec := "ingestOnce", unfollowed := true, recurses := true, apart := false, narrowed := true }
def IngestOnceUptoSaid : Prop := ingestOnceUptoRow.holds Try.pinned (OpenSpec.upto ingestOnceSpec)

/-- 'bootprintlaw19.IngestScript', WHERE WHAT IT READS IS OF BULK AT MOST 1048576: true; the input reads as it did. -/
def ingestScriptUptoRow : OpenClaim := { program := "ytiofhmlmimbngaa", sum := "8bae34f386fc44eea60cc5ce1ab38373fb7cf46774e99d4c4b6caa6b48eb3aca", func := "bootprint/bootprintlaw19.IngestScript", spec := "ingestScript", unfollowed := true, recurses := true, apart := false, narrowed := true }
def IngestScriptUptoSaid : Prop := ingestScriptUptoRow.holds Try.pinned (OpenSpec.upto ingestScriptSpec)

/-- 'bootprintlaw19.IngestNil', WHERE WHAT IT READS IS OF BULK AT MOST 1048576: true; the input reads as it did. -/
def ingestNilUptoRow : OpenClaim := { program := "ytiofhmlmimbngaa", sum := "8bae34f386fc44eea60cc5ce1ab38373fb7cf46774e99d4c4b6caa6b48eb3aca", func := "bootprint/bootprintlaw19.IngestNil", spec := "ingestNil", unfollowed := true, recurses := true, apart := false, narrowed := true }
def IngestNilUptoSaid : Prop := ingestNilUptoRow.holds Try.pinned (OpenSpec.upto ingestNilSpec)

end Rows
end Go.Proofs.Ytiofhmlmimbngaa
