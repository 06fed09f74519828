/- A call of the law that came in, as far as its slice's value. -/
import Derived.Test.YtiofhmlmimbngaaLaw0
import Derived.Lib.SmallJoins
namespace Go.Proofs.Ytiofhmlmimbngaa
open Go.ChangeShapes Go.WideShapes Go.ChangeAt Go.RowKit

theorem open_act0 {H : Type} {enc : TypeId × Value → H} {W : World} {base : Nat} {sp : Nat → Bool} {hd : Bool} {r : Reach} {b0 : Nat} {v : Value} {d : DataW H} {ps : List MemPlace} (hv : Value.okWide Try.prog W r b0 48 v) (h : DataW.Trod enc Try.prog W base sp hd 48 v d ps) :
    ∃ (kind : Int) (a : Option Addr) (n c : Nat) (x : Int), v = .agg #[.int .i64 kind, .slice a n c, .int .i64 x] := by
  obtain ⟨v0, v1, v2, y0, y1, y2, n, rfl, _, _, h0, h1, h2⟩ := Go.Joins.open_agg3 Try.underlying48 (by kernel_rfl) (by kernel_rfl) hv h
  obtain ⟨z0, e0, _, _⟩ := DataW.trod_int Try.underlying3 h0
  obtain ⟨z2, e2, _, _⟩ := DataW.trod_int Try.underlying3 h2
  obtain ⟨rfl⟩ := e0
  obtain ⟨rfl⟩ := e2
  rcases Go.Deep.open_slice Try.underlying37 h1 with ⟨hcs, _⟩ | ⟨a, len, cap, m, n, D, Pl, hcs, _⟩
  · obtain ⟨rfl⟩ := hcs
    exact ⟨_, _, _, _, _, rfl⟩
  · obtain ⟨rfl⟩ := hcs
    exact ⟨_, _, _, _, _, rfl⟩
end Go.Proofs.Ytiofhmlmimbngaa
