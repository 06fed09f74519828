/- Chapter 12: a set of numbers as a map that the call makes. -/
import Derived.Test.YtkcohhldmhdcfaaVeC
import Derived.Maps.OwnSet
namespace Go.Proofs.Ytkcohhldmhdcfaa
open Go.RowKit Go.Maps

/-- Block b is a map in which just the numbers of S are true. -/
def SetB (w : World) (b n : Nat) (S : List Int) : Prop :=
  ∃ D : DataW Unit, w.ownsMap Try.prog 23 (plainElem Try.prog 4) b n D ∧ ∀ x, u64In x → D.atKey (.int .u64 x) (.lit (.bool false)) = .lit (.bool (decide (x ∈ S)))
theorem key_u64 : Keyed Try.prog 23 := int_keyed Try.underlying23
set_option maxRecDepth 100000 in
theorem wf_u64 {x : Int} (h : u64In x) : (Lit.int .u64 x).wf = true := by
  obtain ⟨h0, h1⟩ := h
  simp [Lit.wf, IntKind.min, IntKind.max, IntKind.signed, IntKind.bits]
  omega
set_option maxRecDepth 100000 in
theorem zero_bool (w : World) : (zeroValue 4).run Try.prog w = .ok (.bool false) w := by kernel_rfl
set_option maxRecDepth 100000 in
theorem plain_bool_inv {v : Value} {z : DataW Unit × List MemPlace} (h : plainElem Try.prog 4 v = some z) : ∃ b, v = .bool b ∧ z = (.lit (.bool b), []) := by
  unfold plainElem at h
  rw [Try.underlying4] at h
  cases v <;> simp at h
  exact ⟨_, rfl, h.symm⟩
theorem SetB.lt {w : World} {b n : Nat} {S : List Int} (h : SetB w b n S) : b < w.heap.size := by obtain ⟨D, h, _⟩ := h; exact h.lt
set_option maxRecDepth 100000 in
theorem SetB.made (w : World) : SetB (w.alloc (.map #[] 0)) w.heap.size 0 [] :=
  ⟨.map [], World.ownsMap_made _ _ _ _, fun x _ => by simp [DataW.atKey]⟩
theorem SetB.same {w w' : World} {b n : Nat} {S : List Int} (h : SetB w b n S) (hb : w'.heap[b]? = w.heap[b]?) : SetB w' b n S := by
  obtain ⟨D, ⟨es, clock, h1, h2⟩, h3⟩ := h
  exact ⟨D, ⟨es, clock, hb.trans h1, h2⟩, h3⟩
theorem SetB.below {w w' : World} {b n : Nat} {S : List Int} (h : SetB w b n S) (hb : Below w.heap.size w w') : SetB w' b n S := h.same (hb.block b h.lt)
set_option maxRecDepth 100000 in
theorem SetB.look {w : World} {b n : Nat} {S : List Int} (h : SetB w b n S) {x : Int} (hx : u64In x) : (Instr.lookup 102 (.map (some b)) (.int .u64 x) false).run Try.prog w = .ok (.bool (decide (x ∈ S))) w := by
  obtain ⟨D, h, hat⟩ := h
  obtain ⟨v, ps, hrun, hv⟩ := h.lookup key_u64 Try.underlying102 (zero_bool w) (plainElem_bool Try.underlying4 false) (keyOf_int_mk Try.underlying23 (wf_u64 hx))
  rw [hat x hx] at hv
  obtain ⟨c, rfl, hc⟩ := plain_bool_inv hv
  injection hc with hc _
  injection hc with hc
  injection hc with hc
  rw [hc]
  exact hrun
set_option maxRecDepth 100000 in
theorem SetB.put {w : World} {b n : Nat} {S : List Int} (h : SetB w b n S) {x : Int} (hx : u64In x) (hn : n < 1000000000) : ∃ w', (Instr.mapUpdate 102 (.map (some b)) (.int .u64 x) (.bool true)).run Try.prog w = .ok () w' ∧ SetB w' b (n + 1) (x :: S) ∧ Wrote (fun k => k = b) w w' := by
  obtain ⟨D, h, hat⟩ := h
  obtain ⟨w', h1, h2, h3⟩ := h.update key_u64 Try.underlying102 (by unfold maxLen; omega) (keyOf_int_mk Try.underlying23 (wf_u64 hx)) (plainElem_bool Try.underlying4 true)
  refine ⟨w', h1, ⟨_, h2, fun y hy => ?_⟩, ⟨h3.os, h3.tape, h3.output, h3.size, fun k hk hne => h3.block k hk (fun e => hne (Option.some.inj e))⟩⟩
  by_cases e : y = x
  · subst e
    rw [atKey_put_same h.isMap (by trivial)]
    simp
  · rw [atKey_put_other (by intro e2; injection e2 with _ e2; exact e e2), hat y hy]
    simp [e]
set_option maxRecDepth 100000 in
theorem wpList_set_put {ops : Array Oper} {rest : List Oper} {o : Oper} {a : Act} {w : World} {Q : Exit → Act → World → Prop} (hg : o.guard = none) (m x v : Operand) (hop : o.op = Op.mapUpdate 102 m x v) (hd : o.dst = none) {b n : Nat} {S : List Int} (y : Int)
    (hm : a.eval m = .map (some b)) (hx : a.eval x = .int .u64 y) (hv : a.eval v = .bool true) (h : SetB w b n S) (hy : u64In y) (hn : n < 1000000000)
    (hK : ∀ w', SetB w' b (n + 1) (y :: S) → Wrote (fun k => k = b) w w' → wpList Try.prog ops Q rest a w') : wpList Try.prog ops Q (o :: rest) a w := by
  refine wpList_plain hg fun K' hK' => ?_
  obtain ⟨w', hrun, r1, r2⟩ := h.put hy hn
  unfold Oper.wp
  simp [execOp, hop, hm, hx, hv, hrun, Result.andThen]
  refine hK' _ _ ?_
  rw [hd]
  exact hK w' r1 r2
end Go.Proofs.Ytkcohhldmhdcfaa
