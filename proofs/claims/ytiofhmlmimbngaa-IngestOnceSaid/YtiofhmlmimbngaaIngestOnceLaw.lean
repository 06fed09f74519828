/-
  The law IngestOnce returns true for every argument that can be read, and nothing that was there before the call has changed. No condition.
-/
import Derived.Test.YtiofhmlmimbngaaIngOnce
import Derived.Test.YtiofhmlmimbngaaIngOpen
import Derived.Test.YtiofhmlmimbngaaLaw0
namespace Go.Proofs.Ytiofhmlmimbngaa.ingestOnce
open Go.ChangeShapes Go.WideShapes Go.ChangeAt Go.RowKit

set_option maxRecDepth 100000 in
theorem lifted (os : Os) (started : os.Started) (H : Type) (enc : TypeId × Value → H) :
    ReturnsInHanded {} Try.checked os 4 .any (Rows.ingestOnceSpec.pre6 enc Try.prog Try.f4 Rows.ingestOnceRow.domain false) (Rows.ingestOnceSpec.post enc Try.prog Try.f4 false true false false) := by
  refine returnsInHanded_of_change (C := Try.checked) ownKnob_none started (by kernel_rfl) Try.func4
    (ChangeSpec.witness6 (enc := enc) (C := Try.checked) false ⟨#[], #[.agg #[.int .i64 0, .int .i64 0], .slice none 0 0, .slice none 0 0], []⟩ 8 (by kernel_rfl) (by kernel_rfl) (by kernel_rfl) (by kernel_rfl)) ?_
  intro W base args ds gs before hval0 hW _ _
  have hval : ∀ (j : Nat) t v, Try.f4.params[j]? = some t → args[j]? = some v → Value.okWide Try.prog W .any base t v := hval0
  have hW' := hW
  obtain ⟨p, q, hA0, hV, rfl, _, _⟩ := hW
  have hA : DataW.TrodAll enc Try.prog W 0 (fun _ => true) true Try.f4.params.toList args.toList ds p := hA0
  rw [Try.params4] at hA hval
  obtain ⟨v0, vs0, d0, ds0, p0, q0, hargs, rfl, rfl, h0, r0⟩ := trodAll_cons hA
  obtain ⟨v1, vs1, d1, ds1, p1, q1, rfl, rfl, rfl, h1, r1⟩ := trodAll_cons r0
  obtain ⟨v2, vs2, d2, ds2, p2, q2, rfl, rfl, rfl, h2, r2⟩ := trodAll_cons r1
  obtain ⟨rfl, rfl, rfl⟩ := trodAll_nil r2
  obtain rfl : args = #[v0, v1, v2] := by cases args; simpa using hargs
  obtain ⟨rfl, rfl⟩ := trodVars_none hV
  clear hA0 hval0
  obtain ⟨n, m, rfl⟩ := open_setup (hval 0 27 v0 rfl rfl) h0
  obtain ⟨acts, ha⟩ := open_acts (hval 1 45 v1 rfl rfl) h1
  obtain ⟨ns, hn⟩ := open_ints (hval 2 38 v2 rfl rfl) h2
  refine (ingestOnce_all W n m _ acts ha _ ns hn).mono fun e W' ⟨he, hg⟩ => ?_
  subst he
  exact ⟨_, rfl, law_post hW' (fun x hx => by simpa using hW'.lt x hx) hg (rd_of (by kernel_rfl)) (by kernel_rfl) (by kernel_rfl) rfl rfl⟩

theorem over : Rows.ingestOnceRow.holds Try.pinned (OpenSpec.ofChange Rows.ingestOnceSpec) :=
  OpenClaim.holds_of_wide 4 Try.f4 rfl rfl rfl rfl rfl rfl rfl ⟨rfl, rfl, rfl, rfl, rfl⟩ rfl rfl rfl rfl rfl (by kernel_rfl) Try.func4 (by kernel_rfl)
    (of_decide_eq_true (by kernel_rfl)) (by unfold Func.isWrapper; first | (rw [if_pos (by decide +kernel)]; kernel_rfl) | (rw [if_neg (by decide +kernel)]; exact ⟨rfl, rfl⟩))
    (fun os started H enc _ => lifted os started H enc)

/-- The statement. -/
theorem proved : Rows.IngestOnceSaid :=
  over
#print axioms proved
end Go.Proofs.Ytiofhmlmimbngaa.ingestOnce
