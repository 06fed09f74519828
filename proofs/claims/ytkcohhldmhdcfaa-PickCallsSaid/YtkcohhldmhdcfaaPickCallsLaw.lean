/-
  The law PickCalls returns true for every argument that can be read, and nothing that was there before the call has changed. No condition.
-/
import Derived.Test.YtkcohhldmhdcfaaVfL
import Derived.Test.YtkcohhldmhdcfaaPkGc
import Derived.Test.YtkcohhldmhdcfaaLaw0
namespace Go.Proofs.Ytkcohhldmhdcfaa.pickCalls
open Go.ChangeShapes Go.WideShapes Go.ChangeAt Go.RowKit

set_option maxRecDepth 100000 in
theorem lifted (os : Os) (started : os.Started) (H : Type) (enc : TypeId × Value → H) :
    ReturnsInHanded {} Try.checked os 5 .any (Rows.pickCallsSpec.pre6 enc Try.prog Try.f5 Rows.pickCallsRow.domain false) (Rows.pickCallsSpec.post enc Try.prog Try.f5 false true false false) := by
  refine returnsInHanded_of_change_sized (C := Try.checked) ownKnob_none started (by kernel_rfl) Try.func5
    (ChangeSpec.witness6 (enc := enc) (C := Try.checked) false ⟨#[], #[.agg #[.slice none 0 0, .int .u64 0, .int .u64 0, .int .u64 0], .agg #[.int .i64 0, .int .i64 0, .int .i64 0], .int .i64 0], []⟩ 8 (by kernel_rfl) (by kernel_rfl) (by kernel_rfl) (by kernel_rfl)) ?_
  intro W base args ds gs before hval0 hW _ hsz _
  have hval : ∀ (j : Nat) t v, Try.f5.params[j]? = some t → args[j]? = some v → Value.okWide Try.prog W .any base t v := hval0
  have hW' := hW
  obtain ⟨p, q, hA0, hV, rfl, _, _⟩ := hW
  have hA : DataW.TrodAll enc Try.prog W 0 (fun _ => true) true Try.f5.params.toList args.toList ds p := hA0
  rw [Try.params5] at hA hval
  obtain ⟨v0, vs0, d0, ds0, p0, q0, hargs, rfl, rfl, h0, r0⟩ := trodAll_cons hA
  obtain ⟨v1, vs1, d1, ds1, p1, q1, rfl, rfl, rfl, h1, r1⟩ := trodAll_cons r0
  obtain ⟨v2, vs2, d2, ds2, p2, q2, rfl, rfl, rfl, h2, r2⟩ := trodAll_cons r1
  obtain ⟨rfl, rfl, rfl⟩ := trodAll_nil r2
  obtain rfl : args = #[v0, v1, v2] := by cases args; simpa using hargs
  obtain ⟨rfl, rfl⟩ := trodVars_none hV
  clear hA0 hval0
  obtain ⟨vr, lv, rfl, hr, hwf, hnr⟩ := open_ver (hval 0 25 v0 rfl rfl) h0 (fun n hn => by simpa using List.all_eq_true.1 hsz n (DataW.weights_mem_each (j := 0) (t := 25) (d := d0) (by kernel_rfl) rfl n hn))
  obtain ⟨s, rfl⟩ := open_stp (hval 1 27 v1 rfl rfl) h1 (fun n hn => by simpa using List.all_eq_true.1 hsz n (DataW.weights_mem_each (j := 1) (t := 27) (d := d1) (by kernel_rfl) rfl n hn))
  obtain ⟨x, rfl, _, _⟩ := open_i64 Try.underlying3 (hval 2 3 v2 rfl rfl) h2
  refine ((fun W vr lv hr hwf hnr s x => pickCalls_any _ vr s lv x W hr hwf (near_len hnr) (near_row hnr)) W vr lv hr hwf hnr s x).mono fun e W' ⟨he, hg⟩ => ?_
  subst he
  exact ⟨_, rfl, law_post hW' (fun x hx => by simpa using hW'.lt x hx) hg (rd_of (by kernel_rfl)) (by kernel_rfl) (by kernel_rfl) rfl rfl⟩

theorem over : Rows.pickCallsRow.holds Try.pinned (OpenSpec.ofChange Rows.pickCallsSpec) :=
  OpenClaim.holds_of_wide 5 Try.f5 rfl rfl rfl rfl rfl rfl rfl ⟨rfl, rfl, rfl, rfl, rfl⟩ rfl rfl rfl rfl rfl (by kernel_rfl) Try.func5 (by kernel_rfl)
    (of_decide_eq_true (by kernel_rfl)) (by unfold Func.isWrapper; first | (rw [if_pos (by decide +kernel)]; kernel_rfl) | (rw [if_neg (by decide +kernel)]; exact ⟨rfl, rfl⟩))
    (fun os started H enc _ => lifted os started H enc)

/-- The statement. -/
theorem proved : Rows.PickCallsSaid :=
  over
#print axioms proved
end Go.Proofs.Ytkcohhldmhdcfaa.pickCalls
