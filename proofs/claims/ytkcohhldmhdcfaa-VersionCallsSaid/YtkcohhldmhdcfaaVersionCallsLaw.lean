/-
  The law VersionCalls returns true for every argument that can be read, and nothing that was there before the call has changed. No condition.
-/
import Derived.Test.YtkcohhldmhdcfaaVgJ
import Derived.Test.YtkcohhldmhdcfaaVgK
import Derived.Test.YtkcohhldmhdcfaaLaw0
namespace Go.Proofs.Ytkcohhldmhdcfaa.versionCalls
open Go.ChangeShapes Go.WideShapes Go.ChangeAt Go.RowKit

set_option maxRecDepth 100000 in
theorem lifted (os : Os) (started : os.Started) (H : Type) (enc : TypeId × Value → H) :
    ReturnsInHanded {} Try.checked os 7 .any (Rows.versionCallsSpec.pre6 enc Try.prog Try.f7 Rows.versionCallsRow.domain false) (Rows.versionCallsSpec.post enc Try.prog Try.f7 false true false false) := by
  refine returnsInHanded_of_change_sized (C := Try.checked) ownKnob_none started (by kernel_rfl) Try.func7
    (ChangeSpec.witness6 (enc := enc) (C := Try.checked) false ⟨#[], #[.agg #[.slice none 0 0, .int .u64 0, .int .u64 0, .int .u64 0], .agg #[.slice none 0 0, .slice none 0 0, .int .u64 0, .int .u64 0, .int .u64 0], .int .i64 0, .slice none 0 0, .slice none 0 0], []⟩ 8 (by kernel_rfl) (by kernel_rfl) (by kernel_rfl) (by kernel_rfl)) ?_
  intro W base args ds gs before hval0 hW _ hsz _
  have hval : ∀ (j : Nat) t v, Try.f7.params[j]? = some t → args[j]? = some v → Value.okWide Try.prog W .any base t v := hval0
  have hW' := hW
  obtain ⟨p, q, hA0, hV, rfl, _, _⟩ := hW
  have hA : DataW.TrodAll enc Try.prog W 0 (fun _ => true) true Try.f7.params.toList args.toList ds p := hA0
  rw [Try.params7] at hA hval
  obtain ⟨v0, vs0, d0, ds0, p0, q0, hargs, rfl, rfl, h0, r0⟩ := trodAll_cons hA
  obtain ⟨v1, vs1, d1, ds1, p1, q1, rfl, rfl, rfl, h1, r1⟩ := trodAll_cons r0
  obtain ⟨v2, vs2, d2, ds2, p2, q2, rfl, rfl, rfl, h2, r2⟩ := trodAll_cons r1
  obtain ⟨v3, vs3, d3, ds3, p3, q3, rfl, rfl, rfl, h3, r3⟩ := trodAll_cons r2
  obtain ⟨v4, vs4, d4, ds4, p4, q4, rfl, rfl, rfl, h4, r4⟩ := trodAll_cons r3
  obtain ⟨rfl, rfl, rfl⟩ := trodAll_nil r4
  obtain rfl : args = #[v0, v1, v2, v3, v4] := by cases args; simpa using hargs
  obtain ⟨rfl, rfl⟩ := trodVars_none hV
  clear hA0 hval0
  obtain ⟨vr, lv, rfl, hr, hwf, hnr⟩ := open_ver (hval 0 25 v0 rfl rfl) h0 (fun n hn => by simpa using List.all_eq_true.1 hsz n (DataW.weights_mem_each (j := 0) (t := 25) (d := d0) (by kernel_rfl) rfl n hn))
  obtain ⟨ed, dv, av, rfl, hed, hne⟩ := open_edi (hval 1 57 v1 rfl rfl) h1 (fun n hn => by simpa using List.all_eq_true.1 hsz n (DataW.weights_mem_each (j := 1) (t := 57) (d := d1) (by kernel_rfl) rfl n hn))
  obtain ⟨x, rfl, hx0, hx1⟩ := open_i64 Try.underlying3 (hval 2 3 v2 rfl rfl) h2
  obtain ⟨least, hl⟩ := open_bytes5 (hval 3 34 v3 rfl rfl) h3
  obtain ⟨most, hm⟩ := open_bytes5 (hval 4 34 v4 rfl rfl) h4
  refine ((fun W vr lv hr hwf hnr ed dv av hed hne x hx0 hx1 least hl most hm => versionCalls_any _ _ _ _ vr ed lv dv av x least most _ _ W hr hwf (near_len hnr) (near_row hnr) hed (edi_nd hne) (edi_na hne) (edi_nk hne) ⟨hx0, hx1⟩ hl hm) W vr lv hr hwf hnr ed dv av hed hne x hx0 hx1 least hl most hm).mono fun e W' ⟨he, hg⟩ => ?_
  subst he
  exact ⟨_, rfl, law_post hW' (fun x hx => by simpa using hW'.lt x hx) hg (rd_of (by kernel_rfl)) (by kernel_rfl) (by kernel_rfl) rfl rfl⟩

theorem over : Rows.versionCallsRow.holds Try.pinned (OpenSpec.ofChange Rows.versionCallsSpec) :=
  OpenClaim.holds_of_wide 7 Try.f7 rfl rfl rfl rfl rfl rfl rfl ⟨rfl, rfl, rfl, rfl, rfl⟩ rfl rfl rfl rfl rfl (by kernel_rfl) Try.func7 (by kernel_rfl)
    (of_decide_eq_true (by kernel_rfl)) (by unfold Func.isWrapper; first | (rw [if_pos (by decide +kernel)]; kernel_rfl) | (rw [if_neg (by decide +kernel)]; exact ⟨rfl, rfl⟩))
    (fun os started H enc _ => lifted os started H enc)

/-- The statement. -/
theorem proved : Rows.VersionCallsSaid :=
  over
#print axioms proved
end Go.Proofs.Ytkcohhldmhdcfaa.versionCalls
