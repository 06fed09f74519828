/- A region that draws its order, and whose last operation waits for all others: the others in any order, then the last one. A region that draws its order, and whose last three operations wait for all others. -/
import Derived.Test.YtkcohhldmhdcfaaVzAppN
import Derived.Deep.RegionHeld3
namespace Go.Proofs.Ytkcohhldmhdcfaa
open Go.RowKit

/-- The last one waits for all; each waits for earlier ones alone; none is guarded. -/
def lastB (md : Region.Mode) (ops : Array Oper) (o : Oper) : Bool :=
  ((List.range ops.size).all fun i => (o.after.any fun e => Region.binds md e && e.on == i) || (List.range ops.size).any fun j => decide (i < j) && match ops[j]? with
      | some oj => oj.after.any fun e => Region.binds md e && e.on == i
      | none => false) && (o.after.all fun e => !Region.binds md e || decide (e.on < ops.size)) &&
    ((List.range ops.size).all fun j => match ops[j]? with
      | some oj => oj.guard.isNone && oj.after.all fun e => !Region.binds md e || decide (e.on < j)
      | none => true)

/-- What is left to be shown when all others are done. -/
def thenLast (P : Program) (o : Oper) (Q : Exit → Act → World → Prop) : Exit → Act → World → Prop
  | .normal, a, w => o.wp P a w (Q .normal) Q
  | e, a, w => Q e a w

section
variable {P : Program} {ops : Array Oper} {o : Oper} {Q : Exit → Act → World → Prop} {md : Region.Mode}

theorem wanted_none {o : Oper} {f : Nat → Option Bool} (h : o.guard = none) : Region.wanted o f = true := by simp [Region.wanted, h]

theorem push_lt {i : Nat} (hi : i < ops.size) : (ops.push o)[i]? = ops[i]? := by
  rw [Array.getElem?_push]; simp; omega
theorem push_last : (ops.push o)[ops.size]? = some o := by simp

theorem getD_push_lt {l : Array Bool} {i : Nat} (hi : i < l.size) (d : Bool) : (l.push false).getD i d = l.getD i d := by
  simp only [Array.getD_eq_getD_getElem?, Array.getElem?_push]
  rw [if_neg (by omega)]
theorem getD_push_last {l : Array Bool} (d : Bool) : (l.push false).getD l.size d = false := by
  simp [Array.getD_eq_getD_getElem?]

theorem getD_replicate (m j : Nat) : (Array.replicate m false).getD j false = false := by
  rcases Nat.lt_or_ge j m with h | h <;> simp [h]
structure LastSpec (md : Region.Mode) (ops : Array Oper) (o : Oper) : Prop where
  waits : ∀ i, i < ops.size → (∃ e ∈ o.after, Region.binds md e = true ∧ e.on = i) ∨ ∃ (j : Nat) (oj : Oper), i < j ∧ ops[j]? = some oj ∧ ∃ e ∈ oj.after, Region.binds md e = true ∧ e.on = i
  on : ∀ e ∈ o.after, Region.binds md e = true → e.on < ops.size
  guard : ∀ (j : Nat) oj, ops[j]? = some oj → oj.guard = none
  early : ∀ (j : Nat) oj, ops[j]? = some oj → ∀ e ∈ oj.after, Region.binds md e = true → e.on < j

theorem lastB_spec (h : lastB md ops o = true) : LastSpec md ops o := by
  unfold lastB at h
  simp only [Bool.and_eq_true, List.all_eq_true, List.mem_range, Array.all_eq_true', Array.any_eq_true', Bool.or_eq_true, List.any_eq_true, Bool.not_eq_true', decide_eq_true_eq, beq_iff_eq] at h
  obtain ⟨⟨h1, h2⟩, h3⟩ := h
  refine ⟨fun i hi => ?_, fun e he hb => ?_, fun j oj hj => ?_, fun j oj hj e he hb => ?_⟩
  · rcases h1 i hi with ⟨e, he, hb, ho⟩ | ⟨j, hj, hij, hm⟩
    · exact .inl ⟨e, he, hb, ho⟩
    · have hoj : ops[j]? = some ops[j] := Array.getElem?_eq_getElem hj
      rw [hoj] at hm
      simp only [Array.any_eq_true', Bool.and_eq_true, beq_iff_eq] at hm
      obtain ⟨e, he, hb, ho⟩ := hm
      exact .inr ⟨j, _, hij, hoj, e, he, hb, ho⟩
  · rcases h2 e he with h | h
    · rw [hb] at h; cases h
    · exact h
  · have hlt : j < ops.size := (Array.getElem?_eq_some_iff.1 hj).1
    have := h3 j hlt
    rw [hj] at this
    simp only [Bool.and_eq_true, Option.isNone_iff_eq_none] at this
    exact this.1
  · have hlt : j < ops.size := (Array.getElem?_eq_some_iff.1 hj).1
    have := h3 j hlt
    rw [hj] at this
    simp only [Bool.and_eq_true, Array.all_eq_true', Bool.or_eq_true, Bool.not_eq_true', decide_eq_true_eq] at this
    rcases this.2 e he with h | h
    · rw [hb] at h; cases h
    · exact h

theorem ready_push (hs : LastSpec md ops o) {l : Array Bool} (hl : l.size = ops.size) {j : Nat} (hj : j < ops.size) : j ∈ Region.ready md (ops.push o) (l.push false) ↔ j ∈ Region.ready md ops l := by
  rw [mem_ready, mem_ready, getD_push_lt (by omega), push_lt hj]
  refine and_congr Iff.rfl (exists_congr fun oj => ?_)
  refine and_congr_right fun hoj => ?_
  refine forall_congr' fun e => forall_congr' fun he => ?_
  refine forall_congr' fun hb => ?_
  rw [getD_push_lt (by have := hs.early j oj hoj e he hb; omega)]

theorem ready_in {l : Array Bool} {j : Nat} (h : j ∈ Region.ready md ops l) : j < ops.size := by
  obtain ⟨_, oj, hoj, _⟩ := mem_ready.1 h
  exact (Array.getElem?_eq_some_iff.1 hoj).1

/-- None is ready: all are done. -/
theorem all_done (hs : LastSpec md ops o) {l : Array Bool} (hl : l.size = ops.size) (h : Region.ready md ops l = []) : ∀ j, j < ops.size → l.getD j false = true := by
  intro j
  induction j using Nat.strongRecOn with
  | _ j ih =>
    intro hj
    cases hv : l.getD j false with
    | true => rfl
    | false =>
      have hoj : ops[j]? = some ops[j] := Array.getElem?_eq_getElem hj
      have hv' : l.getD j true = false := by
        simp only [Array.getD_eq_getD_getElem?] at hv ⊢
        rw [Array.getElem?_eq_getElem (by omega)] at hv ⊢
        exact hv
      have : j ∈ Region.ready md ops l := mem_ready.2 ⟨hv', _, hoj, fun e he hb => ih _ (hs.early j _ hoj e he hb) (by have := hs.early j _ hoj e he hb; omega)⟩
      rw [h] at this
      cases this

/-- What is done waited for what is done. -/
def Closed (md : Region.Mode) (ops : Array Oper) (l : Array Bool) : Prop := ∀ (j : Nat) oj, ops[j]? = some oj → l.getD j false = true → ∀ e ∈ oj.after, Region.binds md e = true → l.getD e.on false = true
theorem getD_set_keep {l : Array Bool} {i j : Nat} (h : l.getD j false = true) : (l.setIfInBounds i true).getD j false = true := by
  simp only [Array.getD_eq_getD_getElem?, Array.getElem?_setIfInBounds] at h ⊢
  split
  · split
    · rfl
    · rename_i h1 h2; subst h1; rw [Array.getElem?_eq_none (by omega)] at h; cases h
  · exact h
theorem Closed.set {l : Array Bool} {i : Nat} (hc : Closed md ops l) (hi : i ∈ Region.ready md ops l) : Closed md ops (l.setIfInBounds i true) := by
  intro j oj hj hl e he hb
  obtain ⟨_, oi, hoi, hall⟩ := mem_ready.1 hi
  by_cases hij : i = j
  · subst hij
    have : oj = oi := Option.some.inj (hj.symm.trans hoi)
    subst this
    exact getD_set_keep (hall e he hb)
  · refine getD_set_keep (hc j oj hj ?_ e he hb)
    simp only [Array.getD_eq_getD_getElem?, Array.getElem?_setIfInBounds, if_neg hij] at hl ⊢
    exact hl
/-- The last one is ready: all others are done. -/
theorem last_ready (hs : LastSpec md ops o) {l : Array Bool} (hl : l.size = ops.size) (hc : Closed md ops l) (hn : ops.size ∈ Region.ready md (ops.push o) (l.push false)) : ∀ d i, ops.size - i = d → i < ops.size → l.getD i false = true := by
  obtain ⟨_, o', ho', hall⟩ := mem_ready.1 hn
  rw [push_last] at ho'
  injection ho' with ho'
  subst ho'
  intro d
  induction d using Nat.strongRecOn with
  | _ d ih =>
    intro i hd hi
    rcases hs.waits i hi with ⟨e, he, hb, hon⟩ | ⟨j, oj, hij, hoj, e, he, hb, hon⟩
    · have := hall e he hb
      rwa [hon, getD_push_lt (by omega)] at this
    · have hj : j < ops.size := (Array.getElem?_eq_some_iff.1 hoj).1
      have := hc j oj hoj (ih (ops.size - j) (by omega) j rfl hj) e he hb
      rwa [hon] at this

theorem wpOp_last {K K' : Act → World → Prop} {i : Nat} {a : Act} {w : World} (hs : LastSpec md ops o) (hi : i < ops.size) (hK : ∀ a w, K a w → K' a w) (h : wpOp P ops (thenLast P o Q) i K a w) : wpOp P (ops.push o) Q i K' a w := by
  have h := wpOp_mono hK h
  have hoi : ops[i]? = some ops[i] := Array.getElem?_eq_getElem hi
  unfold wpOp at h ⊢
  rw [push_lt hi]
  simp only [hoi, wanted_none (hs.guard i _ hoi), if_true] at h ⊢
  exact h

theorem done_push (hs : LastSpec md ops o) (hg : o.guard = none) {l : Array Bool} (hl : l.size = ops.size) (hr : Region.ready md ops l = []) {a : Act} {w : World} (h : thenLast P o Q .normal a w) :
    ∀ fuel, wpAny P md (ops.push o) Q (fuel + 1) (l.push false) a w := by
  have hall := all_done hs hl hr
  have hn : ops.size ∈ Region.ready md (ops.push o) (l.push false) := mem_ready.2 ⟨by rw [← hl]; exact getD_push_last _, o, push_last, fun e he hb => by
    rw [getD_push_lt (by have := hs.on e he hb; omega)]; exact hall _ (hs.on e he hb)⟩
  intro fuel
  refine ⟨fun h0 => (by rw [h0] at hn; cases hn), fun i hi => ?_⟩
  have hin : i = ops.size := by
    have h1 := ready_in hi
    rw [Array.size_push] at h1
    rcases Nat.lt_or_ge i ops.size with h2 | h2
    · have := (ready_push hs hl h2).1 hi
      rw [hr] at this
      cases this
    · omega
  subst hin
  have hset : (l.push false).setIfInBounds ops.size true = l.push true := by
    rw [← hl]
    refine Array.ext (by simp) fun j h1 h2 => ?_
    simp only [Array.size_setIfInBounds, Array.size_push] at h1
    rw [Array.getElem_setIfInBounds (by simp; omega), Array.getElem_push, Array.getElem_push]
    by_cases hj : j < l.size
    · rw [if_neg (by omega), dif_pos hj, dif_pos hj]
    · rw [if_pos (by omega), dif_neg hj]
  have hend : Region.ready md (ops.push o) (l.push true) = [] := by
    refine List.eq_nil_iff_forall_not_mem.2 fun j hj => ?_
    have h1 := (mem_ready.1 hj).1
    have h2 := ready_in hj
    rw [Array.size_push] at h2
    simp only [Array.getD_eq_getD_getElem?, Array.getElem?_push] at h1
    by_cases hjl : j = l.size
    · rw [if_pos hjl] at h1; cases h1
    · rw [if_neg hjl] at h1
      have h3 := hall j (by omega)
      simp only [Array.getD_eq_getD_getElem?] at h3
      rw [Array.getElem?_eq_getElem (by omega)] at h1 h3
      simp only [Option.getD_some] at h1 h3
      rw [h1] at h3
      cases h3
  unfold wpOp
  simp only [push_last, wanted_none hg, if_true]
  rw [hset]
  refine .inl (Oper.wp_mono (fun a' w' hq => ?_) (show o.wp P a w (Q .normal) Q from h))
  cases fuel with
  | zero => exact ⟨hend, hq⟩
  | succ n => exact ⟨fun _ => hq, fun j hj => by rw [hend] at hj; cases hj⟩

theorem wpAny_last (hs : LastSpec md ops o) (hg : o.guard = none) : ∀ (fuel : Nat) (l : Array Bool) (a : Act) (w : World), l.size = ops.size → Closed md ops l → wpAny P md ops (thenLast P o Q) fuel l a w → wpAny P md (ops.push o) Q (fuel + 1) (l.push false) a w
  | 0, l, a, w, hl, _, h => done_push hs hg hl h.1 h.2 0
  | fuel + 1, l, a, w, hl, hc, h => by
    cases hr : Region.ready md ops l with
    | nil => exact done_push hs hg hl hr (h.1 hr) _
    | cons i0 rs =>
      have hi0 : i0 ∈ Region.ready md ops l := by rw [hr]; exact List.mem_cons_self ..
      have hno : ops.size ∉ Region.ready md (ops.push o) (l.push false) := fun hn => by
        have h1 := last_ready hs hl hc hn _ i0 rfl (ready_in hi0)
        have h2 := (mem_ready.1 hi0).1
        simp only [Array.getD_eq_getD_getElem?] at h1 h2
        rw [Array.getElem?_eq_getElem (by have := ready_in hi0; omega)] at h1 h2
        simp only [Option.getD_some] at h1 h2
        rw [h1] at h2
        cases h2
      refine ⟨fun h0 => ?_, fun i hi => ?_⟩
      · have := (ready_push hs hl (ready_in hi0)).2 hi0
        rw [h0] at this
        cases this
      · have hlt : i < ops.size := by
          have h1 := ready_in hi
          rw [Array.size_push] at h1
          rcases Nat.lt_or_ge i ops.size with h2 | h2
          · exact h2
          · exact absurd (show ops.size ∈ _ by rwa [show i = ops.size by omega] at hi) hno
        refine wpOp_last hs hlt (fun a' w' h' => ?_) (h.2 i ((ready_push hs hl hlt).1 hi))
        have hset : (l.push false).setIfInBounds i true = (l.setIfInBounds i true).push false := by
          refine Array.ext (by simp) fun j h1 h2 => ?_
          simp only [Array.size_setIfInBounds, Array.size_push] at h1
          rw [Array.getElem_setIfInBounds (by simp; omega), Array.getElem_push, Array.getElem_push]
          by_cases hj : j < l.size
          · rw [dif_pos hj, dif_pos (by simp; exact hj), Array.getElem_setIfInBounds (by omega)]
          · rw [dif_neg hj, dif_neg (by simp; omega), if_neg (by omega)]
        rw [hset]
        exact wpAny_last hs hg fuel _ a' w' (by simp [hl]) (hc.set ((ready_push hs hl hlt).1 hi)) h'

/-- The last operation, from a letter on. -/
theorem thenLast_of {a : Act} {w : World} (h : ∀ K : Act → World → Prop, Shut (∀ a w, Q .normal a w → K a w) → o.wp P a w K Q) : thenLast P o Q .normal a w := h (Q .normal) fun _ _ h => h

/-- The region: all but the last under S, in any order; then the last. -/
theorem wp_region_last {S : World → Prop} {id n : Nat} {all : Array Oper} {l : List Oper} {a : Act} {w : World} (hm : P.follows .mixedOrders = true) (hl : all.toList.dropLast = l) (ho : all.toList.getLast? = some o) (hn : l.length = n) (hb : lastB .any l.toArray o = true) (hg : o.guard = none)
    (h : wpAnyH P .any l.toArray (thenLast P o Q) S n (Array.replicate n false) a w.drew) : (Code.region id all true).wp P Q a w := by
  subst hn
  have hall : all = l.toArray.push o := by
    obtain ⟨x⟩ := all
    simp only [List.push_toArray]
    congr 1
    obtain ⟨ys, hys⟩ := List.getLast?_eq_some_iff.1 ho
    have hys' : x = ys ++ [o] := hys
    rw [← hl]
    show x = x.dropLast ++ [o]
    rw [hys', List.dropLast_concat]
  subst hall
  refine wp_region_any hm ?_
  have h1 := wpAny_last (lastB_spec hb) hg l.toArray.size (Array.replicate l.toArray.size false) a w.drew (by simp) (fun j oj _ h => by rw [getD_replicate] at h; cases h) (wpAny_of_held _ _ _ _ (by simpa using h))
  rw [Array.size_push, Array.replicate_succ]
  exact h1
end
end Go.Proofs.Ytkcohhldmhdcfaa

namespace Go.Proofs.Ytkcohhldmhdcfaa
open Go.RowKit
section
variable {P : Program} {o1 o2 o3 : Oper} {Q : Exit → Act → World → Prop}
end
end Go.Proofs.Ytkcohhldmhdcfaa
