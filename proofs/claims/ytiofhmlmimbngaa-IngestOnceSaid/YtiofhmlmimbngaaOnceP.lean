/- The law IngestOnce: the plain law of the intake: what was taken is handed on once, and work ends. -/
import Derived.Test.YtiofhmlmimbngaaCmp
import Derived.Test.YtiofhmlmimbngaaIntakeH
namespace Go.Proofs.Ytiofhmlmimbngaa
open Go.RowKit

theorem bad_tags : ∀ {l : List Sp.T}, Sp.bad l = 0 → ∀ s ∈ l, s.tags.length ≤ 16
  | [], _, s, hs => by cases hs
  | x :: r, h, s, hs => by
    unfold Sp.bad at h
    split at h
    · rename_i h1; exact absurd h h1
    · rename_i h1
      rcases List.mem_cons.1 hs with rfl | hs
      · exact Sp.tags_few _ (by omega)
      · exact bad_tags h s hs

theorem flatten_at {α : Type} (l : List (List α)) (k : Nat) (h : k < l.length) : l.flatten = (l.take k).flatten ++ (l[k] ++ (l.drop (k + 1)).flatten) := by
  have e : l = l.take k ++ l[k] :: l.drop (k + 1) := by rw [← List.drop_eq_getElem_cons h, List.take_append_drop]
  have e2 := congrArg List.flatten e
  rw [List.flatten_append, List.flatten_cons] at e2
  exact e2
theorem flatten_set {α : Type} (l : List (List α)) (k : Nat) (h : k < l.length) (r : List α) : (l.set k r).flatten = (l.take k).flatten ++ (r ++ (l.drop (k + 1)).flatten) := by
  rw [List.set_eq_take_append_cons_drop, if_pos h, List.flatten_append, List.flatten_cons]
theorem sumLen_flatten (l : List (List Sp.T)) : sumLen l = l.flatten.length := by
  unfold sumLen; rw [List.length_flatten]

/-- What was taken is what was handed on and what is still here. -/
structure Inv (q : Iq) (i o : List Sp.T) : Prop where
  perm : i.Perm (o ++ (q.held.flatten ++ q.queue.flatten))
  ne : ∀ l ∈ q.queue, l ≠ []
  len : q.held.length = q.m
  m0 : 0 < q.m
  nx : q.next = q.first + q.queue.length
  few : ∀ s ∈ i, s.tags.length ≤ 16

theorem inv_new (n m : Nat) (hm : 0 < m) : Inv ⟨n, m, 0, 0, [], List.replicate m []⟩ [] [] where
  perm := by
    have : (List.replicate m ([] : List Sp.T)).flatten = [] := by simp
    simp only [this, List.flatten_nil, List.append_nil]
    exact List.Perm.refl _
  ne := fun l hl => by cases hl
  len := by simp
  m0 := hm
  nx := rfl
  few := fun s hs => by cases hs

section
variable {q q2 : Iq} {i o : List Sp.T}
theorem Inv.offer_ok (h : Inv q i o) {l : List Sp.T} (hr : q.offer l = (0, q2)) : Inv q2 (i ++ l) o := by
  unfold Iq.offer at hr
  split at hr
  · rename_i h1
    injection hr with h2 _
    exact absurd h2 h1
  · rename_i h1
    have hb : Sp.bad l = 0 := by omega
    split at hr
    · rename_i h2
      injection hr with _ h3
      subst h3
      have : l = [] := List.eq_nil_of_length_eq_zero h2
      subst this
      rw [List.append_nil]
      exact h
    · rename_i h2
      split at hr
      · injection hr with h3 _; cases h3
      · injection hr with _ h3
        subst h3
        refine ⟨?_, ?_, h.len, h.m0, ?_, ?_⟩
        · show (i ++ l).Perm (o ++ (q.held.flatten ++ (q.queue ++ [l]).flatten))
          rw [List.flatten_append, List.flatten_cons, List.flatten_nil, List.append_nil, ← List.append_assoc q.held.flatten, ← List.append_assoc o]
          exact h.perm.append_right l
        · intro x hx
          rcases List.mem_append.1 hx with hx | hx
          · exact h.ne x hx
          · rw [List.mem_singleton.1 hx]; intro e; rw [e] at h2; exact h2 rfl
        · show q.next + 1 = q.first + (q.queue ++ [l]).length
          rw [List.length_append, h.nx, List.length_singleton]; omega
        · intro s hs
          rcases List.mem_append.1 hs with hs | hs
          · exact h.few s hs
          · exact bad_tags hb s hs

theorem Inv.offer_err (h : Inv q i o) {l : List Sp.T} {r : Nat} (hr : q.offer l = (r, q2)) (h0 : r ≠ 0) : Inv q2 i o := by
  unfold Iq.offer at hr
  split at hr
  · injection hr with _ h3; subst h3; exact h
  · split at hr
    · injection hr with _ h3; subst h3; exact h
    · split at hr
      · injection hr with _ h3; subst h3; exact h
      · injection hr with h3 _; exact absurd h3.symm h0

/-- What a step does, in its four ways. -/
theorem Iq.step_cases {x : Int} {what er : Nat} {s : Sp.T} (hr : q.step x = (what, s, er, q2)) :
    (what = 0 ∧ q2 = q) ∨
    (∃ r, what = 2 ∧ er = 0 ∧ 0 ≤ x ∧ x < (q.m : Int) ∧ q.held.getD x.toNat [] = s :: r ∧ q2 = { q with held := q.held.set x.toNat r }) ∨
    (∃ l ls, what = 1 ∧ er = 0 ∧ 0 ≤ x ∧ x < (q.m : Int) ∧ q.held.getD x.toNat [] = [] ∧ q.queue = l :: ls ∧ q2 = { q with first := q.first + 1, queue := ls, held := q.held.set x.toNat l }) := by
  unfold Iq.step at hr
  split at hr
  · injection hr with h1 h2
    injection h2 with _ h2
    injection h2 with _ h2
    exact .inl ⟨h1.symm, h2.symm⟩
  · rename_i hx
    split at hr
    · rename_i s' r hh
      injection hr with h1 h2
      injection h2 with h2 h3
      injection h3 with h3 h4
      subst h2
      exact .inr (.inl ⟨r, h1.symm, h3.symm, by omega, by omega, hh, h4.symm⟩)
    · rename_i hh
      split at hr
      · rename_i l ls hq
        injection hr with h1 h2
        injection h2 with h2 h3
        injection h3 with h3 h4
        exact .inr (.inr ⟨l, ls, h1.symm, h3.symm, by omega, by omega, hh, hq, h4.symm⟩)
      · injection hr with h1 h2
        injection h2 with _ h2
        injection h2 with _ h2
        exact .inl ⟨h1.symm, h2.symm⟩

theorem getD_at {α : Type} (l : List (List α)) (k : Nat) (h : k < l.length) : l.getD k [] = l[k] := by simp [List.getD, h]

theorem Inv.step_span (h : Inv q i o) {x : Int} {er : Nat} {s : Sp.T} (hr : q.step x = (2, s, er, q2)) : Inv q2 i (o ++ [s]) := by
  rcases Iq.step_cases hr with ⟨h1, _⟩ | ⟨r, _, _, hx0, hx1, hh, rfl⟩ | ⟨l, ls, h1, _⟩
  · cases h1
  · have hl : x.toNat < q.held.length := by have := h.len; omega
    rw [getD_at _ _ hl] at hh
    refine ⟨?_, h.ne, ?_, h.m0, h.nx, h.few⟩
    · refine h.perm.trans ?_
      show (o ++ (q.held.flatten ++ q.queue.flatten)).Perm (o ++ [s] ++ ((q.held.set x.toNat r).flatten ++ q.queue.flatten))
      rw [flatten_at _ _ hl, flatten_set _ _ hl, hh]
      simp only [List.append_assoc, List.cons_append, List.nil_append]
      exact List.perm_middle.append_left o
    · show (q.held.set x.toNat r).length = q.m
      rw [List.length_set]; exact h.len
  · cases h1

theorem Inv.step_other (h : Inv q i o) {x : Int} {what er : Nat} {s : Sp.T} (hr : q.step x = (what, s, er, q2)) (hw : what ≠ 2) : Inv q2 i o := by
  rcases Iq.step_cases hr with ⟨_, rfl⟩ | ⟨r, h1, _⟩ | ⟨l, ls, _, _, hx0, hx1, hh, hq, rfl⟩
  · exact h
  · exact absurd h1 hw
  · have hl : x.toNat < q.held.length := by have := h.len; omega
    rw [getD_at _ _ hl] at hh
    refine ⟨?_, fun y hy => h.ne y (by rw [hq]; exact List.mem_cons_of_mem _ hy), ?_, h.m0, ?_, h.few⟩
    · refine h.perm.trans ?_
      show (o ++ (q.held.flatten ++ q.queue.flatten)).Perm (o ++ ((q.held.set x.toNat l).flatten ++ ls.flatten))
      rw [flatten_at _ _ hl, flatten_set _ _ hl, hh, hq, List.flatten_cons]
      simp only [List.append_assoc, List.nil_append]
      exact ((List.perm_append_comm_assoc _ _ _).append_left _).append_left o
    · show (q.held.set x.toNat l).length = q.m
      rw [List.length_set]; exact h.len
    · show q.next = q.first + 1 + ls.length
      rw [h.nx, hq, List.length_cons]; omega

theorem Inv.left (h : Inv q i o) : o.length + q.left = i.length := by
  unfold Iq.left
  rw [sumLen_flatten, sumLen_flatten, h.perm.length_eq, List.length_append, List.length_append]
  omega

theorem Inv.runnable (h : Inv q i o) (hl : 0 < q.left) : 0 < q.runnable.length := by
  have key : ∃ k, k < q.m ∧ q.runs k = true := by
    cases hq : q.queue with
    | cons l ls =>
      refine ⟨0, h.m0, ?_⟩
      have := h.nx
      rw [hq, List.length_cons] at this
      unfold Iq.runs
      rw [decide_eq_true (show q.first < q.next by omega), Bool.or_true]
    | nil =>
      have h1 : 0 < q.held.flatten.length := by
        unfold Iq.left at hl
        rw [hq, sumLen_flatten, sumLen_flatten] at hl
        simpa using hl
      have h2 : ∃ l ∈ q.held, l ≠ [] := by
        refine Classical.byContradiction fun hn => ?_
        have : q.held.flatten = [] := List.flatten_eq_nil_iff.2 fun l hl => Classical.byContradiction fun e => hn ⟨l, hl, e⟩
        rw [this] at h1
        simp at h1
      obtain ⟨l, hl1, hl2⟩ := h2
      obtain ⟨k, hk, e⟩ := List.mem_iff_getElem.1 hl1
      refine ⟨k, by have := h.len; omega, ?_⟩
      unfold Iq.runs
      rw [getD_at _ _ hk, e, decide_eq_true (List.length_pos_iff.2 hl2), Bool.true_or]
  obtain ⟨k, hk, hr⟩ := key
  exact List.length_pos_of_mem (a := k) (List.mem_filter.2 ⟨List.mem_range.2 hk, hr⟩)

theorem Inv.step_runs (h : Inv q i o) {k : Nat} (hk : k ∈ q.runnable) {what er : Nat} {s : Sp.T} (hr : q.step (k : Int) = (what, s, er, q2)) :
    er = 0 ∧ (what = 1 ∨ what = 2) ∧ q2.left + 2 * q2.queue.length < q.left + 2 * q.queue.length := by
  obtain ⟨hk1, hk2⟩ := List.mem_filter.1 hk
  have hk1 := List.mem_range.1 hk1
  have hl : k < q.held.length := by have := h.len; omega
  have hn : (k : Int).toNat = k := by omega
  rcases Iq.step_cases hr with ⟨h0, rfl⟩ | ⟨r, h1, h2, _, _, hh, rfl⟩ | ⟨l, ls, h1, h2, _, _, hh, hq, rfl⟩
  · exfalso
    subst h0
    unfold Iq.step at hr
    rw [if_neg (by omega), hn] at hr
    split at hr
    · injection hr with e _; cases e
    · rename_i hh
      split at hr
      · injection hr with e _; cases e
      · rename_i hq
        unfold Iq.runs at hk2
        have := h.nx
        rw [hq] at this
        rw [hh, decide_eq_false (show ¬ q2.first < q2.next by simp at this; omega)] at hk2
        simp at hk2
  · refine ⟨h2, .inr h1, ?_⟩
    rw [hn] at hh ⊢
    rw [getD_at _ _ hl] at hh
    show sumLen q.queue + sumLen (q.held.set k r) + 2 * q.queue.length < sumLen q.queue + sumLen q.held + 2 * q.queue.length
    have e1 := congrArg List.length (flatten_at _ _ hl)
    have e2 := congrArg List.length (flatten_set _ _ hl r)
    rw [hh] at e1
    simp only [List.length_append, List.length_cons, List.cons_append] at e1 e2
    rw [sumLen_flatten (q.held.set k r), sumLen_flatten q.held]
    omega
  · refine ⟨h2, .inl h1, ?_⟩
    rw [hn] at hh ⊢
    rw [getD_at _ _ hl] at hh
    show sumLen ls + sumLen (q.held.set k l) + 2 * ls.length < sumLen q.queue + sumLen q.held + 2 * q.queue.length
    have e1 := congrArg List.length (flatten_at _ _ hl)
    have e2 := congrArg List.length (flatten_set _ _ hl l)
    rw [hh] at e1
    simp only [List.length_append, List.length_nil, List.nil_append] at e1 e2
    rw [sumLen_flatten (q.held.set k l), sumLen_flatten q.held, sumLen_flatten ls, sumLen_flatten q.queue, hq, List.flatten_cons, List.length_append, List.length_cons]
    omega

theorem Inv.done (h : Inv q i o) (hl : q.left = 0) : i.Perm o ∧ q.runnable = [] := by
  have h1 : q.queue.flatten = [] := List.eq_nil_of_length_eq_zero (by unfold Iq.left at hl; rw [sumLen_flatten, sumLen_flatten] at hl; omega)
  have h2 : q.held.flatten = [] := List.eq_nil_of_length_eq_zero (by unfold Iq.left at hl; rw [sumLen_flatten, sumLen_flatten] at hl; omega)
  refine ⟨by have := h.perm; rwa [h1, h2, List.append_nil, List.append_nil] at this, ?_⟩
  have h3 : q.queue = [] := by
    cases hq : q.queue with
    | nil => rfl
    | cons l ls =>
      exfalso
      exact h.ne l (by rw [hq]; exact List.mem_cons_self ..) (List.flatten_eq_nil_iff.1 h1 l (by rw [hq]; exact List.mem_cons_self ..))
  refine List.filter_eq_nil_iff.2 fun k hk => ?_
  have hk := List.mem_range.1 hk
  have hkl : k < q.held.length := by have := h.len; omega
  have h4 : q.held[k] = [] := List.flatten_eq_nil_iff.1 h2 _ (List.getElem_mem _)
  have h5 := h.nx
  rw [h3] at h5
  unfold Iq.runs
  rw [getD_at _ _ hkl, h4, decide_eq_false (show ¬ q.first < q.next by simp at h5; omega)]
  simp

theorem Inv.few_out (h : Inv q i o) : ∀ s ∈ o, s.tags.length ≤ 16 := fun s hs => h.few s (h.perm.symm.subset (List.mem_append_left _ hs))
end
end Go.Proofs.Ytiofhmlmimbngaa
