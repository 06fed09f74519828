/- Merge: what a merger tells, as plain lists. -/
import Derived.Test.YtmpapipobjoboaaMgN
namespace Go.Proofs.Ytmpapipobjoboaa
open Go.RowKit

def Sorted (l : List Ent) : Prop := l.Pairwise fun a b => Ent.cmp a b < 0
def Shown (l : List Hd) (x : Ent) : Prop := ∃ h ∈ l, x ∈ h.l ∧ ∀ h' ∈ l, h'.no < h.no → ∀ y ∈ h'.l, Ent.cmp y x ≠ 0
/-- What heads tell: all entries in order, of the same ones the first row's. -/
structure Tells (l : List Hd) (out : List Ent) : Prop where
  sort : Sorted out
  mem : ∀ x, x ∈ out ↔ Shown l x
def Hsort (l : List Hd) : Prop := ∀ h ∈ l, Sorted h.l

theorem ecmp_anti (a b : Ent) : Ent.cmp b a = - Ent.cmp a b := isCmp_ent.anti a b
theorem ecmp_self (a : Ent) : Ent.cmp a a = 0 := by have := ecmp_anti a a; omega
theorem ecmp_le_tr {a b c : Ent} (h1 : Ent.cmp a b ≤ 0) (h2 : Ent.cmp b c ≤ 0) : Ent.cmp a c ≤ 0 := isCmp_ent.tr a b c h1 h2
theorem ecmp_lt_le {a b c : Ent} (h1 : Ent.cmp a b < 0) (h2 : Ent.cmp b c ≤ 0) : Ent.cmp a c < 0 := by
  have h3 := ecmp_le_tr (a := a) (b := b) (c := c) (by omega) h2
  have h4 := @ecmp_le_tr b c a h2
  have := ecmp_anti a b
  have := ecmp_anti a c
  omega
theorem ecmp_le_lt {a b c : Ent} (h1 : Ent.cmp a b ≤ 0) (h2 : Ent.cmp b c < 0) : Ent.cmp a c < 0 := by
  have h3 := ecmp_le_tr (a := a) (b := b) (c := c) h1 (by omega)
  have h4 := @ecmp_le_tr c a b
  have := ecmp_anti b c
  have := ecmp_anti a c
  have := ecmp_anti a b
  have := ecmp_anti c b
  omega

theorem shown_perm {l l' : List Hd} (h : l.Perm l') (x : Ent) : Shown l x ↔ Shown l' x :=
  ⟨fun ⟨a, h1, h2, h3⟩ => ⟨a, h.mem_iff.1 h1, h2, fun b hb => h3 b (h.mem_iff.2 hb)⟩, fun ⟨a, h1, h2, h3⟩ => ⟨a, h.mem_iff.2 h1, h2, fun b hb => h3 b (h.mem_iff.1 hb)⟩⟩
theorem Tells.perm {l l' : List Hd} {out : List Ent} (h : Tells l out) (hp : l.Perm l') : Tells l' out := ⟨h.sort, fun x => (h.mem x).trans (shown_perm hp x)⟩
theorem Hsort.perm {l l' : List Hd} (h : Hsort l) (hp : l.Perm l') : Hsort l' := fun x hx => h x (hp.mem_iff.2 hx)
theorem Tells.none {out : List Ent} (h : Tells [] out) : out = [] := by
  cases out with
  | nil => rfl
  | cons x r => obtain ⟨_, h1, _⟩ := (h.mem x).1 (List.mem_cons_self ..); cases h1

theorem sorted_first {h : Hd} (hs : Sorted h.l) {x : Ent} (hx : x ∈ h.l) : Ent.cmp h.first x ≤ 0 := by
  unfold Hd.first
  unfold Sorted at hs
  cases hh : h.l with
  | nil => rw [hh] at hx; cases hx
  | cons y r =>
    rw [hh] at hx hs
    rcases List.mem_cons.1 hx with rfl | h1
    · show Ent.cmp x x ≤ 0
      rw [ecmp_self]; omega
    · have := (List.pairwise_cons.1 hs).1 x h1
      show Ent.cmp y x ≤ 0
      omega
theorem sorted_same {out : List Ent} (hs : Sorted out) {x y : Ent} (hx : x ∈ out) (hy : y ∈ out) (h : Ent.cmp x y = 0) : x = y := by
  unfold Sorted at hs
  induction out with
  | nil => cases hx
  | cons a r ih =>
    obtain ⟨h1, h2⟩ := List.pairwise_cons.1 hs
    rcases List.mem_cons.1 hx with rfl | hx'
    · rcases List.mem_cons.1 hy with rfl | hy'
      · rfl
      · have := h1 y hy'; omega
    · rcases List.mem_cons.1 hy with rfl | hy'
      · have := h1 x hx'; have := ecmp_anti y x; omega
      · exact ih h2 hx' hy'

theorem hcmp_le {a b : Hd} (h : hcmp a b ≤ 0) : Ent.cmp a.first b.first ≤ 0 ∧ (Ent.cmp a.first b.first = 0 → a.no ≤ b.no) := by
  unfold hcmp Ent.lex at h
  split at h
  · exact ⟨h, fun e => by omega⟩
  · refine ⟨by omega, fun _ => ?_⟩
    unfold Ent.sgn at h
    split at h
    · omega
    · split at h
      · omega
      · omega

/-- The first one at the top is shown, and none is below it. -/
theorem top_least {l : List Hd} (hs : Hsort l) (hp : HeapFrom l l.length 0) {h : Hd} (hh : h ∈ l) {x : Ent} (hx : x ∈ h.l) : Ent.cmp (hat l 0).first x ≤ 0 := by
  obtain ⟨i, hi, rfl⟩ := List.mem_iff_getElem.1 hh
  have h1 := hcmp_le (hp.top i hi)
  rw [hat_eq hi] at h1
  exact ecmp_le_tr h1.1 (sorted_first (hs _ hh) hx)
theorem top_shown {l : List Hd} (hs : Hsort l) (hok : HOk l) (hp : HeapFrom l l.length 0) (h0 : 0 < l.length) : Shown l (hat l 0).first := by
  refine ⟨hat l 0, hat_mem h0, hd_first_mem (hok.ne _ (hat_mem h0)), fun h' hh' hn y hy hc => ?_⟩
  obtain ⟨i, hi, rfl⟩ := List.mem_iff_getElem.1 hh'
  have h1 := hcmp_le (hp.top i hi)
  rw [hat_eq hi] at h1
  have h2 := sorted_first (hs _ hh') hy
  have h3 := ecmp_le_tr h2 (by omega : Ent.cmp y (hat l 0).first ≤ 0)
  have h4 := ecmp_anti (hat l 0).first l[i].first
  have := h1.2 (by omega)
  omega

theorem shown_tail {f x : Ent} {t : List Ent} {n : Int} {r : List Hd} (hf : Ent.cmp f x ≠ 0) : Shown (⟨f :: t, n⟩ :: r) x ↔ Shown (⟨t, n⟩ :: r) x := by
  have hne : x ≠ f := fun e => hf (by rw [e]; exact ecmp_self f)
  constructor
  · rintro ⟨h, h1, h2, h3⟩
    have key : ∀ m : Int, (∀ h' ∈ (⟨f :: t, n⟩ :: r : List Hd), h'.no < m → ∀ y ∈ h'.l, Ent.cmp y x ≠ 0) → ∀ h' ∈ (⟨t, n⟩ :: r : List Hd), h'.no < m → ∀ y ∈ h'.l, Ent.cmp y x ≠ 0 := by
      intro m hm h' hh' hn y hy
      rcases List.mem_cons.1 hh' with rfl | hh'
      · exact hm _ (List.mem_cons_self ..) hn y (List.mem_cons_of_mem _ hy)
      · exact hm _ (List.mem_cons_of_mem _ hh') hn y hy
    rcases List.mem_cons.1 h1 with rfl | h1
    · exact ⟨⟨t, n⟩, List.mem_cons_self .., (List.mem_cons.1 h2).resolve_left hne, key n h3⟩
    · exact ⟨h, List.mem_cons_of_mem _ h1, h2, key h.no h3⟩
  · rintro ⟨h, h1, h2, h3⟩
    have key : ∀ m : Int, (∀ h' ∈ (⟨t, n⟩ :: r : List Hd), h'.no < m → ∀ y ∈ h'.l, Ent.cmp y x ≠ 0) → ∀ h' ∈ (⟨f :: t, n⟩ :: r : List Hd), h'.no < m → ∀ y ∈ h'.l, Ent.cmp y x ≠ 0 := by
      intro m hm h' hh' hn y hy
      rcases List.mem_cons.1 hh' with rfl | hh'
      · rcases List.mem_cons.1 hy with rfl | hy
        · exact hf
        · exact hm ⟨t, n⟩ (List.mem_cons_self ..) hn y hy
      · exact hm _ (List.mem_cons_of_mem _ hh') hn y hy
    rcases List.mem_cons.1 h1 with rfl | h1
    · exact ⟨⟨f :: t, n⟩, List.mem_cons_self .., List.mem_cons_of_mem _ h2, key n h3⟩
    · exact ⟨h, List.mem_cons_of_mem _ h1, h2, key h.no h3⟩
theorem shown_empty {x : Ent} {n : Int} {r : List Hd} : Shown (⟨[], n⟩ :: r) x ↔ Shown r x := by
  constructor
  · rintro ⟨h, h1, h2, h3⟩
    rcases List.mem_cons.1 h1 with rfl | h1
    · cases h2
    · exact ⟨h, h1, h2, fun h' hh' => h3 h' (List.mem_cons_of_mem _ hh')⟩
  · rintro ⟨h, h1, h2, h3⟩
    refine ⟨h, List.mem_cons_of_mem _ h1, h2, fun h' hh' hn y hy => ?_⟩
    rcases List.mem_cons.1 hh' with rfl | hh'
    · cases hy
    · exact h3 h' hh' hn y hy

/-- What holds of all that steps over e come to. -/
structure Went (e : Ent) (l l1 : List Hd) : Prop where
  ok : HOk l1
  sort : Hsort l1
  shown : ∀ x, Ent.cmp e x < 0 → (Shown l1 x ↔ Shown l x)
  from_ : ∀ h ∈ l1, ∀ x ∈ h.l, Ent.cmp e x ≤ 0

theorem Went.step {e : Ent} {l l1 l2 : List Hd} (h : Went e l l1) (h0 : 0 < l1.length) (hc : Ent.cmp (hat l1 0).first e = 0) (hs : StepTo l1 l2) : Went e l l2 := by
  have hok := (hs.ok h.ok h0).1
  obtain ⟨top, r, rfl⟩ : ∃ x r, l1 = x :: r := by cases l1 with
    | nil => simp at h0
    | cons x r => exact ⟨x, r, rfl⟩
  have e0 : hat (top :: r) 0 = top := rfl
  rw [e0] at hc
  obtain ⟨tl, no⟩ := top
  obtain ⟨f, t, rfl⟩ : ∃ f t, tl = f :: t := by cases tl with
    | nil => exact absurd rfl (h.ok.ne _ (List.mem_cons_self ..))
    | cons f t => exact ⟨f, t, rfl⟩
  have hcf : Ent.cmp f e = 0 := hc
  have hx : ∀ x, Ent.cmp e x < 0 → Ent.cmp f x ≠ 0 := fun x hx => by have := ecmp_le_lt (a := f) (b := e) (c := x) (by omega) hx; omega
  have key : Hsort l2 ∧ (∀ x, Ent.cmp f x ≠ 0 → (Shown l2 x ↔ Shown (⟨t, no⟩ :: r) x)) ∧ ∀ h' ∈ l2, ∀ x ∈ h'.l, ∃ h ∈ (⟨f :: t, no⟩ :: r : List Hd), x ∈ h.l := by
    rcases hs with ⟨h1, h2⟩ | ⟨h1, h2⟩
    · rw [e0] at h1 h2
      have h3 := (List.perm_cons _).1 h2
      have ht : t = [] := List.eq_nil_of_length_eq_zero (by simpa using h1)
      subst ht
      exact ⟨fun y hy => h.sort y (List.mem_cons_of_mem _ (h3.mem_iff.1 hy)), fun x _ => (shown_perm h3 x).trans shown_empty.symm, fun y hy x hxy => ⟨y, List.mem_cons_of_mem _ (h3.mem_iff.1 hy), hxy⟩⟩
    · rw [e0] at h2
      have h3 : l2.Perm (⟨t, no⟩ :: r) := h2
      refine ⟨fun y hy => ?_, fun x _ => shown_perm h3 x, fun y hy x hxy => ?_⟩
      · rcases List.mem_cons.1 (h3.mem_iff.1 hy) with rfl | hy
        · exact (List.pairwise_cons.1 (h.sort _ (List.mem_cons_self ..))).2
        · exact h.sort y (List.mem_cons_of_mem _ hy)
      · rcases List.mem_cons.1 (h3.mem_iff.1 hy) with rfl | hy
        · exact ⟨_, List.mem_cons_self .., List.mem_cons_of_mem _ hxy⟩
        · exact ⟨y, List.mem_cons_of_mem _ hy, hxy⟩
  refine ⟨hok, key.1, fun x hx' => ?_, fun h' hh' x hxh => ?_⟩
  · exact (key.2.1 x (hx x hx')).trans ((shown_tail (hx x hx')).symm.trans (h.shown x hx'))
  · obtain ⟨y, hy, hxy⟩ := key.2.2 h' hh' x hxh
    exact h.from_ y hy x hxy

theorem went_of {l l' : List Hd} (hs : Hsort l) (hok : HOk l) (hp : HeapFrom l l.length 0) (hg : Goes (hat l 0).first l l') : Went (hat l 0).first l l' := by
  induction hg with
  | refl => exact ⟨hok, hs, fun _ _ => Iff.rfl, fun h hh x hx => top_least hs hp hh hx⟩
  | step _ h0 _ hc hst ih => exact ih.step h0 hc hst

/-- Next tells the first one, and what is left tells the others. -/
theorem Tells.next {l l' : List Hd} {out : List Ent} (h : Tells l out) (hs : Hsort l) (hok : HOk l) (hp : HeapFrom l l.length 0) (h0 : 0 < l.length) (hg : Goes (hat l 0).first l l') (hp' : HeapFrom l' l'.length 0)
    (hn : 0 < l'.length → Ent.cmp (hat l' 0).first (hat l 0).first ≠ 0) : ∃ out', out = (hat l 0).first :: out' ∧ Tells l' out' ∧ Hsort l' := by
  have hw := went_of hs hok hp hg
  generalize he : (hat l 0).first = e at *
  have hsh : Shown l e := by rw [← he]; exact top_shown hs hok hp h0
  have hmin : ∀ x, x ∈ out → Ent.cmp e x ≤ 0 := fun x hx => by
    obtain ⟨a, h1, h2, _⟩ := (h.mem x).1 hx
    rw [← he]
    exact top_least hs hp h1 h2
  obtain ⟨o, out', rfl⟩ : ∃ o out', out = o :: out' := by cases out with
    | nil => exact absurd ((h.mem e).2 hsh) (by simp)
    | cons o r => exact ⟨o, r, rfl⟩
  obtain ⟨hs1, hs2⟩ := List.pairwise_cons.1 h.sort
  have hoe : e = o := by
    refine sorted_same h.sort ((h.mem e).2 hsh) (List.mem_cons_self ..) ?_
    have h1 := hmin o (List.mem_cons_self ..)
    rcases List.mem_cons.1 ((h.mem e).2 hsh) with h2 | h2
    · rw [h2]; exact ecmp_self o
    · have := hs1 e h2
      have := ecmp_anti o e
      omega
  subst hoe
  refine ⟨out', rfl, ⟨hs2, fun x => ⟨fun hx => ?_, fun hx => ?_⟩⟩, hw.sort⟩
  · exact (hw.shown x (hs1 x hx)).2 ((h.mem x).1 (List.mem_cons_of_mem _ hx))
  · obtain ⟨a, h1, h2, _⟩ := id hx
    have h3 := hw.from_ a h1 x h2
    have hl : 0 < l'.length := List.length_pos_of_mem h1
    have h4 := top_least hw.sort hp' h1 h2
    have h5 := hn hl
    have h6 : Ent.cmp e x < 0 := by
      rcases Int.lt_or_eq_of_le h3 with h7 | h7
      · exact h7
      · exfalso
        have h8 := ecmp_anti e x
        have h9 := ecmp_le_tr h4 (by omega : Ent.cmp x e ≤ 0)
        have h10 := hw.from_ _ (hat_mem hl) _ (hd_first_mem (hw.ok.ne _ (hat_mem hl)))
        have h11 := ecmp_anti e (hat l' 0).first
        omega
    have h7 := (h.mem x).2 ((hw.shown x h6).1 hx)
    rcases List.mem_cons.1 h7 with rfl | h8
    · rw [ecmp_self] at h6; omega
    · exact h8
end Go.Proofs.Ytmpapipobjoboaa
