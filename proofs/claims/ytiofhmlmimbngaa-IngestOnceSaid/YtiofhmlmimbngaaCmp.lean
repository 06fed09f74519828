/- Chapter 17: the order of spans, as a plain function: it is an order, and tells spans apart; lists in order. -/
import Derived.Test.YtiofhmlmimbngaaRef17B
namespace Go.Proofs.Ytiofhmlmimbngaa
open Go.RowKit

namespace Sp
def lex (x y : Int) : Int := if x ≠ 0 then x else y
def sgn (a b : Int) : Int := if a < b then -1 else if b < a then 1 else 0
def scmp (a b : ByteArray) : Int := if less a b = true then -1 else if less b a = true then 1 else 0
def truth (b : Bool) : Int := if b then 1 else 0
def lcmp {α : Type} (c : α → α → Int) : List α → List α → Int
  | [], [] => 0
  | [], _ :: _ => -1
  | _ :: _, [] => 1
  | x :: xs, y :: ys => lex (c x y) (lcmp c xs ys)
def tagCmp (s t : Tag) : Int := lex (scmp s.key t.key) (scmp s.value t.value)
def firstNz : List Int → Int
  | [] => 0
  | x :: r => lex x (firstNz r)
def cells (a b : T) : List Int := [sgn a.hi b.hi, sgn a.lo b.lo, sgn a.id b.id, sgn a.parent b.parent, sgn a.start b.start, sgn a.length b.length, scmp a.service b.service, scmp a.name b.name, sgn a.kind b.kind, sgn (truth a.fails) (truth b.fails), lcmp tagCmp a.tags b.tags]
def cmp (a b : T) : Int := firstNz (cells a b)
end Sp

/-- c tells of an order: turned, it turns its sign; 'not above' carries on. -/
structure IsCmp {α : Type} (c : α → α → Int) : Prop where
  anti : ∀ a b, c b a = - c a b
  tr : ∀ a b d, c a b ≤ 0 → c b d ≤ 0 → c a d ≤ 0

theorem lex_anti {x y x' y' : Int} (h1 : x' = -x) (h2 : y' = -y) : Sp.lex x' y' = - Sp.lex x y := by
  unfold Sp.lex
  split <;> split <;> omega

theorem IsCmp.lex_tr {α : Type} {c : α → α → Int} (h : IsCmp c) (x y z : α) (p q r : Int) (ht : p ≤ 0 → q ≤ 0 → r ≤ 0) : Sp.lex (c x y) p ≤ 0 → Sp.lex (c y z) q ≤ 0 → Sp.lex (c x z) r ≤ 0 := by
  have t1 := h.tr x y z
  have t2 := h.tr y z x
  have t3 := h.tr z x y
  have a1 := h.anti x y
  have a2 := h.anti y z
  have a3 := h.anti x z
  rw [a3, a1] at t2
  rw [a3, a2] at t3
  unfold Sp.lex
  generalize c x y = u at *
  generalize c y z = v at *
  generalize c x z = t at *
  intro h1 h2
  split at h1 <;> split at h2 <;> split
  all_goals first
    | exact t1 (by omega) (by omega)
    | (exact ht (by omega) (by omega))
    | (by_cases h5 : t ≤ 0
       · exact h5
       · exfalso
         have := t1 (by omega) (by omega)
         omega)
    | (by_cases hu : u ≤ 0
       · by_cases hv : v ≤ 0
         · have := t1 hu hv
           by_cases hw : -t ≤ 0
           · have := t2 hv hw
             have := t3 hw hu
             omega
           · omega
         · omega
       · omega)

theorem IsCmp.lex {α : Type} {c d : α → α → Int} (h : IsCmp c) (k : IsCmp d) : IsCmp fun a b => Sp.lex (c a b) (d a b) where
  anti a b := lex_anti (h.anti a b) (k.anti a b)
  tr a b e := h.lex_tr a b e _ _ _ (k.tr a b e)
theorem IsCmp.comap {α β : Type} {c : α → α → Int} (h : IsCmp c) (f : β → α) : IsCmp fun a b => c (f a) (f b) where
  anti a b := h.anti _ _
  tr a b e := h.tr _ _ _
theorem isCmp_zero {α : Type} : IsCmp fun (_ _ : α) => (0 : Int) where
  anti _ _ := rfl
  tr _ _ _ _ h := h
theorem isCmp_sgn : IsCmp Sp.sgn where
  anti a b := by unfold Sp.sgn; split <;> split <;> (try split) <;> omega
  tr a b d := by unfold Sp.sgn; split <;> split <;> (try split) <;> (try split) <;> (try split) <;> omega

theorem less_anti {a b : ByteArray} (h : Sp.less a b = true) : Sp.less b a = false := by
  have := bless_tot a.toList b.toList
  unfold Sp.less at *
  rw [h] at this
  simpa using this.symm
theorem bless_tr : ∀ (x y z : List UInt8), Op.bytesLess y x = false → Op.bytesLess z y = false → Op.bytesLess z x = false
  | _, _, [], _, h2 => by
    rename_i x y h1
    cases y with
    | nil => exact h1
    | cons _ _ => cases h2
  | [], _, _ :: _, _, _ => rfl
  | _ :: _, [], _ :: _, h1, _ => by cases h1
  | a :: x, b :: y, c :: z, h1, h2 => by
    have ih := bless_tr x y z
    simp only [Op.bytesLess, Bool.or_eq_false_iff, Bool.and_eq_false_iff, decide_eq_false_iff_not] at h1 h2 ⊢
    obtain ⟨p1, p2⟩ := h1
    obtain ⟨q1, q2⟩ := h2
    rw [UInt8.lt_iff_toNat_lt] at p1 q1 ⊢
    refine ⟨by omega, ?_⟩
    by_cases e1 : b = a
    · by_cases e2 : c = b
      · refine .inr (ih ?_ ?_)
        · rcases p2 with p2 | p2
          · exact absurd e1 (by simpa using p2)
          · exact p2
        · rcases q2 with q2 | q2
          · exact absurd e2 (by simpa using q2)
          · exact q2
      · left
        subst e1
        simpa using e2
    · left
      by_cases e3 : c = a
      · subst e3
        exact absurd (UInt8.toNat_inj.1 (by omega)) e1
      · simpa using e3

theorem isCmp_scmp : IsCmp Sp.scmp where
  anti a b := by
    have h1 := @less_anti a b
    have h2 := @less_anti b a
    unfold Sp.scmp
    cases h : Sp.less a b <;> cases k : Sp.less b a <;> simp_all
  tr a b d h1 h2 := by
    have g1 := @less_anti b a
    have e : ∀ x y, Sp.scmp x y ≤ 0 ↔ Sp.less y x = false := by
      intro x y
      have h1 := @less_anti x y
      unfold Sp.scmp
      cases h : Sp.less x y <;> cases k : Sp.less y x <;> simp_all
    rw [e] at *
    exact bless_tr _ _ _ h1 h2

theorem scmp_zero {a b : ByteArray} (h : Sp.scmp a b = 0) : a = b := by
  have ht := bless_tot a.toList b.toList
  have h1 : Sp.less a b = false := by cases k : Sp.less a b with | false => rfl | true => unfold Sp.scmp at h; rw [k] at h; cases h
  have h2 : Sp.less b a = false := by cases k : Sp.less b a with | false => rfl | true => unfold Sp.scmp at h; rw [k, h1] at h; cases h
  unfold Sp.less at h1 h2
  rw [h1, h2] at ht
  have e : a.toList = b.toList := by simpa using ht
  rw [ByteArray.toList_eq, ByteArray.toList_eq] at e
  exact ByteArray.ext (Array.ext' e)
theorem sgn_zero {a b : Int} (h : Sp.sgn a b = 0) : a = b := by
  unfold Sp.sgn at h
  split at h
  · omega
  · split at h <;> omega
theorem truth_zero {a b : Bool} (h : Sp.sgn (Sp.truth a) (Sp.truth b) = 0) : a = b := by
  have := sgn_zero h
  cases a <;> cases b <;> simp_all [Sp.truth]
theorem lex_zero {x y : Int} (h : Sp.lex x y = 0) : x = 0 ∧ y = 0 := by
  unfold Sp.lex at h
  split at h <;> omega

theorem isCmp_lcmp {α : Type} {c : α → α → Int} (h : IsCmp c) : IsCmp (Sp.lcmp c) where
  anti := by
    intro a
    induction a with
    | nil => intro b; cases b <;> rfl
    | cons x xs ih =>
      intro b
      cases b with
      | nil => rfl
      | cons y ys => exact lex_anti (h.anti x y) (ih ys)
  tr := by
    intro a
    induction a with
    | nil =>
      intro b d h1 h2
      cases d with
      | nil => exact Int.le_refl _
      | cons _ _ => show (-1 : Int) ≤ 0; omega
    | cons x xs ih =>
      intro b d h1 h2
      cases b with
      | nil => have : (1 : Int) ≤ 0 := h1; omega
      | cons y ys =>
        cases d with
        | nil => have : (1 : Int) ≤ 0 := h2; omega
        | cons z zs => exact h.lex_tr x y z _ _ _ (ih ys zs) h1 h2
theorem lcmp_zero {α : Type} {c : α → α → Int} (hc : ∀ x y, c x y = 0 → x = y) : ∀ {a b : List α}, Sp.lcmp c a b = 0 → a = b
  | [], [], _ => rfl
  | [], _ :: _, h => by cases h
  | _ :: _, [], h => by cases h
  | x :: xs, y :: ys, h => by
    obtain ⟨h1, h2⟩ := lex_zero h
    rw [hc x y h1, lcmp_zero hc h2]

theorem isCmp_tag : IsCmp Sp.tagCmp := (isCmp_scmp.comap Sp.Tag.key).lex (isCmp_scmp.comap Sp.Tag.value)
theorem tagCmp_zero (s t : Sp.Tag) (h : Sp.tagCmp s t = 0) : s = t := by
  obtain ⟨h1, h2⟩ := lex_zero h
  cases s; cases t
  have e1 := scmp_zero h1
  have e2 := scmp_zero h2
  simp only at e1 e2
  rw [e1, e2]

theorem isCmp_cmp : IsCmp Sp.cmp :=
  (isCmp_sgn.comap Sp.T.hi).lex ((isCmp_sgn.comap Sp.T.lo).lex ((isCmp_sgn.comap Sp.T.id).lex ((isCmp_sgn.comap Sp.T.parent).lex ((isCmp_sgn.comap Sp.T.start).lex ((isCmp_sgn.comap Sp.T.length).lex
    ((isCmp_scmp.comap Sp.T.service).lex ((isCmp_scmp.comap Sp.T.name).lex ((isCmp_sgn.comap Sp.T.kind).lex ((isCmp_sgn.comap fun s : Sp.T => Sp.truth s.fails).lex (((isCmp_lcmp isCmp_tag).comap Sp.T.tags).lex isCmp_zero))))))))))

theorem cmp_zero {a b : Sp.T} (h : Sp.cmp a b = 0) : a = b := by
  obtain ⟨h1, h⟩ := lex_zero (show Sp.lex _ _ = 0 from h)
  obtain ⟨h2, h⟩ := lex_zero (show Sp.lex _ _ = 0 from h)
  obtain ⟨h3, h⟩ := lex_zero (show Sp.lex _ _ = 0 from h)
  obtain ⟨h4, h⟩ := lex_zero (show Sp.lex _ _ = 0 from h)
  obtain ⟨h5, h⟩ := lex_zero (show Sp.lex _ _ = 0 from h)
  obtain ⟨h6, h⟩ := lex_zero (show Sp.lex _ _ = 0 from h)
  obtain ⟨h7, h⟩ := lex_zero (show Sp.lex _ _ = 0 from h)
  obtain ⟨h8, h⟩ := lex_zero (show Sp.lex _ _ = 0 from h)
  obtain ⟨h9, h⟩ := lex_zero (show Sp.lex _ _ = 0 from h)
  obtain ⟨h10, h⟩ := lex_zero (show Sp.lex _ _ = 0 from h)
  obtain ⟨h11, h⟩ := lex_zero (show Sp.lex _ _ = 0 from h)
  have e1 := sgn_zero h1
  have e2 := sgn_zero h2
  have e3 := sgn_zero h3
  have e4 := sgn_zero h4
  have e5 := sgn_zero h5
  have e6 := sgn_zero h6
  have e7 := scmp_zero h7
  have e8 := scmp_zero h8
  have e9 := sgn_zero h9
  have e10 := truth_zero h10
  have e11 := lcmp_zero tagCmp_zero h11
  cases a; cases b
  simp only at e1 e2 e3 e4 e5 e6 e7 e8 e9 e10 e11
  subst e1 e2 e3 e4 e5 e6 e7 e8 e9 e10 e11
  rfl

/-- In order. -/
def Sorted (l : List Sp.T) : Prop := l.Pairwise fun a b => Sp.cmp a b ≤ 0

theorem sorted_same : ∀ {l m : List Sp.T}, l.Perm m → Sorted l → Sorted m → l = m
  | [], m, h, _, _ => (List.nil_perm.1 h).symm
  | x :: xs, [], h, _, _ => by cases List.perm_nil.1 h
  | x :: xs, y :: ys, h, h1, h2 => by
    obtain ⟨g1, g2⟩ := List.pairwise_cons.1 h1
    obtain ⟨k1, k2⟩ := List.pairwise_cons.1 h2
    have hx : x ∈ y :: ys := h.subset (List.mem_cons_self ..)
    have hy : y ∈ x :: xs := h.symm.subset (List.mem_cons_self ..)
    have e : x = y := by
      rcases List.mem_cons.1 hx with e | e
      · exact e
      · rcases List.mem_cons.1 hy with e' | e'
        · exact e'.symm
        · have a1 := g1 y e'
          have a2 := k1 x e
          have a3 := isCmp_cmp.anti x y
          exact cmp_zero (by omega)
    subst e
    rw [sorted_same (List.perm_cons x |>.1 h) g2 k2]

theorem sorted_insert {l : List Sp.T} {x : Sp.T} (k : Nat) (h : Sorted l) (hk : k ≤ l.length) (h1 : ∀ y ∈ l.drop k, Sp.cmp x y < 0) (h2 : ∀ (h : 0 < k), ¬ Sp.cmp x (l[k - 1]'(by omega)) < 0) : Sorted (l.take k ++ x :: l.drop k) := by
  have hs : Sorted (l.take k ++ l.drop k) := by rw [List.take_append_drop]; exact h
  obtain ⟨s1, s2, s3⟩ := List.pairwise_append.1 hs
  refine List.pairwise_append.2 ⟨s1, List.pairwise_cons.2 ⟨fun y hy => by have := h1 y hy; omega, s2⟩, ?_⟩
  intro a ha b hb
  rcases List.mem_cons.1 hb with rfl | hb
  · obtain ⟨i, hi, e⟩ := List.mem_iff_getElem.1 ha
    rw [List.length_take] at hi
    rw [List.getElem_take] at e
    have hk0 : 0 < k := by omega
    have hx : Sp.cmp (l[k - 1]'(by omega)) b ≤ 0 := by
      have a1 := h2 hk0
      have a2 := isCmp_cmp.anti b (l[k - 1]'(by omega))
      omega
    by_cases hik : i = k - 1
    · subst hik; rw [← e]; exact hx
    · refine isCmp_cmp.tr _ _ _ ?_ hx
      rw [← e]
      exact List.pairwise_iff_getElem.1 h i (k - 1) (by omega) (by omega) (by omega)
  · exact s3 a ha b hb

theorem insert_perm {l : List Sp.T} {x : Sp.T} (k : Nat) : (l.take k ++ x :: l.drop k).Perm (l ++ [x]) := by
  refine List.perm_middle.trans ?_
  rw [List.take_append_drop]
  exact (List.perm_append_singleton x l).symm
end Go.Proofs.Ytiofhmlmimbngaa
