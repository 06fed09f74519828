/- Merge: heads of rows, and a heap of them, as plain lists. -/
import Derived.Test.YtmpapipobjoboaaOrd
namespace Go.Proofs.Ytmpapipobjoboaa
open Go.RowKit

/-- What is left of a row, and the row's number. -/
structure Hd where
  l : List Ent
  no : Int
def Hd.none : Hd := ⟨[], 0⟩
def Hd.first (h : Hd) : Ent := h.l.headD ⟨[], 0, 0, []⟩
/-- The order of heads: by their first entries, then by number. -/
def hcmp (a b : Hd) : Int := Ent.lex (Ent.cmp a.first b.first) (Ent.sgn a.no b.no)
theorem isCmp_hd : IsCmp hcmp := (isCmp_ent.comap Hd.first).lex (isCmp_sgn.comap Hd.no)
theorem hcmp_self (a : Hd) : hcmp a a = 0 := by have := isCmp_hd.anti a a; omega

def hat (l : List Hd) (i : Nat) : Hd := l.getD i Hd.none
theorem hat_eq {l : List Hd} {i : Nat} (h : i < l.length) : hat l i = l[i] := by simp [hat, h]
def swp (l : List Hd) (i j : Nat) : List Hd := (l.set i (hat l j)).set j (hat l i)
theorem swp_len (l : List Hd) (i j : Nat) : (swp l i j).length = l.length := by simp [swp]
theorem swp_at {l : List Hd} {i j : Nat} (hi : i < l.length) (hj : j < l.length) (k : Nat) : hat (swp l i j) k = if k = j then hat l i else if k = i then hat l j else hat l k := by
  unfold hat swp
  simp only [List.getD_eq_getElem?_getD, List.getElem?_set, List.length_set]
  by_cases h1 : k = j
  · subst h1; simp [hat, hj]
  · by_cases h2 : k = i
    · subst h2; simp [hat, h1, Ne.symm h1, hi]
    · simp [h1, h2, Ne.symm h1, Ne.symm h2]
theorem swp_self {l : List Hd} {i : Nat} : swp l i i = l := by
  unfold swp
  by_cases hi : i < l.length
  · rw [List.set_set, hat_eq hi]; simp
  · rw [List.set_eq_of_length_le (by simp; omega), List.set_eq_of_length_le (by omega)]
theorem swp_perm {l : List Hd} {i j : Nat} (hi : i < l.length) (hj : j < l.length) : (swp l i j).Perm l := by
  unfold swp
  rw [hat_eq hi, hat_eq hj]
  exact List.set_set_perm hi hj

/-- The heap's order, for all pairs whose upper one stands from i0 on. -/
def HeapFrom (l : List Hd) (n i0 : Nat) : Prop := ∀ j, 0 < j → j < n → i0 ≤ (j - 1) / 2 → hcmp (hat l ((j - 1) / 2)) (hat l j) ≤ 0
/-- The same, while the one at i sinks. -/
def Sift (l : List Hd) (n i0 i : Nat) : Prop :=
  (∀ j, 0 < j → j < n → i0 ≤ (j - 1) / 2 → (j - 1) / 2 ≠ i → hcmp (hat l ((j - 1) / 2)) (hat l j) ≤ 0) ∧
  ∀ j, 0 < j → j < n → (j - 1) / 2 = i → 0 < i → i0 ≤ (i - 1) / 2 → hcmp (hat l ((i - 1) / 2)) (hat l j) ≤ 0
/-- The lesser child. -/
def Child (l : List Hd) (n i j : Nat) : Prop := j < n ∧ (j = 2 * i + 1 ∨ j = 2 * i + 2) ∧ ∀ k, k < n → k = 2 * i + 1 ∨ k = 2 * i + 2 → hcmp (hat l j) (hat l k) ≤ 0

theorem Sift.start {l : List Hd} {n i0 : Nat} (h : HeapFrom l n (i0 + 1)) : Sift l n i0 i0 :=
  ⟨fun j h1 h2 h3 h4 => h j h1 h2 (by omega), fun _ _ _ _ h5 h6 => by omega⟩
theorem Sift.done {l : List Hd} {n i0 i : Nat} (h : Sift l n i0 i) (hn : n ≤ 2 * i + 1) : HeapFrom l n i0 :=
  fun j h1 h2 h3 => h.1 j h1 h2 h3 (by omega)
theorem Sift.stop {l : List Hd} {n i0 i j : Nat} (h : Sift l n i0 i) (hc : Child l n i j) (hl : ¬ hcmp (hat l j) (hat l i) < 0) : HeapFrom l n i0 := by
  intro k h1 h2 h3
  by_cases e : (k - 1) / 2 = i
  · rw [e]
    have h4 := hc.2.2 k h2 (by omega)
    have h5 := isCmp_hd.anti (hat l j) (hat l i)
    exact isCmp_hd.tr _ _ _ (by omega) h4
  · exact h.1 k h1 h2 h3 e
theorem Sift.step {l : List Hd} {n i0 i j : Nat} (h : Sift l n i0 i) (hc : Child l n i j) (hn : n ≤ l.length) (h0 : i0 ≤ i) (hl : hcmp (hat l j) (hat l i) < 0) : Sift (swp l i j) n i0 j := by
  obtain ⟨hj, hjc, hmin⟩ := hc
  have hi : i < l.length := by omega
  have hij : i ≠ j := by omega
  refine ⟨fun k h1 h2 h3 h4 => ?_, fun k h1 h2 h3 h4 h5 => ?_⟩
  · rw [swp_at hi (by omega), swp_at hi (by omega), if_neg h4]
    by_cases e : (k - 1) / 2 = i
    · rw [if_pos e]
      by_cases ek : k = j
      · rw [if_pos ek]; omega
      · rw [if_neg ek, if_neg (by omega)]
        exact hmin k h2 (by omega)
    · rw [if_neg e, if_neg (by omega)]
      by_cases ek : k = i
      · rw [if_pos ek, ek]
        exact h.2 j (by omega) hj (by omega) (by omega) (by omega)
      · rw [if_neg ek]
        exact h.1 k h1 h2 h3 e
  · have e : (j - 1) / 2 = i := by omega
    rw [e, swp_at hi (by omega), swp_at hi (by omega), if_neg (by omega), if_pos rfl, if_neg (by omega), if_neg (by omega), ← h3]
    exact h.1 k h1 h2 (by omega) (by omega)

/-- At the top stands the least one. -/
theorem HeapFrom.top {l : List Hd} {n : Nat} (h : HeapFrom l n 0) : ∀ j, j < n → hcmp (hat l 0) (hat l j) ≤ 0 := by
  intro j
  induction j using Nat.strongRecOn with
  | _ j ih =>
    intro hj
    by_cases h0 : j = 0
    · subst h0; rw [hcmp_self]; omega
    · exact isCmp_hd.tr _ _ _ (ih ((j - 1) / 2) (by omega) (by omega)) (h j (by omega) hj (by omega))
theorem HeapFrom.half (l : List Hd) (n i : Nat) (h : n ≤ 2 * i + 1) : HeapFrom l n i := fun j h1 h2 h3 => by omega
theorem HeapFrom.cut {l l' : List Hd} {n i0 : Nat} (h : HeapFrom l n i0) (he : ∀ k, k < n → i0 ≤ k → hat l' k = hat l k) : HeapFrom l' n i0 := fun j h1 h2 h3 => by
  rw [he _ (by omega) h3, he j h2 (by omega)]
  exact h j h1 h2 h3
end Go.Proofs.Ytmpapipobjoboaa
