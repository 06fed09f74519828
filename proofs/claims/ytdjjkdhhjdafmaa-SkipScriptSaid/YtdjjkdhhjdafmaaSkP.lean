/- The skip list: towers, and what the pointers of each level tell: plain functions, no program. -/
import Derived.Test.YtdjjkdhhjdafmaaOrd
namespace Go.Proofs.Ytdjjkdhhjdafmaa
open Go.RowKit

/-- A tower: its block, its entry, its height. -/
structure Tw where
  b : Nat
  e : Ent
  h : Nat

def Tw.ptr (t : Tw) : Value := .pointer (some ⟨t.b, 0, none⟩)

/-- The next tower that is higher than k. -/
def nxt (k : Nat) : List Tw → Value
  | [] => .pointer none
  | t :: r => if k < t.h then t.ptr else nxt k r

/-- The last tower that is higher than k. -/
def lastH (k : Nat) : List Tw → Option Tw
  | [] => none
  | t :: r => match lastH k r with
    | some x => some x
    | none => if k < t.h then some t else none

theorem nxt_low {k : Nat} : ∀ {l : List Tw} (r : List Tw), (∀ t ∈ l, ¬ k < t.h) → nxt k (l ++ r) = nxt k r
  | [], _, _ => rfl
  | t :: l, r, h => by
    show (if k < t.h then t.ptr else nxt k (l ++ r)) = _
    rw [if_neg (h t (List.mem_cons_self ..))]
    exact nxt_low r fun x hx => h x (List.mem_cons_of_mem _ hx)
theorem nxt_high {k : Nat} : ∀ {l : List Tw} (r r' : List Tw), (∃ t ∈ l, k < t.h) → nxt k (l ++ r) = nxt k (l ++ r')
  | [], _, _, ⟨_, h, _⟩ => by cases h
  | t :: l, r, r', ⟨x, hx, hk⟩ => by
    show (if k < t.h then t.ptr else nxt k (l ++ r)) = (if k < t.h then t.ptr else nxt k (l ++ r'))
    by_cases h : k < t.h
    · rw [if_pos h, if_pos h]
    · rw [if_neg h, if_neg h]
      rcases List.mem_cons.1 hx with rfl | hx
      · exact absurd hk h
      · exact nxt_high r r' ⟨x, hx, hk⟩

theorem lastH_none {k : Nat} : ∀ {l : List Tw}, lastH k l = none → ∀ t ∈ l, ¬ k < t.h
  | [], _, _, h => by cases h
  | x :: r, h, t, ht => by
    unfold lastH at h
    cases hr : lastH k r with
    | some y => rw [hr] at h; cases h
    | none =>
      rw [hr] at h
      simp only at h
      by_cases hx : k < x.h
      · rw [if_pos hx] at h; cases h
      · rcases List.mem_cons.1 ht with rfl | ht
        · exact hx
        · exact lastH_none hr t ht
theorem lastH_some {k : Nat} : ∀ {l : List Tw} {x : Tw}, lastH k l = some x → x ∈ l ∧ k < x.h
  | [], _, h => by cases h
  | y :: r, x, h => by
    unfold lastH at h
    cases hr : lastH k r with
    | some z =>
      rw [hr] at h
      injection h with h
      subst h
      exact ⟨List.mem_cons_of_mem _ (lastH_some hr).1, (lastH_some hr).2⟩
    | none =>
      rw [hr] at h
      simp only at h
      by_cases hy : k < y.h
      · rw [if_pos hy] at h
        injection h with h
        subst h
        exact ⟨List.mem_cons_self .., hy⟩
      · rw [if_neg hy] at h; cases h

/-- The pointers of a tower of height h, the towers behind it being r. -/
def allCells (h : Nat) (r : List Tw) : List Value := (List.range 12).map fun k => if k < h then nxt k r else .pointer none
theorem allCells_len (h : Nat) (r : List Tw) : (allCells h r).length = 12 := by simp [allCells]
theorem allCells_get (h : Nat) (r : List Tw) (k : Nat) (hk : k < 12) : (allCells h r)[k]? = some (if k < h then nxt k r else .pointer none) := by
  simp [allCells, hk]

/-- The cells of a tower's block. -/
def twCells (t : Tw) (vk vv : Value) (r : List Tw) : List Value := entCells t.e vk vv ++ (allCells t.h r ++ [.int .i64 (t.h : Int)])
theorem twCells_len (t : Tw) (vk vv : Value) (r : List Tw) : (twCells t vk vv r).length = 17 := by simp [twCells, entCells, allCells_len]
theorem twCells_all (t : Tw) (vk vv : Value) (r : List Tw) (k : Nat) (hk : k < 12) : (twCells t vk vv r)[4 + k]? = some (if k < t.h then nxt k r else .pointer none) := by
  unfold twCells
  rw [List.getElem?_append_right (by simp [entCells]), show 4 + k - (entCells t.e vk vv).length = k by simp [entCells], List.getElem?_append_left (by rw [allCells_len]; exact hk), allCells_get _ _ _ hk]
theorem twCells_high (t : Tw) (vk vv : Value) (r : List Tw) : (twCells t vk vv r)[16]? = some (.int .i64 (t.h : Int)) := by
  unfold twCells
  rw [List.getElem?_append_right (by simp [entCells]), show 16 - (entCells t.e vk vv).length = 12 by simp [entCells], List.getElem?_append_right (by rw [allCells_len]; omega), allCells_len]
  rfl

/-- What the pointers tell is alike: the cells are alike. -/
theorem twCells_congr (t : Tw) (vk vv : Value) {r r' : List Tw} (h : ∀ k, k < t.h → nxt k r = nxt k r') : twCells t vk vv r = twCells t vk vv r' := by
  unfold twCells allCells
  congr 2
  refine List.map_congr_left fun k _ => ?_
  by_cases hk : k < t.h
  · rw [if_pos hk, if_pos hk, h k hk]
  · rw [if_neg hk, if_neg hk]

/-- One pointer written over. -/
theorem twCells_set (t : Tw) (vk vv v : Value) {r r' : List Tw} (i : Nat) (hi : i < 12) (hit : i < t.h) (h : ∀ k, k < t.h → k ≠ i → nxt k r = nxt k r') (hv : nxt i r' = v) : (twCells t vk vv r).set (4 + i) v = twCells t vk vv r' := by
  refine List.ext_getElem? fun j => ?_
  by_cases hj : j = 4 + i
  · subst hj
    rw [List.getElem?_set_self (by rw [twCells_len]; omega), twCells_all _ _ _ _ _ hi, if_pos hit, hv]
  · rw [List.getElem?_set_ne (fun e => hj e.symm)]
    rcases Nat.lt_or_ge j 4 with h4 | h4
    · unfold twCells
      rw [List.getElem?_append_left (by simp [entCells]; omega), List.getElem?_append_left (by simp [entCells]; omega)]
    · rcases Nat.lt_or_ge j 16 with h16 | h16
      · obtain ⟨k, rfl⟩ : ∃ k, j = 4 + k := ⟨j - 4, by omega⟩
        rw [twCells_all _ _ _ _ _ (by omega), twCells_all _ _ _ _ _ (by omega)]
        by_cases hk : k < t.h
        · rw [if_pos hk, if_pos hk, h k hk (by omega)]
        · rw [if_neg hk, if_neg hk]
      · rcases Nat.lt_or_ge j 17 with h17 | h17
        · obtain rfl : j = 16 := by omega
          rw [twCells_high, twCells_high]
        · rw [List.getElem?_eq_none (by rw [twCells_len]; omega), List.getElem?_eq_none (by rw [twCells_len]; omega)]

theorem nxt_split (k : Nat) : ∀ l : List Tw, (nxt k l = .pointer none ∧ ∀ t ∈ l, ¬ k < t.h) ∨ ∃ l1 t l2, l = l1 ++ t :: l2 ∧ (∀ y ∈ l1, ¬ k < y.h) ∧ k < t.h ∧ nxt k l = t.ptr
  | [] => .inl ⟨rfl, fun _ h => by cases h⟩
  | x :: r => by
    by_cases hx : k < x.h
    · exact .inr ⟨[], x, r, rfl, (fun _ h => by cases h), hx, if_pos hx⟩
    · have e : nxt k (x :: r) = nxt k r := if_neg hx
      rcases nxt_split k r with ⟨h1, h2⟩ | ⟨l1, t, l2, h1, h2, h3, h4⟩
      · exact .inl ⟨e.trans h1, fun t ht => by rcases List.mem_cons.1 ht with rfl | ht; exact hx; exact h2 t ht⟩
      · exact .inr ⟨x :: l1, t, l2, by rw [h1]; rfl, fun y hy => by rcases List.mem_cons.1 hy with rfl | hy; exact hx; exact h2 y hy, h3, e.trans h4⟩

theorem lastH_append (k : Nat) (r : List Tw) : ∀ l : List Tw, lastH k (l ++ r) = match lastH k r with | some x => some x | none => lastH k l
  | [] => by cases h : lastH k r <;> simp [lastH, h]
  | x :: l => by
    have ih := lastH_append k r l
    show (match lastH k (l ++ r) with | some y => some y | none => if k < x.h then some x else none) = _
    rw [ih]
    cases h : lastH k r with
    | some y => rfl
    | none => rfl
theorem lastH_low {k : Nat} : ∀ {l : List Tw}, (∀ t ∈ l, ¬ k < t.h) → lastH k l = none
  | [], _ => rfl
  | x :: r, h => by
    unfold lastH
    rw [lastH_low fun t ht => h t (List.mem_cons_of_mem _ ht)]
    simp only
    rw [if_neg (h x (List.mem_cons_self ..))]

/-- What is behind the last tower that is higher than k. -/
def restH (k : Nat) : List Tw → Option (List Tw)
  | [] => none
  | t :: r => match restH k r with
    | some s => some s
    | none => if k < t.h then some r else none
theorem restH_low {k : Nat} : ∀ {l : List Tw}, (∀ t ∈ l, ¬ k < t.h) → restH k l = none
  | [], _ => rfl
  | x :: r, h => by
    unfold restH
    rw [restH_low fun t ht => h t (List.mem_cons_of_mem _ ht)]
    simp only
    rw [if_neg (h x (List.mem_cons_self ..))]
theorem restH_split {k : Nat} (t : Tw) (l2 : List Tw) (ht : k < t.h) : ∀ l1 : List Tw, (restH k (l1 ++ t :: l2)).getD (l1 ++ t :: l2) = (restH k l2).getD l2
  | [] => by
    show (match restH k l2 with | some s => some s | none => if k < t.h then some l2 else none).getD _ = _
    cases h : restH k l2 with
    | some s => rfl
    | none => simp [ht]
  | x :: l1 => by
    have ih := restH_split t l2 ht l1
    have hs : ∀ l1 : List Tw, (restH k (l1 ++ t :: l2)).isSome = true := by
      intro l1
      induction l1 with
      | nil =>
        show (match restH k l2 with | some s => some s | none => if k < t.h then some l2 else none).isSome = true
        cases h : restH k l2 with
        | some s => rfl
        | none => simp [ht]
      | cons y l1 ih =>
        show (match restH k (l1 ++ t :: l2) with | some s => some s | none => if k < y.h then some (l1 ++ t :: l2) else none).isSome = true
        cases h : restH k (l1 ++ t :: l2) with
        | some s => rfl
        | none => rw [h] at ih; cases ih
    have h1 := hs l1
    show (match restH k (l1 ++ t :: l2) with | some s => some s | none => if k < x.h then some (l1 ++ t :: l2) else none).getD _ = _
    cases h : restH k (l1 ++ t :: l2) with
    | some s => rw [h] at ih; exact ih
    | none => rw [h] at h1; cases h1

/-- How many steps it takes from level L on (L levels being left), the towers ahead being rest. -/
def stepsOf : Nat → List Tw → Nat
  | 0, _ => 0
  | L + 1, rest => rest.countP (fun t => decide (L < t.h)) + 1 + stepsOf L ((restH L rest).getD rest)
theorem stepsOf_move {L : Nat} {l1 : List Tw} {t : Tw} {l2 : List Tw} (h1 : ∀ y ∈ l1, ¬ L < y.h) (ht : L < t.h) : stepsOf (L + 1) (l1 ++ t :: l2) = 1 + stepsOf (L + 1) l2 := by
  unfold stepsOf
  rw [restH_split t l2 ht l1, List.countP_append, List.countP_cons]
  have h0 : l1.countP (fun t => decide (L < t.h)) = 0 := List.countP_eq_zero.2 fun y hy => by simpa using h1 y hy
  rw [h0, if_pos (by simpa using ht)]
  omega
theorem stepsOf_down {L : Nat} {l : List Tw} (h : ∀ y ∈ l, ¬ L < y.h) : stepsOf (L + 1) l = 1 + stepsOf L l := by
  unfold stepsOf
  rw [restH_low h, List.countP_eq_zero.2 fun y hy => by simpa using h y hy]
  cases L <;> simp [stepsOf]

/-- The towers ahead of e, and those behind. -/
def ahead (e : Ent) (ts : List Tw) : List Tw := ts.takeWhile fun t => decide (Ent.cmp t.e e < 0)
def behind (e : Ent) (ts : List Tw) : List Tw := ts.dropWhile fun t => decide (Ent.cmp t.e e < 0)
theorem ahead_behind (e : Ent) (ts : List Tw) : ahead e ts ++ behind e ts = ts := List.takeWhile_append_dropWhile
theorem ahead_lt (e : Ent) : ∀ (ts : List Tw), ∀ t ∈ ahead e ts, Ent.cmp t.e e < 0
  | [], t, h => by cases h
  | x :: r, t, h => by
    unfold ahead at h
    rw [List.takeWhile_cons] at h
    by_cases hx : Ent.cmp x.e e < 0
    · rw [decide_eq_true hx] at h
      rcases List.mem_cons.1 h with rfl | h
      · exact hx
      · exact ahead_lt e r t h
    · rw [decide_eq_false hx] at h; cases h
/-- By rising order, none twice. -/
def Rising (ts : List Tw) : Prop := ts.Pairwise fun a b => Ent.cmp a.e b.e < 0
theorem behind_ge (e : Ent) : ∀ (ts : List Tw), Rising ts → ∀ t ∈ behind e ts, ¬ Ent.cmp t.e e < 0
  | [], _, t, h => by cases h
  | x :: r, hs, t, h => by
    obtain ⟨s1, s2⟩ := List.pairwise_cons.1 hs
    unfold behind at h
    rw [List.dropWhile_cons] at h
    by_cases hx : Ent.cmp x.e e < 0
    · rw [decide_eq_true hx] at h
      exact behind_ge e r s2 t h
    · rw [decide_eq_false hx] at h
      rcases List.mem_cons.1 h with rfl | h
      · exact hx
      · intro ht
        have h1 := s1 t h
        exact hx (by
          have h2 := isCmp_ent.tr x.e t.e e (by omega) (by omega)
          have h3 := isCmp_ent.tr t.e e x.e (by omega)
          have h4 := isCmp_ent.anti x.e e
          have h5 := isCmp_ent.anti x.e t.e
          by_cases h6 : Ent.cmp x.e e < 0
          · exact h6
          · have := h3 (by omega); omega)
end Go.Proofs.Ytdjjkdhhjdafmaa
