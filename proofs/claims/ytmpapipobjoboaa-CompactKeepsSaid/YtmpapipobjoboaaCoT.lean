/- The law CompactKeeps, plain: what is seen is the same ahead and behind; compacting again changes nothing. -/
import Derived.Test.YtmpapipobjoboaaCoL
namespace Go.Proofs.Ytmpapipobjoboaa
open Go.RowKit

theorem sorted_fall {l : List Ent} (hs : Sorted l) {i j : Nat} (hij : i < j) (hj : j < l.length) (hk : (eat l i).key = (eat l j).key) : (eat l j).seq < (eat l i).seq := by
  have h5 := sorted_eat hs hij hj
  by_cases h6 : (eat l i).seq = (eat l j).seq
  · rw [ecmp_of hk h6] at h5; omega
  · by_cases h7 : (eat l i).seq < (eat l j).seq
    · have h8 := ecmp_key hk.symm h7
      have h9 := ecmp_anti (eat l i) (eat l j)
      omega
    · omega
theorem newer_first {l : List Ent} (hs : Sorted l) {i j : Nat} (hi : i < l.length) (hj : j < l.length) (hk : (eat l j).key = (eat l i).key) (h : (eat l i).seq < (eat l j).seq) : j < i := by
  by_cases h1 : j = i
  · subst h1; omega
  · by_cases h2 : i < j
    · have := sorted_fall hs h2 hj hk.symm; omega
    · omega
theorem mem_eat {l : List Ent} {x : Ent} : x ∈ l ↔ ∃ i, i < l.length ∧ x = eat l i := by
  constructor
  · intro h
    obtain ⟨i, hi, rfl⟩ := List.mem_iff_getElem.1 h
    exact ⟨i, hi, eat_eq hi⟩
  · rintro ⟨i, hi, rfl⟩
    rw [← eat_eq hi]; exact List.getElem_mem hi
/-- Does somebody who looks see an entry (a delete, too)? -/
def VisM (W : List Int) (l : List Ent) (x : Ent) : Prop := ∃ a ∈ W, x.seq ≤ a ∧ ∀ y ∈ l, y.key = x.key → x.seq < y.seq → a < y.seq
theorem vis_mem {W : List Int} {l : List Ent} (hs : Sorted l) {i : Nat} (hi : i < l.length) : VisP W l i ↔ VisM W l (eat l i) := by
  constructor
  · rintro ⟨a, ha, h1, h2⟩
    refine ⟨a, ha, h1, fun y hy hk hlt => ?_⟩
    obtain ⟨j, hj, rfl⟩ := mem_eat.1 hy
    have hji := newer_first hs hi hj hk hlt
    by_cases e : j = i - 1
    · subst e
      by_cases h3 : (eat l (i - 1)).seq ≤ a
      · exact absurd ⟨by omega, hk, h3⟩ h2
      · omega
    · obtain ⟨k1, k2⟩ := key_between (sorted_eat hs (show j < i - 1 by omega) (by omega)) (sorted_eat hs (show i - 1 < i by omega) hi) hk
      by_cases h3 : (eat l (i - 1)).seq ≤ a
      · exact absurd ⟨by omega, k1, h3⟩ h2
      · omega
  · rintro ⟨a, ha, h1, h2⟩
    refine ⟨a, ha, h1, ?_⟩
    rintro ⟨h3, h4, h5⟩
    have := h2 _ (mem_eat.2 ⟨i - 1, by omega, rfl⟩) h4 (sorted_fall hs (by omega) hi h4)
    omega
theorem mem_keepTo {f : Nat → Bool} {l : List Ent} {x : Ent} : ∀ {j : Nat}, x ∈ keepTo f l j ↔ ∃ i, i < j ∧ f i = true ∧ x = eat l i
  | 0 => by simp [keepTo]
  | j + 1 => by
    rw [keepTo_succ, List.mem_append, mem_keepTo]
    constructor
    · rintro (⟨i, h1, h2⟩ | h)
      · exact ⟨i, by omega, h2⟩
      · split at h
        · rename_i hf
          exact ⟨j, by omega, hf, List.mem_singleton.1 h⟩
        · cases h
    · rintro ⟨i, h1, h2, h3⟩
      by_cases e : i = j
      · subst e
        right
        rw [if_pos h2, h3]
        exact List.mem_singleton.2 rfl
      · exact .inl ⟨i, by omega, h2, h3⟩
theorem mem_kept {looks : List Int} {l : List Ent} (hs : Sorted l) {x : Ent} : x ∈ keepTo (visB looks l) l l.length ↔ x ∈ l ∧ VisM (looks ++ [maxSeq]) l x := by
  rw [mem_keepTo]
  constructor
  · rintro ⟨i, h1, h2, rfl⟩
    exact ⟨mem_eat.2 ⟨i, h1, rfl⟩, (vis_mem hs h1).1 (visB_iff.1 h2)⟩
  · rintro ⟨h1, h2⟩
    obtain ⟨i, hi, rfl⟩ := mem_eat.1 h1
    exact ⟨i, hi, visB_iff.2 ((vis_mem hs hi).2 h2), rfl⟩
theorem VisM.less {W : List Int} {l m : List Ent} {x : Ent} (h : VisM W l x) (hm : ∀ y ∈ m, y ∈ l) : VisM W m x := by
  obtain ⟨a, ha, h1, h2⟩ := h
  exact ⟨a, ha, h1, fun y hy => h2 y (hm y hy)⟩
theorem bareR_twice : ∀ l : List Ent, bareR (bareR l) = bareR l
  | [] => rfl
  | e :: r => by
    have ih := bareR_twice r
    rw [bareR_cons]
    by_cases h : e.kind = 2 ∧ (bareR r).any (fun x => decide (x.key = e.key)) = false
    · rw [if_pos h, ih]
    · rw [if_neg h, bareR_cons, ih, if_neg h]
theorem bareR_put : ∀ {l : List Ent} {x : Ent}, x ∈ l → x.kind ≠ 2 → x ∈ bareR l
  | e :: r, x, h, hk => by
    rw [bareR_cons]
    rcases List.mem_cons.1 h with rfl | h
    · rw [if_neg fun e => hk e.1]; exact List.mem_cons_self ..
    · have := bareR_put h hk
      split
      · exact this
      · exact List.mem_cons_of_mem _ this
/-- A delete that lies over an entry that is left stays. -/
theorem bareR_over : ∀ {l : List Ent} {x y : Ent}, Sorted l → x ∈ l → y ∈ l → x.kind ≠ 2 → y.key = x.key → x.seq < y.seq → y ∈ bareR l
  | e :: r, x, y, hs, hx, hy, hk, hkey, hlt => by
    obtain ⟨h1, h2⟩ := List.pairwise_cons.1 hs
    rw [bareR_cons]
    rcases List.mem_cons.1 hy with rfl | hy2
    · rcases List.mem_cons.1 hx with rfl | hx2
      · omega
      · rw [if_neg]
        · exact List.mem_cons_self ..
        · rintro ⟨_, h3⟩
          rw [List.any_eq_false] at h3
          exact h3 x (bareR_put hx2 hk) (by simp [hkey])
    · rcases List.mem_cons.1 hx with rfl | hx2
      · have h3 := h1 y hy2
        have h4 := ecmp_key hkey hlt
        have h5 := ecmp_anti x y
        omega
      · have := bareR_over h2 hx2 hy2 hk hkey hlt
        split
        · exact this
        · exact List.mem_cons_of_mem _ this
theorem rowOf_sub (looks : List Int) (bottom : Bool) (l : List Ent) : (rowOf looks bottom l).Sublist l := by
  have h1 : (keepTo (visB looks l) l l.length).Sublist l := by
    have := keepTo_sub (visB looks l) l (Nat.le_refl l.length)
    rwa [List.take_of_length_le (Nat.le_refl _)] at this
  unfold rowOf
  split
  · exact (bareR_sub _).trans h1
  · exact h1
theorem rowOf_kept {looks : List Int} {bottom : Bool} {l : List Ent} {x : Ent} (h : x ∈ rowOf looks bottom l) : x ∈ keepTo (visB looks l) l l.length := by
  unfold rowOf at h
  split at h
  · exact (bareR_sub _).mem h
  · exact h
/-- Compacting again changes nothing. -/
theorem rowOf_twice {looks : List Int} {bottom : Bool} {l : List Ent} (hs : Sorted l) : rowOf looks bottom (rowOf looks bottom l) = rowOf looks bottom l := by
  have hs2 := rowOf_sorted hs looks bottom
  have hk : keepTo (visB looks (rowOf looks bottom l)) (rowOf looks bottom l) (rowOf looks bottom l).length = rowOf looks bottom l := by
    rw [keepTo_all (Nat.le_refl _), List.take_of_length_le (Nat.le_refl _)]
    intro i hi
    have hm : eat (rowOf looks bottom l) i ∈ rowOf looks bottom l := mem_eat.2 ⟨i, hi, rfl⟩
    exact visB_iff.2 ((vis_mem hs2 hi).2 (((mem_kept hs).1 (rowOf_kept hm)).2.less fun y hy => (rowOf_sub looks bottom l).mem hy))
  have hd : ∀ m, rowOf looks bottom m = if bottom = true then bareR (keepTo (visB looks m) m m.length) else keepTo (visB looks m) m m.length := fun _ => rfl
  rw [hd (rowOf looks bottom l), hk]
  cases bottom with
  | false => rw [if_neg (by decide)]
  | true =>
    rw [if_pos rfl]
    unfold rowOf
    rw [if_pos rfl, bareR_twice]

/-- The newest put for a number. -/
def NewM (s : Int) (l : List Ent) (e : Ent) : Prop := e.kind = 1 ∧ e.seq ≤ s ∧ ∀ y ∈ l, ¬ Over s y e
open Classical in
theorem rseen_filter {s : Int} {l : List Ent} (hs : Sorted l) : rseenGo s none l = l.filter fun e => decide (NewM s l e) := by
  have key : ∀ k, k ≤ l.length → rseenGo s none (l.take k) = (l.take k).filter fun e => decide (NewM s l e) := by
    intro k
    induction k with
    | zero => intro _; rfl
    | succ k ih =>
      intro hk
      rw [want_step (by omega), ih (by omega), List.take_succ_eq_append_getElem (by omega), List.filter_append, eat_eq (by omega)]
      congr 1
      have hiff : (hidB s (lastE none (l.take k)) (eat l k) = false ∧ (eat l k).kind = 1) ↔ NewM s l (eat l k) := by
        rw [new_hid hs (by omega)]
        constructor
        · rintro ⟨⟨h1, h2⟩, h3⟩
          refine ⟨h3, h1, fun y hy => ?_⟩
          obtain ⟨j, hj, rfl⟩ := mem_eat.1 hy
          exact h2 j hj
        · rintro ⟨h1, h2, h3⟩
          exact ⟨⟨h2, fun j hj => h3 _ (mem_eat.2 ⟨j, hj, rfl⟩)⟩, h1⟩
      by_cases hc : NewM s l (eat l k)
      · rw [if_pos (hiff.2 hc)]
        simp [hc]
      · rw [if_neg fun h => hc (hiff.1 h)]
        simp [hc]
  have := key l.length (Nat.le_refl _)
  rwa [List.take_of_length_le (Nat.le_refl _)] at this
theorem filter_sub {α : Type} {p : α → Bool} : ∀ {a b : List α}, a.Sublist b → b.Nodup → (∀ x ∈ b, p x = true → x ∈ a) → b.filter p = a.filter p
  | _, _, .slnil, _, _ => rfl
  | _, _, .cons x h, hn, hp => by
    obtain ⟨h1, h2⟩ := List.nodup_cons.1 hn
    have hx : ¬ p x = true := fun e => h1 (h.mem (hp x (List.mem_cons_self ..) e))
    rw [List.filter_cons_of_neg hx]
    exact filter_sub h h2 fun y hy e => hp y (List.mem_cons_of_mem _ hy) e
  | _, _, .cons_cons x h, hn, hp => by
    obtain ⟨h1, h2⟩ := List.nodup_cons.1 hn
    rw [List.filter_cons, List.filter_cons, filter_sub h h2 fun y hy e => by
      rcases List.mem_cons.1 (hp y (List.mem_cons_of_mem _ hy) e) with rfl | h3
      · exact absurd hy h1
      · exact h3]
theorem sorted_nodup {l : List Ent} (hs : Sorted l) : l.Nodup := List.Pairwise.imp (fun {a b} h => by rintro rfl; rw [ecmp_self] at h; omega) hs
theorem least {p : Nat → Prop} (h : ∃ j, p j) : ∃ j, p j ∧ ∀ k, k < j → ¬ p k := by
  classical
  obtain ⟨j, hj⟩ := h
  induction j using Nat.strongRecOn with
  | ind j ih =>
    by_cases h1 : ∃ k, k < j ∧ p k
    · obtain ⟨k, h2, h3⟩ := h1
      exact ih k h2 h3
    · exact ⟨j, hj, fun k h2 h3 => h1 ⟨k, h2, h3⟩⟩
theorem set_snoc' {α : Type} (l : List α) (a b : α) : (l ++ [a]).set ((l ++ [a]).length - 1) b = l ++ [b] := by
  rw [List.length_append, List.length_singleton, Nat.add_sub_cancel, List.set_append_right _ _ (Nat.le_refl _), Nat.sub_self]
  rfl
/-- Whoever looks sees the same in what is left. -/
theorem seen_left {looks : List Int} {bottom : Bool} {l : List Ent} (hs : Sorted l) {s : Int} (h : s ∈ looks ++ [maxSeq]) : rseenGo s none l = rseenGo s none (rowOf looks bottom l) := by
  classical
  have hs2 := rowOf_sorted hs looks bottom
  have hsub := rowOf_sub looks bottom l
  rw [rseen_filter hs, rseen_filter hs2]
  have hput : ∀ x ∈ l, VisM (looks ++ [maxSeq]) l x → x.kind = 1 → x ∈ rowOf looks bottom l := by
    intro x hx hv hk
    have h1 : x ∈ keepTo (visB looks l) l l.length := (mem_kept hs).2 ⟨hx, hv⟩
    unfold rowOf
    split
    · exact bareR_put h1 (by omega)
    · exact h1
  rw [filter_sub hsub (sorted_nodup hs)]
  · refine List.filter_congr fun x hx => ?_
    rw [decide_eq_decide]
    constructor
    · rintro ⟨h1, h2, h3⟩
      exact ⟨h1, h2, fun y hy => h3 y (hsub.mem hy)⟩
    · rintro ⟨h1, h2, h3⟩
      refine ⟨h1, h2, ?_⟩
      by_cases hex : ∃ j, j < l.length ∧ Over s (eat l j) x
      · exfalso
        obtain ⟨j, ⟨hj, hov⟩, hmin⟩ := least hex
        have hy : eat l j ∈ l := mem_eat.2 ⟨j, hj, rfl⟩
        have hv : VisM (looks ++ [maxSeq]) l (eat l j) := by
          refine ⟨s, h, hov.2.1, fun z hz hk hlt => ?_⟩
          obtain ⟨k, hkl, rfl⟩ := mem_eat.1 hz
          by_cases hle : (eat l k).seq ≤ s
          · have h4 := newer_first hs hj hkl hk hlt
            refine absurd ⟨hkl, hk.trans hov.1, hle, ?_⟩ (hmin k h4)
            have := hov.2.2
            omega
          · omega
        have hkept : eat l j ∈ keepTo (visB looks l) l l.length := (mem_kept hs).2 ⟨hy, hv⟩
        have hxk := rowOf_kept hx
        have hin : eat l j ∈ rowOf looks bottom l := by
          unfold rowOf
          split
          · exact bareR_over (keepTo_sorted hs) hxk hkept (by omega) hov.1 hov.2.2
          · exact hkept
        exact h3 _ hin hov
      · intro y hy ho
        obtain ⟨j, hj, rfl⟩ := mem_eat.1 hy
        exact hex ⟨j, hj, ho⟩
  · intro x hx hp
    obtain ⟨h1, h2, h3⟩ := of_decide_eq_true hp
    refine hput x hx ⟨s, h, h2, fun y hy hk hlt => ?_⟩ h1
    by_cases hle : y.seq ≤ s
    · exact absurd ⟨hk, hle, hlt⟩ (h3 y hy)
    · omega

/-- What a cut tells of its files. -/
structure CutG (t : Int) (l : List Ent) (j : Nat) (fs : List (List Ent)) : Prop where
  join : fs.flatten = l.take j
  full : ∀ f ∈ fs, f ≠ []
  edge : ∀ i, i + 1 < fs.length → t ≤ (sizeE (fs.getD i []) : Int) ∧ (eat (fs.getD i []) ((fs.getD i []).length - 1)).key ≠ (eat (fs.getD (i + 1) []) 0).key
theorem eat_last {l : List Ent} {x : Ent} : eat (l ++ [x]) ((l ++ [x]).length - 1) = x := by
  rw [List.length_append, List.length_singleton, Nat.add_sub_cancel, eat_append_at]
theorem getD_snoc_lt {fs : List (List Ent)} {g : List Ent} {i : Nat} (h : i < fs.length) : (fs ++ [g]).getD i [] = fs.getD i [] := by simp [List.getD, List.getElem?_append_left h]
theorem getD_snoc_at {fs : List (List Ent)} {g : List Ent} : (fs ++ [g]).getD fs.length [] = g := by simp [List.getD]
theorem cutG (t : Int) (l : List Ent) : ∀ j, j ≤ l.length → CutG t l j (cutTo t l j) ∧ (0 < j → ∃ gs c, cutTo t l j = gs ++ [c ++ [eat l (j - 1)]])
  | 0, _ => ⟨⟨by simp [cutTo], (fun f h => by cases h), fun i h => by simp [cutTo] at h⟩, fun h => by omega⟩
  | j + 1, hj => by
    obtain ⟨⟨h1, h2, h3⟩, h4⟩ := cutG t l j (by omega)
    have ht : l.take (j + 1) = l.take j ++ [eat l j] := by rw [List.take_succ_eq_append_getElem (by omega), eat_eq (by omega)]
    rw [cutTo_succ]
    by_cases hn : NewF t l j (cutTo t l j)
    · rw [openF_new hn, lastF_new, set_snoc']
      refine ⟨⟨?_, fun f hf => ?_, fun i hi => ?_⟩, fun _ => ⟨cutTo t l j, [], by simp⟩⟩
      · rw [List.flatten_append, h1, ht]; simp
      · rcases List.mem_append.1 hf with hf | hf
        · exact h2 f hf
        · rw [List.mem_singleton.1 hf]; simp
      · rw [List.length_append, List.length_singleton] at hi
        by_cases hi2 : i + 1 < (cutTo t l j).length
        · rw [getD_snoc_lt (by omega), getD_snoc_lt hi2]
          exact h3 i hi2
        · have hlen : (cutTo t l j).length = i + 1 := by omega
          have hj0 : 0 < j := by
            by_cases e : j = 0
            · subst e; simp [cutTo] at hlen
            · omega
          obtain ⟨gs, c, hg⟩ := h4 hj0
          rcases hn with hn | ⟨hn1, hn2⟩
          · omega
          · have hgl : gs.length = i := by rw [hg] at hlen; simpa using hlen
            rw [getD_snoc_lt (by omega), ← hlen, getD_snoc_at]
            have e1 : (cutTo t l j).getD i [] = c ++ [eat l (j - 1)] := by rw [hg, ← hgl]; exact getD_snoc_at
            have e2 : lastF (cutTo t l j) = c ++ [eat l (j - 1)] := by unfold lastF; rw [hlen]; exact e1
            rw [e2] at hn1
            rw [e1]
            refine ⟨hn1, ?_⟩
            rw [eat_last]
            show _ ≠ (eat [eat l j] 0).key
            exact hn2
    · rw [openF_old hn]
      have hj0 : 0 < j := by
        by_cases e : j = 0
        · exact absurd (.inl e) hn
        · omega
      obtain ⟨gs, c, hg⟩ := h4 hj0
      have e2 : lastF (cutTo t l j) = c ++ [eat l (j - 1)] := by rw [hg]; simp [lastF]
      rw [e2, hg, set_snoc']
      rw [hg] at h1 h2 h3
      refine ⟨⟨?_, fun f hf => ?_, fun i hi => ?_⟩, fun _ => ⟨gs, c ++ [eat l (j - 1)], by simp⟩⟩
      · rw [ht, ← h1]; simp
      · rcases List.mem_append.1 hf with hf | hf
        · exact h2 f (List.mem_append_left _ hf)
        · rw [List.mem_singleton.1 hf]; simp
      · rw [List.length_append, List.length_singleton] at hi
        have h5 := h3 i (by rw [List.length_append, List.length_singleton]; omega)
        rw [getD_snoc_lt (by omega)] at h5 ⊢
        refine ⟨h5.1, ?_⟩
        by_cases hi2 : i + 1 < gs.length
        · rw [getD_snoc_lt hi2] at h5 ⊢
          exact h5.2
        · have hgl : gs.length = i + 1 := by omega
          rw [← hgl, getD_snoc_at] at h5 ⊢
          have e3 : eat (c ++ [eat l (j - 1)] ++ [eat l j]) 0 = eat (c ++ [eat l (j - 1)]) 0 := eat_append_lt (by simp)
          rw [e3]
          exact h5.2
end Go.Proofs.Ytmpapipobjoboaa
