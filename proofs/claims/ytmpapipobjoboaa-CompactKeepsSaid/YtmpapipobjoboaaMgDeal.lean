/- The law MergeSeen: what is dealt out to rows, and what is seen of it. -/
import Derived.Test.YtmpapipobjoboaaMgPut
import Derived.Test.YtmpapipobjoboaaMgCalls
namespace Go.Proofs.Ytmpapipobjoboaa
open Go.RowKit

theorem ecmp_key {a b : Ent} (hk : a.key = b.key) (hs : b.seq < a.seq) : Ent.cmp a b < 0 := by
  unfold Ent.cmp Ent.lex
  rw [hk, bcmp_self]
  simp only [ne_eq, not_true_eq_false, if_false]
  unfold Ent.sgn
  rw [if_pos hs]
  decide

theorem mem_putAt {e x : Ent} {l : List Ent} {i : Nat} : x ∈ putAt e l i ↔ x = e ∨ x ∈ l := by
  unfold putAt
  rw [List.mem_append, List.mem_append, List.mem_singleton]
  have h : x ∈ l ↔ x ∈ l.take i ∨ x ∈ l.drop i := by
    conv => lhs; rw [← List.take_append_drop i l]
    exact List.mem_append
  rw [h]
  constructor
  · rintro ((h | h) | h)
    · exact .inr (.inl h)
    · exact .inl h
    · exact .inr (.inr h)
  · rintro (h | h | h)
    · exact .inl (.inr h)
    · exact .inl (.inl h)
    · exact .inr h

theorem putAt_new {e : Ent} {l : List Ent} {i : Nat} (h : Sorted (putAt e l i)) : ∀ y ∈ l, Ent.cmp y e ≠ 0 := by
  unfold putAt Sorted at h
  intro y hy
  obtain ⟨h1, h2, h3⟩ := List.pairwise_append.1 h
  obtain ⟨h4, h5, h6⟩ := List.pairwise_append.1 h1
  rw [← List.take_append_drop i l] at hy
  rcases List.mem_append.1 hy with hy | hy
  · have := h6 y hy e (List.mem_singleton.2 rfl)
    omega
  · have := h3 e (List.mem_append.2 (.inr (List.mem_singleton.2 rfl))) y hy
    have h7 := ecmp_anti e y
    omega

theorem sorted_eat {l : List Ent} (h : Sorted l) {i j : Nat} (hij : i < j) (hj : j < l.length) : Ent.cmp (eat l i) (eat l j) < 0 := by
  rw [← eat_eq hj, ← eat_eq (Nat.lt_trans hij hj)]
  exact List.pairwise_iff_getElem.1 h i j _ _ hij

theorem putAt_sorted {e : Ent} {l : List Ent} {i : Nat} (hs : Sorted l) (hp : PlaceAt e l i) (hn : ∀ y ∈ l, Ent.cmp y e ≠ 0) : Sorted (putAt e l i) := by
  have hlt : ∀ y ∈ l.take i, Ent.cmp y e < 0 := by
    intro y hy
    obtain ⟨j, hj, rfl⟩ := List.mem_iff_getElem.1 hy
    rw [List.length_take] at hj
    rw [List.getElem_take, eat_eq (by omega)]
    exact hp.lt j (by omega)
  have hgt : ∀ y ∈ l.drop i, Ent.cmp e y < 0 := by
    intro y hy
    obtain ⟨j, hj, rfl⟩ := List.mem_iff_getElem.1 hy
    rw [List.length_drop] at hj
    rw [List.getElem_drop, eat_eq (by omega)]
    have h1 := hp.ge (by omega)
    have h2 := hn (eat l i) (by rw [← eat_eq (by omega)]; exact List.getElem_mem _)
    have h3 := ecmp_anti e (eat l i)
    have h4 : Ent.cmp e (eat l i) < 0 := by omega
    by_cases hj0 : j = 0
    · subst hj0; exact h4
    · exact ecmp_lt_le h4 (Int.le_of_lt (sorted_eat hs (by omega) (by omega)))
  unfold putAt
  refine List.pairwise_append.2 ⟨List.pairwise_append.2 ⟨hs.take, List.pairwise_singleton _ _, fun a ha b hb => ?_⟩, hs.drop, fun a ha b hb => ?_⟩
  · rw [List.mem_singleton.1 hb]; exact hlt a ha
  · rcases List.mem_append.1 ha with ha | ha
    · exact ecmp_lt_le (hlt a ha) (Int.le_of_lt (hgt b hb))
    · rw [List.mem_singleton.1 ha]; exact hgt b hb

/-- What was dealt out of the first i entries of l: all in one row, and in four. -/
structure Dealt (l : List Ent) (i : Nat) (all : List Ent) (rs : List (List Ent)) : Prop where
  sort : Sorted all
  rows : ∀ r ∈ rs, Sorted r
  mem : ∀ x, x ∈ all ↔ ∃ r ∈ rs, x ∈ r
  src : ∀ x ∈ all, x ∈ l
  four : rs.length = 4
  alen : all.length ≤ i
  rlen : ∀ r ∈ rs, r.length ≤ i

theorem Dealt.start (l : List Ent) : Dealt l 0 [] [[], [], [], []] := by
  refine ⟨List.Pairwise.nil, ?_, (fun x => ⟨(fun h => by cases h), ?_⟩), (fun x h => by cases h), rfl, Nat.le_refl _, ?_⟩
  · intro r hr; simp at hr; subst hr; exact List.Pairwise.nil
  · rintro ⟨r, hr, hx⟩; simp at hr; subst hr; cases hx
  · intro r hr; simp at hr; subst hr; exact Nat.le_refl _

theorem Dealt.skip {l all : List Ent} {i : Nat} {rs : List (List Ent)} (h : Dealt l i all rs) : Dealt l (i + 1) all rs :=
  ⟨h.sort, h.rows, h.mem, h.src, h.four, Nat.le_succ_of_le h.alen, fun r hr => Nat.le_succ_of_le (h.rlen r hr)⟩

theorem putAt_len (e : Ent) (l : List Ent) {i : Nat} (h : i ≤ l.length) : (putAt e l i).length = l.length + 1 := by
  unfold putAt
  rw [List.length_append, List.length_append, List.length_take, List.length_drop, List.length_singleton]
  omega

theorem Dealt.put {l all : List Ent} {i p q k : Nat} {rs : List (List Ent)} {e : Ent} (h : Dealt l i all rs) (he : e ∈ l) (hp : PlaceAt e all p) (hs : Sorted (putAt e all p)) (hk : k < 4) (hq : PlaceAt e (rs.getD k []) q) :
    Dealt l (i + 1) (putAt e all p) (rs.set k (putAt e (rs.getD k []) q)) := by
  have hk' : k < rs.length := by rw [h.four]; exact hk
  have hrk : rs.getD k [] ∈ rs := by rw [← rat_eq hk']; exact List.getElem_mem _
  refine ⟨hs, fun r hr => ?_, fun x => ⟨fun hx => ?_, fun ⟨r, hr, hx⟩ => ?_⟩, fun x hx => ?_, by rw [List.length_set]; exact h.four, by rw [putAt_len e all hp.le]; exact Nat.succ_le_succ h.alen, fun r hr => ?_⟩
  · rcases List.mem_or_eq_of_mem_set hr with hr | rfl
    · exact h.rows r hr
    · exact putAt_sorted (h.rows _ hrk) hq fun y hy => putAt_new hs y ((h.mem y).2 ⟨_, hrk, hy⟩)
  · rcases mem_putAt.1 hx with rfl | hx
    · exact ⟨_, List.mem_set hk' _, mem_putAt.2 (.inl rfl)⟩
    · obtain ⟨r, hr, hx⟩ := (h.mem x).1 hx
      obtain ⟨j, hj, rfl⟩ := List.mem_iff_getElem.1 hr
      by_cases hjk : j = k
      · subst hjk
        exact ⟨_, List.mem_set hk' _, mem_putAt.2 (.inr (by rw [← rat_eq hk']; exact hx))⟩
      · refine ⟨rs[j], List.mem_iff_getElem.2 ⟨j, by rw [List.length_set]; exact hj, ?_⟩, hx⟩
        rw [List.getElem_set_ne (Ne.symm hjk)]
  · rcases List.mem_or_eq_of_mem_set hr with hr | rfl
    · exact mem_putAt.2 (.inr ((h.mem x).2 ⟨r, hr, hx⟩))
    · rcases mem_putAt.1 hx with rfl | hx
      · exact mem_putAt.2 (.inl rfl)
      · exact mem_putAt.2 (.inr ((h.mem x).2 ⟨_, hrk, hx⟩))
  · rcases mem_putAt.1 hx with rfl | hx
    · exact he
    · exact h.src x hx
  · rcases List.mem_or_eq_of_mem_set hr with hr | rfl
    · exact Nat.le_succ_of_le (h.rlen r hr)
    · rw [putAt_len e _ hq.le]; exact Nat.succ_le_succ (h.rlen _ hrk)

theorem sorted_ext : ∀ {a b : List Ent}, Sorted a → Sorted b → (∀ x, x ∈ a ↔ x ∈ b) → a = b
  | [], [], _, _, _ => rfl
  | [], y :: b, _, _, h => absurd ((h y).2 (List.mem_cons_self ..)) (by simp)
  | x :: a, [], _, _, h => absurd ((h x).1 (List.mem_cons_self ..)) (by simp)
  | x :: a, y :: b, ha, hb, h => by
    obtain ⟨ha1, ha2⟩ := List.pairwise_cons.1 ha
    obtain ⟨hb1, hb2⟩ := List.pairwise_cons.1 hb
    have hxy : x = y := by
      rcases List.mem_cons.1 ((h x).1 (List.mem_cons_self ..)) with e | e
      · exact e
      · rcases List.mem_cons.1 ((h y).2 (List.mem_cons_self ..)) with e' | e'
        · exact e'.symm
        · have h1 := hb1 x e
          have h2 := ha1 y e'
          have h3 := ecmp_anti x y
          omega
    subst hxy
    have hna : x ∉ a := fun e => by have h1 := ha1 x e; rw [ecmp_self] at h1; omega
    have hnb : x ∉ b := fun e => by have h1 := hb1 x e; rw [ecmp_self] at h1; omega
    rw [sorted_ext ha2 hb2 fun z => ⟨fun hz => ?_, fun hz => ?_⟩]
    · rcases List.mem_cons.1 ((h z).1 (List.mem_cons_of_mem _ hz)) with e | e
      · subst e; exact absurd hz hna
      · exact e
    · rcases List.mem_cons.1 ((h z).2 (List.mem_cons_of_mem _ hz)) with e | e
      · subst e; exact absurd hz hnb
      · exact e

/-- Rows that are parts of one row are merged into what lies in them. -/
theorem allOf_mem {all : List Ent} (hs : Sorted all) {rs : List (List Ent)} (h : ∀ r ∈ rs, Sorted r ∧ ∀ x ∈ r, x ∈ all) : ∀ x, x ∈ allOf rs ↔ ∃ r ∈ rs, x ∈ r := by
  have key : ∀ (rs : List (List Ent)) (a : List Ent), Sorted a → (∀ x ∈ a, x ∈ all) → (∀ r ∈ rs, Sorted r ∧ ∀ x ∈ r, x ∈ all) → ∀ x, x ∈ rs.foldl two a ↔ x ∈ a ∨ ∃ r ∈ rs, x ∈ r := by
    intro rs
    induction rs with
    | nil => intro a _ _ _ x; simp
    | cons r rs ih =>
      intro a ha hall h x
      obtain ⟨hr1, hr2⟩ := h r (List.mem_cons_self ..)
      obtain ⟨t1, t2⟩ := two_spec a r ha hr1
      have hm : ∀ x, x ∈ two a r ↔ x ∈ a ∨ x ∈ r := fun x => by
        rw [t2]
        refine ⟨fun h => h.imp id And.left, fun h => ?_⟩
        rcases h with h | h
        · exact .inl h
        · by_cases hx : x ∈ a
          · exact .inl hx
          · exact .inr ⟨h, fun y hy e => hx (by rw [← sorted_same hs (hall y hy) (hr2 x h) e]; exact hy)⟩
      rw [List.foldl_cons, ih _ t1 (fun x hx => ((hm x).1 hx).elim (hall x) (hr2 x)) (fun r' hr' => h r' (List.mem_cons_of_mem _ hr')) x, hm]
      simp only [List.mem_cons, exists_eq_or_imp, or_assoc]
  intro x
  have := key rs [] List.Pairwise.nil (fun x h => by cases h) h x
  unfold allOf
  rw [this]
  simp

theorem Dealt.all {l all : List Ent} {i : Nat} {rs : List (List Ent)} (h : Dealt l i all rs) : allOf rs = all :=
  sorted_ext (allOf_sorted h.rows) h.sort fun x => (allOf_mem h.sort (fun r hr => ⟨h.rows r hr, fun x hx => (h.mem x).2 ⟨r, hr, hx⟩⟩) x).trans (h.mem x).symm
theorem Dealt.chk {l all : List Ent} {i : Nat} {rs rs' : List (List Ent)} (h : Dealt l i all rs) (hs : ∀ r ∈ rs', r ∈ rs) : chkR rs' = 0 := chkR_ok fun r hr => rowB_sorted.2 (h.rows r (hs r hr))
theorem Dealt.part {l all : List Ent} {i : Nat} {rs rs' : List (List Ent)} (h : Dealt l i all rs) (hs : ∀ r ∈ rs', r ∈ rs) : Sorted (allOf rs') ∧ ∀ x, x ∈ allOf rs' ↔ ∃ r ∈ rs', x ∈ r :=
  ⟨allOf_sorted fun r hr => h.rows r (hs r hr), allOf_mem h.sort fun r hr => ⟨h.rows r (hs r hr), fun x hx => (h.mem x).2 ⟨r, hs r hr, hx⟩⟩⟩
theorem Dealt.twice {l all : List Ent} {i : Nat} {rs : List (List Ent)} (h : Dealt l i all rs) (n : Nat) : chkR [allOf (rs.take n), allOf (rs.drop n)] = 0 ∧ allOf [allOf (rs.take n), allOf (rs.drop n)] = all := by
  obtain ⟨a1, a2⟩ := h.part (rs' := rs.take n) fun r hr => List.mem_of_mem_take hr
  obtain ⟨b1, b2⟩ := h.part (rs' := rs.drop n) fun r hr => List.mem_of_mem_drop hr
  have hs : ∀ r ∈ [allOf (rs.take n), allOf (rs.drop n)], Sorted r := by
    intro r hr
    simp only [List.mem_cons, List.not_mem_nil, or_false] at hr
    rcases hr with rfl | rfl
    · exact a1
    · exact b1
  have hin : ∀ r ∈ [allOf (rs.take n), allOf (rs.drop n)], ∀ x ∈ r, x ∈ all := by
    intro r hr x hx
    simp only [List.mem_cons, List.not_mem_nil, or_false] at hr
    rcases hr with rfl | rfl
    · obtain ⟨r, hr, hx⟩ := (a2 x).1 hx
      exact (h.mem x).2 ⟨r, List.mem_of_mem_take hr, hx⟩
    · obtain ⟨r, hr, hx⟩ := (b2 x).1 hx
      exact (h.mem x).2 ⟨r, List.mem_of_mem_drop hr, hx⟩
  refine ⟨chkR_ok fun r hr => rowB_sorted.2 (hs r hr), sorted_ext (allOf_sorted hs) h.sort fun x => ?_⟩
  rw [allOf_mem h.sort (fun r hr => ⟨hs r hr, hin r hr⟩) x]
  constructor
  · rintro ⟨r, hr, hx⟩
    exact hin r hr x hx
  · intro hx
    obtain ⟨r, hr, hx⟩ := (h.mem x).1 hx
    rw [← List.take_append_drop n rs] at hr
    rcases List.mem_append.1 hr with hr | hr
    · exact ⟨_, List.mem_cons_self .., (a2 x).2 ⟨r, hr, hx⟩⟩
    · exact ⟨_, List.mem_cons_of_mem _ (List.mem_cons_self ..), (b2 x).2 ⟨r, hr, hx⟩⟩

theorem Dealt.ok {l all : List Ent} {i : Nat} {rs rs' : List (List Ent)} (h : Dealt l i all rs) (hi : i ≤ 1000) (hs : ∀ r ∈ rs', r ∈ rs) (hl : rs'.length ≤ 4) (hb : ∀ e ∈ l, e.key.length ≤ 140737488355328 ∧ e.value.length ≤ 140737488355328) : ROk rs' := by
  refine ⟨by omega, ?_, fun r hr e he => hb e (h.src e ((h.mem e).2 ⟨r, hs r hr, he⟩))⟩
  have : ∀ (rs' : List (List Ent)), (∀ r ∈ rs', r.length ≤ i) → (rs'.map List.length).sum ≤ rs'.length * i := by
    intro rs'
    induction rs' with
    | nil => intro _; exact Nat.zero_le _
    | cons r rs' ih =>
      intro h
      rw [List.map_cons, List.sum_cons, List.length_cons, Nat.succ_mul]
      have := h r (List.mem_cons_self ..)
      have := ih fun x hx => h x (List.mem_cons_of_mem _ hx)
      omega
  have h1 := this rs' fun r hr => h.rlen r (hs r hr)
  have h2 := Nat.mul_le_mul hl hi
  omega

theorem Dealt.ok2 {l all : List Ent} {i : Nat} {rs : List (List Ent)} (h : Dealt l i all rs) (hi : i ≤ 1000) (n : Nat) (hb : ∀ e ∈ l, e.key.length ≤ 140737488355328 ∧ e.value.length ≤ 140737488355328) : ROk [allOf (rs.take n), allOf (rs.drop n)] := by
  have h1 := h.ok (rs' := rs.take n) hi (fun r hr => List.mem_of_mem_take hr) (by rw [List.length_take, h.four]; omega) hb
  have h2 := h.ok (rs' := rs.drop n) hi (fun r hr => List.mem_of_mem_drop hr) (by rw [List.length_drop, h.four]; omega) hb
  have a1 := allOf_len (rs.take n)
  have a2 := allOf_len (rs.drop n)
  obtain ⟨_, c1⟩ := h.part (rs' := rs.take n) fun r hr => List.mem_of_mem_take hr
  obtain ⟨_, c2⟩ := h.part (rs' := rs.drop n) fun r hr => List.mem_of_mem_drop hr
  have : ∀ (rs' : List (List Ent)), (∀ r ∈ rs', r.length ≤ i) → (rs'.map List.length).sum ≤ rs'.length * i := by
    intro rs'
    induction rs' with
    | nil => intro _; exact Nat.zero_le _
    | cons r rs' ih =>
      intro h
      rw [List.map_cons, List.sum_cons, List.length_cons, Nat.succ_mul]
      have := h r (List.mem_cons_self ..)
      have := ih fun x hx => h x (List.mem_cons_of_mem _ hx)
      omega
  have b1 := this (rs.take n) fun r hr => h.rlen r (List.mem_of_mem_take hr)
  have b2 := this (rs.drop n) fun r hr => h.rlen r (List.mem_of_mem_drop hr)
  have b3 : (rs.take n).length * i ≤ 4 * 1000 := Nat.mul_le_mul (by rw [List.length_take, h.four]; omega) hi
  have b4 : (rs.drop n).length * i ≤ 4 * 1000 := Nat.mul_le_mul (by rw [List.length_drop, h.four]; omega) hi
  refine ⟨by simp, by simp only [List.map_cons, List.map_nil, List.sum_cons, List.sum_nil]; omega, ?_⟩
  intro r hr e he
  simp only [List.mem_cons, List.not_mem_nil, or_false] at hr
  rcases hr with rfl | rfl
  · obtain ⟨r, hr, hx⟩ := (c1 e).1 he
    exact hb e (h.src e ((h.mem e).2 ⟨r, List.mem_of_mem_take hr, hx⟩))
  · obtain ⟨r, hr, hx⟩ := (c2 e).1 he
    exact hb e (h.src e ((h.mem e).2 ⟨r, List.mem_of_mem_drop hr, hx⟩))

/-- Does an entry lie over another, for a number? -/
def Over (s : Int) (a e : Ent) : Prop := a.key = e.key ∧ a.seq ≤ s ∧ e.seq < a.seq
def NewTo (s : Int) (l : List Ent) (e : Ent) (k : Nat) : Prop := e.seq ≤ s ∧ ∀ j, j < k → ¬ Over s (eat l j) e

theorem NewTo.zero (s : Int) (l : List Ent) (e : Ent) : NewTo s l e 0 ↔ e.seq ≤ s := ⟨And.left, fun h => ⟨h, fun j hj => by omega⟩⟩
theorem NewTo.succ_not {s : Int} {l : List Ent} {e : Ent} {k : Nat} (h : ¬ Over s (eat l k) e) : NewTo s l e (k + 1) ↔ NewTo s l e k :=
  ⟨fun ⟨h1, h2⟩ => ⟨h1, fun j hj => h2 j (by omega)⟩, fun ⟨h1, h2⟩ => ⟨h1, fun j hj => by
    by_cases e0 : j = k
    · subst e0; exact h
    · exact h2 j (by omega)⟩⟩
theorem NewTo.succ_over {s : Int} {l : List Ent} {e : Ent} {k : Nat} (h : Over s (eat l k) e) : ¬ NewTo s l e (k + 1) := fun ⟨_, h2⟩ => h2 k (Nat.lt_succ_self _) h

theorem lastE_at {l : List Ent} : ∀ (i : Nat), i < l.length → lastE none (l.take (i + 1)) = some (eat l i) := fun i hi => by
  rw [List.take_succ_eq_append_getElem hi, lastE_append, eat_eq hi]

theorem new_hid {s : Int} {l : List Ent} (hs : Sorted l) {i : Nat} (hi : i < l.length) : hidB s (lastE none (l.take i)) (eat l i) = false ↔ NewTo s l (eat l i) l.length := by
  have hov : ∀ j, j < l.length → Over s (eat l j) (eat l i) → j < i := by
    intro j hj ⟨h1, _, h3⟩
    have h4 := ecmp_key h1 h3
    by_cases h5 : j = i
    · subst h5; rw [ecmp_self] at h4; omega
    · by_cases h6 : i < j
      · have h7 := sorted_eat hs h6 hj
        have h8 := ecmp_anti (eat l i) (eat l j)
        omega
      · omega
  cases i with
  | zero =>
    unfold hidB NewTo
    simp only [List.take_zero, lastE, Bool.or_false, decide_eq_false_iff_not]
    exact ⟨fun h => ⟨by omega, fun j hj ho => by have := hov j hj ho; omega⟩, fun h => by omega⟩
  | succ i =>
    rw [lastE_at i (by omega)]
    unfold hidB NewTo
    simp only [Bool.or_eq_false_iff, decide_eq_false_iff_not, Bool.and_eq_false_iff]
    refine ⟨fun ⟨h1, h2⟩ => ⟨by omega, fun j hj ho => ?_⟩, fun ⟨h1, h2⟩ => ⟨by omega, ?_⟩⟩
    · have h3 := hov j hj ho
      obtain ⟨o1, o2, o3⟩ := ho
      have h4 := sorted_eat hs (Nat.lt_succ_self i) hi
      by_cases e0 : j = i
      · subst e0
        rcases h2 with h2 | h2
        · exact h2 o1
        · exact h2 o2
      · have h5 := sorted_eat hs (show j < i by omega) (by omega)
        obtain ⟨k1, k2⟩ := key_between h5 h4 o1
        rcases h2 with h2 | h2
        · exact h2 k1
        · exact h2 (by omega)
    · by_cases h3 : (eat l i).key = (eat l (i + 1)).key
      · right
        intro h4
        refine h2 i (by omega) ⟨h3, h4, ?_⟩
        have h5 : Ent.cmp (eat l i) (eat l (i + 1)) < 0 := sorted_eat hs (Nat.lt_succ_self i) hi
        by_cases h6 : (eat l i).seq = (eat l (i + 1)).seq
        · rw [ecmp_of h3 h6] at h5; omega
        · by_cases h7 : (eat l i).seq < (eat l (i + 1)).seq
          · have h8 := ecmp_key h3.symm h7
            have h9 := ecmp_anti (eat l i) (eat l (i + 1))
            omega
          · omega
      · exact .inl h3

theorem want_step {s : Int} {l : List Ent} {i : Nat} (hi : i < l.length) : rseenGo s none (l.take (i + 1)) = rseenGo s none (l.take i) ++ (if hidB s (lastE none (l.take i)) (eat l i) = false ∧ (eat l i).kind = 1 then [eat l i] else []) := by
  rw [List.take_succ_eq_append_getElem hi, rseenGo_append, rseenGo_one, eat_eq hi]
end Go.Proofs.Ytmpapipobjoboaa
