/- Merge: rows' heads tell what the document answers. -/
import Derived.Test.YtmpapipobjoboaaMgY
namespace Go.Proofs.Ytmpapipobjoboaa
open Go.RowKit

theorem ecmp_zero_tr {a b c : Ent} (h1 : Ent.cmp a b = 0) (h2 : Ent.cmp b c = 0) : Ent.cmp a c = 0 := by
  have g1 := @ecmp_le_tr a b c (by omega) (by omega)
  have g2 := @ecmp_le_tr c b a (by have := ecmp_anti b c; omega) (by have := ecmp_anti a b; omega)
  have := ecmp_anti a c
  omega

theorem two_spec : ∀ (a b : List Ent), Sorted a → Sorted b → Sorted (two a b) ∧ ∀ x, x ∈ two a b ↔ x ∈ a ∨ (x ∈ b ∧ ∀ y ∈ a, Ent.cmp y x ≠ 0)
  | [], b, _, hb => by simp [two, hb]
  | x :: a, [], ha, _ => by simp [two, ha]
  | x :: a, y :: b, ha, hb => by
    have h1 := two_spec a (y :: b)
    have h2 := two_spec a b
    have h3 := two_spec (x :: a) b
    obtain ⟨ha1, ha2⟩ := List.pairwise_cons.1 ha
    obtain ⟨hb1, hb2⟩ := List.pairwise_cons.1 hb
    rw [two]
    by_cases c1 : Ent.cmp x y < 0
    · rw [if_pos c1]
      obtain ⟨s, m⟩ := h1 ha2 hb
      have hxy : ∀ z ∈ y :: b, Ent.cmp x z < 0 := fun z hz => by
        rcases List.mem_cons.1 hz with rfl | hz
        · exact c1
        · exact ecmp_lt_le c1 (by have := hb1 z hz; omega)
      refine ⟨List.pairwise_cons.2 ⟨fun z hz => ?_, s⟩, fun z => ?_⟩
      · rcases (m z).1 hz with h | h
        · exact ha1 z h
        · exact hxy z h.1
      · simp only [List.mem_cons, m z]
        constructor
        · rintro (h | h | ⟨h, k⟩)
          · exact .inl (.inl h)
          · exact .inl (.inr h)
          · refine .inr ⟨h, fun w hw => ?_⟩
            rcases hw with rfl | hw
            · have := hxy z (List.mem_cons.2 h); omega
            · exact k w hw
        · rintro ((h | h) | ⟨h, k⟩)
          · exact .inl h
          · exact .inr (.inl h)
          · exact .inr (.inr ⟨h, fun w hw => k w (.inr hw)⟩)
    · rw [if_neg c1]
      by_cases c2 : Ent.cmp x y = 0
      · rw [if_pos c2]
        obtain ⟨s, m⟩ := h2 ha2 hb2
        have hxy : ∀ z ∈ b, Ent.cmp x z < 0 := fun z hz => ecmp_le_lt (by omega) (hb1 z hz)
        refine ⟨List.pairwise_cons.2 ⟨fun z hz => ?_, s⟩, fun z => ?_⟩
        · rcases (m z).1 hz with h | h
          · exact ha1 z h
          · exact hxy z h.1
        · simp only [List.mem_cons, m z]
          constructor
          · rintro (h | h | ⟨h, k⟩)
            · exact .inl (.inl h)
            · exact .inl (.inr h)
            · refine .inr ⟨.inr h, fun w hw => ?_⟩
              rcases hw with rfl | hw
              · have := hxy z h; omega
              · exact k w hw
          · rintro ((h | h) | ⟨h, k⟩)
            · exact .inl h
            · exact .inr (.inl h)
            · rcases h with rfl | h
              · exact absurd c2 (k x (.inl rfl))
              · exact .inr (.inr ⟨h, fun w hw => k w (.inr hw)⟩)
      · rw [if_neg c2]
        obtain ⟨s, m⟩ := h3 ha hb2
        have hyx : Ent.cmp y x < 0 := by have := ecmp_anti x y; omega
        have hxy : ∀ z ∈ x :: a, Ent.cmp y z < 0 := fun z hz => by
          rcases List.mem_cons.1 hz with rfl | hz
          · exact hyx
          · exact ecmp_lt_le hyx (by have := ha1 z hz; omega)
        refine ⟨List.pairwise_cons.2 ⟨fun z hz => ?_, s⟩, fun z => ?_⟩
        · rcases (m z).1 hz with h | h
          · exact hxy z h
          · exact hb1 z h.1
        · simp only [List.mem_cons, m z]
          constructor
          · rintro (rfl | h | ⟨h, k⟩)
            · exact .inr ⟨.inl rfl, fun w hw => by have := hxy w (List.mem_cons.2 hw); have := ecmp_anti z w; omega⟩
            · exact .inl h
            · exact .inr ⟨.inr h, k⟩
          · rintro (h | ⟨h, k⟩)
            · exact .inr (.inl h)
            · rcases h with rfl | h
              · exact .inl rfl
              · exact .inr (.inr ⟨h, k⟩)
termination_by a b => a.length + b.length

theorem shown_rep {l : List Hd} (h0 : ∀ h ∈ l, 0 ≤ h.no) : ∀ (n : Nat) (h : Hd), h ∈ l → h.no.toNat = n → ∀ y ∈ h.l, ∃ y', Shown l y' ∧ Ent.cmp y' y = 0 := by
  intro n
  induction n using Nat.strongRecOn with
  | _ n ih =>
    intro h hh hn y hy
    by_cases hx : ∃ h' ∈ l, h'.no < h.no ∧ ∃ z ∈ h'.l, Ent.cmp z y = 0
    · obtain ⟨h', hh', hlt, z, hz, hc⟩ := hx
      have := h0 h hh
      have := h0 h' hh'
      obtain ⟨y', g1, g2⟩ := ih h'.no.toNat (by omega) h' hh' rfl z hz
      exact ⟨y', g1, ecmp_zero_tr g2 hc⟩
    · exact ⟨y, ⟨h, hh, hy, fun h' hh' hlt z hz hc => hx ⟨h', hh', hlt, z, hz, hc⟩⟩, ecmp_self y⟩

theorem tells_snoc {l : List Hd} {a r : List Ent} {n : Int} (h : Tells l a) (h0 : ∀ h ∈ l, 0 ≤ h.no) (h1 : ∀ h ∈ l, h.no < n) (hr : Sorted r) : Tells (l ++ [⟨r, n⟩]) (two a r) := by
  obtain ⟨s, m⟩ := two_spec a r h.sort hr
  refine ⟨s, fun x => (m x).trans ⟨?_, ?_⟩⟩
  · rintro (hx | ⟨hx, hk⟩)
    · obtain ⟨b, g1, g2, g3⟩ := (h.mem x).1 hx
      refine ⟨b, List.mem_append_left _ g1, g2, fun h' hh' hlt y hy => ?_⟩
      rcases List.mem_append.1 hh' with hh' | hh'
      · exact g3 h' hh' hlt y hy
      · rw [List.mem_singleton.1 hh'] at hlt
        have := h1 b g1
        simp only at hlt
        omega
    · refine ⟨⟨r, n⟩, List.mem_append_right _ (List.mem_singleton.2 rfl), hx, fun h' hh' hlt y hy => ?_⟩
      rcases List.mem_append.1 hh' with hh' | hh'
      · intro hc
        obtain ⟨y', g1, g2⟩ := shown_rep h0 _ h' hh' rfl y hy
        exact hk y' ((h.mem y').2 g1) (ecmp_zero_tr g2 hc)
      · rw [List.mem_singleton.1 hh'] at hlt
        simp only at hlt
        omega
  · rintro ⟨b, g1, g2, g3⟩
    rcases List.mem_append.1 g1 with g1 | g1
    · exact .inl ((h.mem x).2 ⟨b, g1, g2, fun h' hh' => g3 h' (List.mem_append_left _ hh')⟩)
    · rw [List.mem_singleton.1 g1] at g2 g3
      refine .inr ⟨g2, fun y hy => ?_⟩
      obtain ⟨c, k1, k2, _⟩ := (h.mem y).1 hy
      exact g3 c (List.mem_append_left _ k1) (h1 c k1) y k2

theorem two_none (a : List Ent) : two a [] = a := by cases a <;> simp [two]

/-- The heads of the first rows. -/
def hdsTo (rs : List (List Ent)) : Nat → List Hd
  | 0 => []
  | k + 1 => if (rs.getD k []).length = 0 then hdsTo rs k else hdsTo rs k ++ [⟨rs.getD k [], (k : Int)⟩]

structure HdsOk (rs : List (List Ent)) (k : Nat) (l : List Hd) : Prop where
  ok : HOk l
  len : l.length ≤ k
  sort : Hsort l
  lo : ∀ h ∈ l, 0 ≤ h.no
  hi : ∀ h ∈ l, h.no < (k : Int)
  tells : Tells l (allOf (rs.take k))

theorem HdsOk.start (rs : List (List Ent)) : HdsOk rs 0 [] :=
  ⟨⟨by simp, fun _ h => (by cases h), fun _ h => (by cases h)⟩, Nat.le_refl _, fun _ h => (by cases h), fun _ h => (by cases h), fun _ h => (by cases h), ⟨List.Pairwise.nil, fun x => by simp [allOf, Shown]⟩⟩

theorem HdsOk.skip {rs : List (List Ent)} {k : Nat} {l : List Hd} (h : HdsOk rs k l) (hk : k < rs.length) (he : (rs.getD k []).length = 0) : HdsOk rs (k + 1) l := by
  obtain ⟨h1, h2, h3, h4, h5, h6⟩ := h
  refine ⟨h1, by omega, h3, h4, fun x hx => by have := h5 x hx; omega, ?_⟩
  rw [allOf_snoc _ _ hk, List.eq_nil_of_length_eq_zero he, two_none]
  exact h6
theorem HdsOk.more {rs : List (List Ent)} {k : Nat} {l : List Hd} (h : HdsOk rs k l) (hok : ROk rs) (hk : k < rs.length) (he : (rs.getD k []).length ≠ 0) (hr : rowB (rs.getD k []) = true) : HdsOk rs (k + 1) (l ++ [⟨rs.getD k [], (k : Int)⟩]) := by
  obtain ⟨h1, h2, h3, h4, h5, h6⟩ := h
  have hm : rs.getD k [] ∈ rs := by rw [← rat_eq hk]; exact List.getElem_mem hk
  have hfew := hok.few
  refine ⟨⟨?_, fun x hx => ?_, fun x hx => ?_⟩, ?_, fun x hx => ?_, fun x hx => ?_, fun x hx => ?_, ?_⟩
  · rw [List.length_append, List.length_singleton]; omega
  · rcases List.mem_append.1 hx with hx | hx
    · exact h1.ne x hx
    · rw [List.mem_singleton.1 hx]
      intro e
      exact he (by rw [show rs.getD k [] = [] from e]; rfl)
  · rcases List.mem_append.1 hx with hx | hx
    · exact h1.big x hx
    · rw [List.mem_singleton.1 hx]; exact hok.big _ hm
  · rw [List.length_append, List.length_singleton]; omega
  · rcases List.mem_append.1 hx with hx | hx
    · exact h3 x hx
    · rw [List.mem_singleton.1 hx]; exact rowB_sorted.1 hr
  · rcases List.mem_append.1 hx with hx | hx
    · exact h4 x hx
    · rw [List.mem_singleton.1 hx]; show 0 ≤ (k : Int); omega
  · rcases List.mem_append.1 hx with hx | hx
    · have := h5 x hx; omega
    · rw [List.mem_singleton.1 hx]; show (k : Int) < _; omega
  · rw [allOf_snoc _ _ hk]
    exact tells_snoc h6 h4 h5 (rowB_sorted.1 hr)
end Go.Proofs.Ytmpapipobjoboaa
