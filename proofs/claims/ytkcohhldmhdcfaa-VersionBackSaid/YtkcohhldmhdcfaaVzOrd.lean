/- Orders, as plain functions: of numbers, of bytes, of entries. -/
import Derived.Test.YtkcohhldmhdcfaaVzEnt
namespace Go.Proofs.Ytkcohhldmhdcfaa
open Go.RowKit

theorem bless_tot : ∀ (x y : List UInt8), (Op.bytesLess x y || x == y) = !Op.bytesLess y x
  | [], [] => rfl
  | [], _ :: _ => rfl
  | _ :: _, [] => rfl
  | a :: x, b :: y => by
    have ih := bless_tot x y
    by_cases h : a = b
    · subst h
      have hlt : ¬ a < a := UInt8.lt_irrefl a
      simp only [Op.bytesLess, hlt, decide_false, Bool.false_or, beq_self_eq_true, Bool.true_and]
      rw [← ih]
      simp [List.cons_beq_cons]
    · have h' : b ≠ a := fun e => h e.symm
      rcases Nat.lt_or_gt_of_ne (fun e => h (UInt8.toNat_inj.1 e)) with h1 | h1
      · have g1 : a < b := UInt8.lt_iff_toNat_lt.2 h1
        have g2 : ¬ b < a := fun e => by have := UInt8.lt_iff_toNat_lt.1 e; omega
        simp [Op.bytesLess, g1, g2, h']
      · have g1 : b < a := UInt8.lt_iff_toNat_lt.2 h1
        have g2 : ¬ a < b := fun e => by have := UInt8.lt_iff_toNat_lt.1 e; omega
        simp [Op.bytesLess, g1, g2, h]

/-- c tells of an order: turned, it turns its sign; 'not above' carries on. -/
structure IsCmp {α : Type} (c : α → α → Int) : Prop where
  anti : ∀ a b, c b a = - c a b
  tr : ∀ a b d, c a b ≤ 0 → c b d ≤ 0 → c a d ≤ 0

theorem lex_anti {x y x' y' : Int} (h1 : x' = -x) (h2 : y' = -y) : Ent.lex x' y' = - Ent.lex x y := by
  unfold Ent.lex
  split <;> split <;> omega

theorem IsCmp.lex_tr {α : Type} {c : α → α → Int} (h : IsCmp c) (x y z : α) (p q r : Int) (ht : p ≤ 0 → q ≤ 0 → r ≤ 0) : Ent.lex (c x y) p ≤ 0 → Ent.lex (c y z) q ≤ 0 → Ent.lex (c x z) r ≤ 0 := by
  have t1 := h.tr x y z
  have t2 := h.tr y z x
  have t3 := h.tr z x y
  have a1 := h.anti x y
  have a2 := h.anti y z
  have a3 := h.anti x z
  rw [a3, a1] at t2
  rw [a3, a2] at t3
  unfold Ent.lex
  generalize c x y = u at *
  generalize c y z = v at *
  generalize c x z = t at *
  intro h1 h2
  split at h1 <;> split at h2 <;> split
  all_goals first
    | exact t1 (by omega) (by omega)
    | (exact ht (by omega) (by omega))
    | (by_cases h5 : t ≤ 0
       · exact h5
       · exfalso
         have := t1 (by omega) (by omega)
         omega)
    | (by_cases hu : u ≤ 0
       · by_cases hv : v ≤ 0
         · have := t1 hu hv
           by_cases hw : -t ≤ 0
           · have := t2 hv hw
             have := t3 hw hu
             omega
           · omega
         · omega
       · omega)

theorem IsCmp.lex {α : Type} {c d : α → α → Int} (h : IsCmp c) (k : IsCmp d) : IsCmp fun a b => Ent.lex (c a b) (d a b) where
  anti a b := lex_anti (h.anti a b) (k.anti a b)
  tr a b e := h.lex_tr a b e _ _ _ (k.tr a b e)
theorem bless_tr : ∀ (x y z : List UInt8), Op.bytesLess y x = false → Op.bytesLess z y = false → Op.bytesLess z x = false
  | _, _, [], _, h2 => by
    rename_i x y h1
    cases y with
    | nil => exact h1
    | cons _ _ => cases h2
  | [], _, _ :: _, _, _ => rfl
  | _ :: _, [], _ :: _, h1, _ => by cases h1
  | a :: x, b :: y, c :: z, h1, h2 => by
    have ih := bless_tr x y z
    simp only [Op.bytesLess, Bool.or_eq_false_iff, Bool.and_eq_false_iff, decide_eq_false_iff_not] at h1 h2 ⊢
    obtain ⟨p1, p2⟩ := h1
    obtain ⟨q1, q2⟩ := h2
    rw [UInt8.lt_iff_toNat_lt] at p1 q1 ⊢
    refine ⟨by omega, ?_⟩
    by_cases e1 : b = a
    · by_cases e2 : c = b
      · refine .inr (ih ?_ ?_)
        · rcases p2 with p2 | p2
          · exact absurd e1 (by simpa using p2)
          · exact p2
        · rcases q2 with q2 | q2
          · exact absurd e2 (by simpa using q2)
          · exact q2
      · left
        subst e1
        simpa using e2
    · left
      by_cases e3 : c = a
      · subst e3
        exact absurd (UInt8.toNat_inj.1 (by omega)) e1
      · simpa using e3

theorem bless_anti {a b : List UInt8} (h : Op.bytesLess a b = true) : Op.bytesLess b a = false := by
  have := bless_tot a b
  rw [h] at this
  simpa using this.symm

theorem isCmp_bcmp : IsCmp Ent.bcmp where
  anti a b := by
    have h1 := @bless_anti a b
    have h2 := @bless_anti b a
    unfold Ent.bcmp
    cases h : Op.bytesLess a b <;> cases k : Op.bytesLess b a <;> simp_all
  tr a b d h1 h2 := by
    have e : ∀ x y, Ent.bcmp x y ≤ 0 ↔ Op.bytesLess y x = false := by
      intro x y
      have h1 := @bless_anti x y
      unfold Ent.bcmp
      cases h : Op.bytesLess x y <;> cases k : Op.bytesLess y x <;> simp_all
    rw [e] at *
    exact bless_tr _ _ _ h1 h2

end Go.Proofs.Ytkcohhldmhdcfaa
