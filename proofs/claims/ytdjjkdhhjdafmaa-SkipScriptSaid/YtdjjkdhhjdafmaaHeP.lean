/- Tables and the entries that were put into them, in whatever order: plain law. -/
import Derived.Test.YtdjjkdhhjdafmaaSkS
namespace Go.Proofs.Ytdjjkdhhjdafmaa
open Go.RowKit

def ents (ts : List Tw) : List Ent := ts.map Tw.e

/-- A table holds just the entries es. -/
def Held (ts : List Tw) (es : List Ent) : Prop := (ents ts).Perm es ∧ ∀ e ∈ es, e.chk = 0

theorem Held.nil : Held [] [] := ⟨List.Perm.refl _, fun _ h => by cases h⟩

theorem ents_ins (e : Ent) (ts : List Tw) (X h : Nat) : (ents (ahead e ts ++ ⟨X, e, h⟩ :: behind e ts)).Perm (ents ts ++ [e]) := by
  have h1 : ents ts = ents (ahead e ts) ++ ents (behind e ts) := by
    unfold ents
    rw [← List.map_append, ahead_behind]
  rw [h1]
  unfold ents
  rw [List.map_append, List.map_cons]
  refine List.perm_middle.trans ?_
  exact (List.perm_append_comm (l₁ := [e])).trans (List.Perm.refl _)

/-- An entry that was put in. -/
theorem Held.ins {ts ts' : List Tw} {es : List Ent} {e : Ent} {h : Int} (H : Held ts es) (hi : InsSays e h ts 0 ts') : Held ts' (es ++ [e]) := by
  rcases hi with ⟨h1, h2, _⟩ | ⟨_, _, h2, _⟩ | ⟨_, _, _, _, h2, _⟩ | ⟨h1, _, _, _, _, X, h2⟩
  · exact absurd h2.symm h1
  · cases h2
  · cases h2
  · subst h2
    refine ⟨(ents_ins e ts X h.toNat).trans (H.1.append_right [e]), fun y hy => ?_⟩
    rcases List.mem_append.1 hy with hy | hy
    · exact H.2 y hy
    · rw [List.mem_singleton.1 hy]; exact h1
theorem InsSays.code {ts ts' : List Tw} {e : Ent} {h : Int} {c : Nat} (hi : InsSays e h ts c ts') (hc : c ≠ 0) : ts' = ts := by
  rcases hi with ⟨_, _, h2⟩ | ⟨_, _, _, h2⟩ | ⟨_, _, _, _, _, h2⟩ | ⟨_, _, _, _, h1, _⟩
  · exact h2
  · exact h2
  · exact h2
  · exact absurd h1 hc
theorem InsSays.small {ts ts' : List Tw} {e : Ent} {h : Int} {c : Nat} (hi : InsSays e h ts c ts') : c < 1000 := by
  rcases hi with ⟨_, h1, _⟩ | ⟨_, _, h1, _⟩ | ⟨_, _, _, _, h1, _⟩ | ⟨_, _, _, _, h1, _⟩
  · rw [h1]
    unfold Ent.chk
    repeat' split
    all_goals omega
  all_goals omega

theorem InsSays.len {ts ts' : List Tw} {e : Ent} {h : Int} {c : Nat} (hi : InsSays e h ts c ts') : ts'.length ≤ ts.length + 1 := by
  rcases hi with ⟨_, _, h2⟩ | ⟨_, _, _, h2⟩ | ⟨_, _, _, _, _, h2⟩ | ⟨_, _, _, _, _, X, h2⟩
  all_goals rw [h2]
  · omega
  · omega
  · omega
  · have := congrArg List.length (ahead_behind e ts)
    rw [List.length_append] at this
    rw [List.length_append, List.length_cons]; omega

/-- Entries, none of which is another's. -/
def Apart (es : List Ent) : Prop := es.Pairwise fun a b => Ent.cmp a b ≠ 0
theorem cmp_ne_symm {a b : Ent} (h : Ent.cmp a b ≠ 0) : Ent.cmp b a ≠ 0 := by
  have := isCmp_ent.anti a b
  omega
theorem Held.apart {ts : List Tw} {es : List Ent} (H : Held ts es) (hr : Rising ts) : Apart es := by
  have h1 : Apart (ents ts) := by
    unfold ents
    exact List.pairwise_map.2 (hr.imp fun {a b} h => by omega)
  exact (H.1.pairwise_iff cmp_ne_symm).1 h1

theorem rising_ents {ts : List Tw} (hr : Rising ts) : (ents ts).Pairwise fun a b => Ent.cmp a b < 0 := List.pairwise_map.2 hr

/-- Two tables that hold the same entries tell the same. -/
theorem Held.same {ts tt : List Tw} {es : List Ent} (H : Held ts es) (K : Held tt es) (h1 : Rising ts) (h2 : Rising tt) : ents ts = ents tt :=
  List.Perm.eq_of_pairwise (le := fun a b => Ent.cmp a b < 0) (fun a b _ _ h h' => by
    have := isCmp_ent.anti a b
    omega) (rising_ents h1) (rising_ents h2) (H.1.trans K.1.symm)

/-- The last entry that is not yet in goes in. -/
theorem Held.back {tt tt' : List Tw} {es : List Ent} {i : Nat} {h : Int} {c : Nat} (hi : i < es.length) (K : Held tt (es.drop (i + 1))) (ha : Apart es) (hc : es[i].chk = 0) (h1 : 1 ≤ h) (h2 : h ≤ 12) (hs : InsSays es[i] h tt c tt') : c = 0 ∧ Held tt' (es.drop i) := by
  have hd : es.drop i = es[i] :: es.drop (i + 1) := List.drop_eq_getElem_cons hi
  have hf : found es[i] tt = none := by
    cases hf : found es[i] tt with
    | none => rfl
    | some t =>
      exfalso
      obtain ⟨g1, g2, g3⟩ := found_mem hf
      have g4 : t.e ∈ es.drop (i + 1) := (K.1.mem_iff).1 (List.mem_map_of_mem g1)
      have g5 : (es.drop i).Pairwise fun a b => Ent.cmp a b ≠ 0 := ha.drop
      rw [hd] at g5
      have g6 := (List.pairwise_cons.1 g5).1 _ g4
      apply g6
      rw [cmp_same (a := t.e) (b := es[i]) g3 g2, cmp_self]
  have h0 : c = 0 := by
    rcases hs with ⟨g, _⟩ | ⟨_, g, _⟩ | ⟨_, _, _, g, _⟩ | ⟨_, _, _, _, g, _⟩
    · exact absurd hc g
    · omega
    · exact absurd hf g
    · exact g
  subst h0
  refine ⟨rfl, ?_⟩
  have h3 := K.ins hs
  rw [hd]
  refine ⟨h3.1.trans List.perm_append_comm, fun e he => ?_⟩
  exact h3.2 e (by
    rcases List.mem_cons.1 he with rfl | he
    · simp
    · exact List.mem_append_left _ he)

def entSize (e : Ent) : Nat := e.key.length + e.value.length + 32
theorem sizeOf_ents (ts : List Tw) : sizeOf_ ts = ((ents ts).map entSize).sum := by
  unfold sizeOf_ ents
  rw [List.map_map]
  rfl

/-- Two entries that stand in order: by key, or of one key, the newer one ahead. -/
theorem cmp_neg {a b : Ent} (h : Ent.cmp a b < 0) : Op.bytesLess a.key b.key = true ∨ (a.key = b.key ∧ b.seq < a.seq) := by
  unfold Ent.cmp Ent.lex Ent.bcmp at h
  by_cases h1 : Op.bytesLess a.key b.key = true
  · exact .inl h1
  · rw [if_neg h1] at h
    by_cases h2 : Op.bytesLess b.key a.key = true
    · rw [if_pos h2] at h
      simp at h
    · rw [if_neg h2] at h
      simp at h
      have h3 := bless_tot a.key b.key
      simp only [Bool.not_eq_true] at h1 h2
      rw [h1, h2] at h3
      refine .inr ⟨by simpa using h3, ?_⟩
      unfold Ent.sgn at h
      split at h
      · assumption
      · split at h <;> omega
end Go.Proofs.Ytdjjkdhhjdafmaa
