/- compact: Cut, plain. -/
import Derived.Test.YtmpapipobjoboaaCoI
import Derived.Test.YtmpapipobjoboaaMgSeen
namespace Go.Proofs.Ytmpapipobjoboaa
open Go.RowKit

theorem Fl.rows {D : Nat → Prop} {A : Nat} {w : World} {v : Value} {us : List Value} {files : List (List Ent)} (h : Fl D A w v us files) : Rw (rowK entK) (fun k => A ≤ k) w v files := by
  obtain ⟨cs, h1, h2⟩ := h.arr
  obtain ⟨rfl, _⟩ := els_vals h2
  have hs := (Sl.of_owns h1).mono (F' := fun k => A ≤ k) fun k _ hk => (World.ownsRow.lt h1 k hk).1
  refine ⟨cs, by rw [← h.len]; exact hs, els_rows files cs h.len fun i hi => ?_⟩
  have hi' : i < cs.length := by rw [h.len]; exact hi
  refine ⟨uq cs i, by simp [uq, hi'], ?_⟩
  have h3 := h.row i hi'
  rw [rat_eq hi]
  exact h3.rows.mono fun k _ hk => hk.elim (fun e => (h3.lt k e).1) fun hk => hk.1.1

def sizeE (l : List Ent) : Nat := (l.map fun e => e.key.length + e.value.length + 32).sum
theorem sizeE_snoc (l : List Ent) (e : Ent) : sizeE (l ++ [e]) = sizeE l + (e.key.length + e.value.length + 32) := by simp [sizeE]
def lastF (fs : List (List Ent)) : List Ent := fs.getD (fs.length - 1) []
/-- Does an entry begin a file? -/
def NewF (t : Int) (l : List Ent) (j : Nat) (fs : List (List Ent)) : Prop := j = 0 ∨ (t ≤ (sizeE (lastF fs) : Int) ∧ (eat l (j - 1)).key ≠ (eat l j).key)
open Classical in
noncomputable def openF (t : Int) (l : List Ent) (j : Nat) (fs : List (List Ent)) : List (List Ent) := if NewF t l j fs then fs ++ [[]] else fs
/-- The files of the first j entries. -/
noncomputable def cutTo (t : Int) (l : List Ent) : Nat → List (List Ent)
  | 0 => []
  | j + 1 => (openF t l j (cutTo t l j)).set ((openF t l j (cutTo t l j)).length - 1) (lastF (openF t l j (cutTo t l j)) ++ [eat l j])
theorem cutTo_succ (t : Int) (l : List Ent) (j : Nat) : cutTo t l (j + 1) = (openF t l j (cutTo t l j)).set ((openF t l j (cutTo t l j)).length - 1) (lastF (openF t l j (cutTo t l j)) ++ [eat l j]) := rfl
theorem openF_new {t : Int} {l : List Ent} {j : Nat} {fs : List (List Ent)} (h : NewF t l j fs) : openF t l j fs = fs ++ [[]] := by unfold openF; rw [if_pos h]
theorem openF_old {t : Int} {l : List Ent} {j : Nat} {fs : List (List Ent)} (h : ¬ NewF t l j fs) : openF t l j fs = fs := by unfold openF; rw [if_neg h]
theorem lastF_new (fs : List (List Ent)) : lastF (fs ++ [[]]) = [] := by simp [lastF]
theorem lastF_set {fs : List (List Ent)} {x : List Ent} (h : 0 < fs.length) : lastF (fs.set (fs.length - 1) x) = x := by
  unfold lastF
  rw [List.length_set]
  simp [List.getD, show fs.length - 1 < fs.length by omega]
theorem cutTo_pos (t : Int) (l : List Ent) : ∀ {j : Nat}, 0 < j → 0 < (cutTo t l j).length
  | 0, h => by omega
  | j + 1, _ => by
    rw [cutTo_succ, List.length_set]
    by_cases h : NewF t l j (cutTo t l j)
    · rw [openF_new h]; simp
    · rw [openF_old h]
      by_cases h0 : j = 0
      · exact absurd (.inl h0) h
      · exact cutTo_pos t l (by omega)
theorem openF_pos (t : Int) (l : List Ent) (j : Nat) : 0 < (openF t l j (cutTo t l j)).length := by
  have := cutTo_pos t l (j := j + 1) (Nat.succ_pos _)
  rwa [cutTo_succ, List.length_set] at this
theorem cutTo_len (t : Int) (l : List Ent) : ∀ j : Nat, (cutTo t l j).length ≤ j
  | 0 => Nat.le_refl _
  | j + 1 => by
    have := cutTo_len t l j
    rw [cutTo_succ, List.length_set]
    unfold openF
    split
    · simp; omega
    · omega
theorem lastF_cut (t : Int) (l : List Ent) (j : Nat) : lastF (cutTo t l (j + 1)) = lastF (openF t l j (cutTo t l j)) ++ [eat l j] := by rw [cutTo_succ, lastF_set (openF_pos t l j)]
theorem lastF_open (t : Int) (l : List Ent) (j : Nat) (fs : List (List Ent)) : lastF (openF t l j fs) = [] ∨ lastF (openF t l j fs) = lastF fs := by
  unfold openF
  split
  · exact .inl (lastF_new fs)
  · exact .inr rfl
theorem cut_size {t : Int} {l : List Ent} (hs : ∀ i, i < l.length → (eat l i).key.length + (eat l i).value.length ≤ 100000) : ∀ j, j ≤ l.length → sizeE (lastF (cutTo t l j)) ≤ j * 100032 ∧ (lastF (cutTo t l j)).length ≤ j
  | 0, _ => by simp [cutTo, lastF, sizeE]
  | j + 1, hj => by
    obtain ⟨h1, h2⟩ := cut_size (t := t) hs j (by omega)
    have h3 := hs j (by omega)
    rw [lastF_cut, sizeE_snoc, List.length_append, List.length_singleton]
    rcases lastF_open t l j (cutTo t l j) with h | h
    · rw [h]
      have : sizeE [] = 0 := rfl
      rw [this, List.length_nil]
      omega
    · rw [h]
      omega
def CutPost (t : Int) (l : List Ent) (w : World) (x : Ending) (w' : World) : Prop :=
  (rowB l = true ∧ 1 ≤ t ∧ t ≤ 16777216 → ∃ a c, x = .returned (.tuple #[.slice a (cutTo t l l.length).length c, .int .i64 0]) ∧ Rw (rowK entK) (fun k => w.heap.size ≤ k) w' (.slice a (cutTo t l l.length).length c) (cutTo t l l.length)) ∧
  (¬ (rowB l = true ∧ 1 ≤ t ∧ t ≤ 16777216) → x = .returned (.tuple #[.slice none 0 0, .int .i64 2])) ∧ Below w.heap.size w w'
end Go.Proofs.Ytmpapipobjoboaa
