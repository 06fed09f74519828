/- Chapter 14: the next job. -/
import Derived.Test.YtkcohhldmhdcfaaPkG
namespace Go.Proofs.Ytkcohhldmhdcfaa
open Go.RowKit

/-- What pick.Next answers. -/
noncomputable def nextW (v : Ver) (s : Stp) : Int := if mayW v s ≠ 0 then mayW v s else if (worstTo v s 5).2 < 100 then 6 else 0
noncomputable def jLev (v : Ver) (s : Stp) : Nat := (worstTo v s 5).1
def jUp (v : Ver) (i : Nat) : List Fil := if i = 0 then gathL (lat v.levels 0) else [minF (lat v.levels i)]
noncomputable def jLo (v : Ver) (i : Nat) : List Fil := overB v ((i : Int) + 1) (leastOf (jUp v i)) (mostOf (jUp v i))
noncomputable def jAll (v : Ver) (i : Nat) : List Fil := jUp v i ++ jLo v i
noncomputable def jBot (v : Ver) (i : Nat) : Bool := deepB v ((i : Int) + 1) (leastOf (jAll v i)) (mostOf (jAll v i))

theorem worstTo_is (v : Ver) (s : Stp) : ∀ k, ((worstTo v s k).2 = 0) ∨ (scoreW v s (worstTo v s k).1 = (worstTo v s k).2)
  | 0 => .inl rfl
  | k + 1 => by
    rw [worstTo]
    split
    · exact .inr rfl
    · exact worstTo_is v s k
theorem bytesOfLev_nil {v : Ver} {i : Nat} (h : lat v.levels i = []) : bytesOfLev v (i : Int) = 0 := by
  unfold bytesOfLev
  split
  · rw [Int.toNat_natCast, h]; rfl
  · rfl
/-- A level whose score is not 0 has a file, and is not the last. -/
theorem score_some {v : Ver} {s : Stp} {i : Nat} (h : scoreW v s i ≠ 0) : 0 < (lat v.levels i).length ∧ i < 4 := by
  unfold scoreW at h
  split at h
  · exact absurd rfl h
  · rename_i hb
    refine ⟨?_, ?_⟩
    · cases hl : lat v.levels i with
      | cons a l => exact Nat.succ_pos _
      | nil =>
        exfalso
        apply h
        by_cases h0 : i = 0
        · subst h0; rw [if_pos rfl, hl]; simp
        · rw [if_neg h0, bytesOfLev_nil hl]; simp
    · by_cases h4 : i < 4
      · exact h4
      · exfalso
        apply hb
        unfold boundW
        split
        · rfl
        · rw [if_neg (by omega), if_neg (by omega), if_neg (by omega), if_neg (by omega)]
theorem jLev_ok {v : Ver} {s : Stp} (h : nextW v s = 0) : 0 < (lat v.levels (jLev v s)).length ∧ jLev v s < 4 ∧ mayW v s = 0 ∧ 100 ≤ (worstTo v s 5).2 := by
  unfold nextW at h
  split at h
  · rename_i h1; exact absurd h h1
  · rename_i h1
    split at h
    · cases h
    · rename_i h2
      have h3 : 100 ≤ (worstTo v s 5).2 := by omega
      have h4 := score_some (v := v) (s := s) (i := (worstTo v s 5).1) (by rcases worstTo_is v s 5 with e | e <;> omega)
      exact ⟨h4.1, h4.2, by simpa using h1, h3⟩
theorem gath_le (L : List Fil) : ∀ n out, out.length ≤ L.length → (gath L n out).length ≤ L.length
  | 0, _, h => h
  | n + 1, out, h => by
    rw [gath]
    split
    · exact h
    · exact gath_le L n _ (List.length_filter_le _ _)
theorem jUp_le (v : Ver) (i : Nat) : (jUp v i).length ≤ (lat v.levels 0).length + 1 := by
  unfold jUp
  split
  · have := gath_le (lat v.levels 0) (lat v.levels 0).length ((lat v.levels 0).take 1) (by rw [List.length_take]; omega)
    unfold gathL
    omega
  · simp
theorem over_le (v : Ver) (lev : Int) (ls ms : List UInt8) (h : chkW v = 0) : (overB v lev ls ms).length ≤ 10000 := by
  unfold overB
  split
  · rename_i h1
    refine Nat.le_trans (List.length_filter_le _ _) ?_
    exact Nat.le_trans (lev_le_cnt (by omega)) (chkW_good h).2.2
  · exact Nat.zero_le _

theorem gath_mem (L : List Fil) : ∀ n out, (∀ f ∈ out, f ∈ L) → ∀ f ∈ gath L n out, f ∈ L
  | 0, _, h => h
  | n + 1, out, h => by
    rw [gath]
    split
    · exact h
    · exact gath_mem L n _ fun f hf => (List.mem_filter.1 hf).1
theorem jUp_mem {v : Ver} {i : Nat} (hp : 0 < (lat v.levels i).length) : ∀ f ∈ jUp v i, f ∈ lat v.levels i := by
  unfold jUp
  split
  · rename_i h0
    subst h0
    exact gath_mem _ _ _ fun f hf => List.mem_of_mem_take hf
  · intro f hf
    rw [List.mem_singleton.1 hf]
    unfold minF
    obtain ⟨n, hn⟩ : ∃ n, (lat v.levels i).length = n + 1 := ⟨(lat v.levels i).length - 1, by omega⟩
    rw [hn]
    exact minTo_mem _ n (by omega)
theorem over_mem {v : Ver} {lev : Int} {ls ms : List UInt8} : ∀ f ∈ overB v lev ls ms, chkW v = 0 ∧ 0 ≤ lev ∧ lev < v.levels.length ∧ f ∈ lat v.levels lev.toNat := by
  intro f hf
  unfold overB at hf
  split at hf
  · rename_i h; exact ⟨h.1, h.2.1, h.2.2, (List.mem_filter.1 hf).1⟩
  · cases hf
theorem jAll_fine {v : Ver} {i : Nat} (hc : chkW v = 0) (hp : 0 < (lat v.levels i).length) (hi : i < 5) : ∀ f ∈ jAll v i, f.Fine := by
  have h5 := (good_small hc).1
  intro f hf
  rcases List.mem_append.1 hf with h | h
  · exact (chkW_good hc).2.1.fine i (by omega) f (jUp_mem hp f h)
  · obtain ⟨_, h0, h1, hm⟩ := over_mem f h
    exact (chkW_good hc).2.1.fine _ (by omega) f hm
theorem leastTo_in (l : List Fil) : ∀ k, k < l.length → ∃ f ∈ l, leastTo l (k + 1) = f.least
  | 0, h => ⟨_, fat_mem h, by rw [leastTo, if_pos (.inl rfl)]⟩
  | k + 1, h => by
    rw [leastTo]
    split
    · exact ⟨_, fat_mem h, rfl⟩
    · exact leastTo_in l k (by omega)
theorem mostTo_in (l : List Fil) : ∀ k, k < l.length → ∃ f ∈ l, mostTo l (k + 1) = f.most
  | 0, h => ⟨_, fat_mem h, by rw [mostTo, if_pos (.inl rfl)]⟩
  | k + 1, h => by
    rw [mostTo]
    split
    · exact ⟨_, fat_mem h, rfl⟩
    · exact mostTo_in l k (by omega)
theorem leastOf_in {l : List Fil} (h : 0 < l.length) : ∃ f ∈ l, leastOf l = f.least := by
  obtain ⟨n, hn⟩ : ∃ n, l.length = n + 1 := ⟨l.length - 1, by omega⟩
  unfold leastOf
  rw [hn]
  exact leastTo_in l n (by omega)
theorem mostOf_in {l : List Fil} (h : 0 < l.length) : ∃ f ∈ l, mostOf l = f.most := by
  obtain ⟨n, hn⟩ : ∃ n, l.length = n + 1 := ⟨l.length - 1, by omega⟩
  unfold mostOf
  rw [hn]
  exact mostTo_in l n (by omega)
theorem ends_len {l : List Fil} (hf : ∀ f ∈ l, f.Fine) : (leastOf l).length ≤ 4096 ∧ (mostOf l).length ≤ 4096 := by
  by_cases h : 0 < l.length
  · obtain ⟨f, hm, e⟩ := leastOf_in h
    obtain ⟨g, hg, e2⟩ := mostOf_in h
    rw [e, e2]
    exact ⟨(keyOk_len (hf f hm).least).2, (keyOk_len (hf g hg).most).2⟩
  · obtain rfl : l = [] := List.eq_nil_of_length_eq_zero (by omega)
    exact ⟨Nat.zero_le _, Nat.zero_le _⟩
/-- A job's cells. -/
def jobC (lev : Int) (u lo le mo : Value) (b : Bool) : List Value := [.int .i64 lev, u, lo, le, mo, .bool b]
def job0 : List Value := jobC 0 (.slice none 0 0) (.slice none 0 0) (.slice none 0 0) (.slice none 0 0) false
structure JAt (b1 b2 rb jb : Nat) (v : Ver) (lv : Value) (s : Stp) (jc : List Value) (w0 w : World) : Prop where
  bx : Boxed w b1 b2 v lv s
  rz : Blk w rb job0.toArray 36
  j : Blk w jb jc.toArray 36
  bel : Below w0.heap.size w0 w
  ne : jb ≠ b1 ∧ jb ≠ b2 ∧ jb ≠ rb
  le : w0.heap.size ≤ jb ∧ w0.heap.size ≤ rb
theorem JAt.below {b1 b2 rb jb : Nat} {v : Ver} {lv : Value} {s : Stp} {jc : List Value} {w0 w w' : World} (h : JAt b1 b2 rb jb v lv s jc w0 w) (hb : Below w.heap.size w w') : JAt b1 b2 rb jb v lv s jc w0 w' :=
  ⟨h.bx.below hb, h.rz.below hb h.rz.lt, h.j.below hb h.j.lt, h.bel.trans (hb.mono h.bel.size), h.ne, h.le⟩
theorem JAt.set {b1 b2 rb jb : Nat} {v : Ver} {lv : Value} {s : Stp} {jc jc' : List Value} {w0 w : World} (h : JAt b1 b2 rb jb v lv s jc w0 w) (i : Nat) (x : Value) (hj : jc.toArray.setIfInBounds i x = jc'.toArray) : JAt b1 b2 rb jb v lv s jc' w0 (w.setCell ⟨jb, i, none⟩ x) :=
  ⟨⟨h.bx.ver.set_other _ _ h.ne.1, h.bx.stp.set_other _ _ h.ne.2.1⟩, h.rz.set_other _ _ h.ne.2.2, by rw [← hj]; exact h.j.set i x, h.bel.setCell h.le.1 _, h.ne, h.le⟩
theorem Rw.off_set {α : Type} {K : Kind α} {F : Nat → Prop} {w : World} {v : Value} {xs : List α} (h : Rw K F w v xs) (a : Addr) (x : Value) (hF : ∀ k, F k → k ≠ a.block) : Rw K F (w.setCell a x) v xs := h.keep fun k _ hk => heap_setCell_other _ _ _ _ (hF k hk)
theorem Bytes.off_set {F : Nat → Prop} {w : World} {v : Value} {bs : List UInt8} (h : Bytes F w v bs) (a : Addr) (x : Value) (hF : ∀ k, F k → k ≠ a.block) : Bytes F (w.setCell a x) v bs := h.keep fun k _ hk => heap_setCell_other _ _ _ _ (hF k hk)
end Go.Proofs.Ytkcohhldmhdcfaa
