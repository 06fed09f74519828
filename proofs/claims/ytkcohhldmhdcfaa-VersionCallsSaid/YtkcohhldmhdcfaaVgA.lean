/- Chapter 12: the document's edits, plain. -/
import Derived.Test.YtkcohhldmhdcfaaVfEa
namespace Go.Proofs.Ytkcohhldmhdcfaa
open Go.RowKit

/-- The document puts a file ahead of the first that it is not behind. -/
def lowB (lev : Int) (f x : Fil) : Bool := if lev = 0 then decide (x.num < f.num) else decide (Ent.bcmp x.least f.least < 0)
def putTo (l : List Fil) (lev : Int) (f : Fil) : List Fil := insAt l (l.findIdx fun x => !lowB lev f x) f
def putLs (ls : List (List Fil)) (m : Nat) (f : Fil) : List (List Fil) := ls.set m (putTo (lat ls m) (m : Int) f)
/-- The adds that are on a level, one by one. -/
def putsLs (ls : List (List Fil)) (l : List (Int × Fil)) : List (List Fil) := l.foldl (fun ls a => if 0 ≤ a.1 ∧ a.1 < 5 then putLs ls a.1.toNat a.2 else ls) ls
theorem putsLs_more {ls : List (List Fil)} {l : List (Int × Fil)} {k : Nat} (hk : k < l.length) : putsLs ls (l.take (k + 1)) = if 0 ≤ (adat l k).1 ∧ (adat l k).1 < 5 then putLs (putsLs ls (l.take k)) (adat l k).1.toNat (adat l k).2 else putsLs ls (l.take k) := by
  unfold putsLs
  rw [List.take_succ_eq_append_getElem hk, List.foldl_append, adat_eq hk]
  rfl
theorem putsLs_start (ls : List (List Fil)) (l : List (Int × Fil)) : putsLs ls (l.take 0) = ls := rfl
theorem putLs_len (ls : List (List Fil)) (m : Nat) (f : Fil) : (putLs ls m f).length = ls.length := by unfold putLs; rw [List.length_set]
theorem putsLs_len {ls : List (List Fil)} {l : List (Int × Fil)} : ∀ k, k ≤ l.length → (putsLs ls (l.take k)).length = ls.length
  | 0, _ => rfl
  | k + 1, hk => by
    rw [putsLs_more hk]
    split
    · rw [putLs_len, putsLs_len k (by omega)]
    · exact putsLs_len k (by omega)
theorem addsLs_len {ls : List (List Fil)} {l : List (Int × Fil)} : ∀ k, k ≤ l.length → (addsLs ls (l.take k)).length = ls.length
  | 0, _ => rfl
  | k + 1, hk => by rw [addsLs_more hk, addLs_len, addsLs_len k (by omega)]

theorem findIdx_same {p q : Fil → Bool} : ∀ {l : List Fil}, (∀ x ∈ l, p x = q x) → l.findIdx p = l.findIdx q
  | [], _ => rfl
  | a :: l, h => by
    rw [List.findIdx_cons, List.findIdx_cons, h a (List.mem_cons_self ..), findIdx_same fun x hx => h x (List.mem_cons_of_mem _ hx)]
def SameKey (lev : Int) (f x : Fil) : Prop := if lev = 0 then x.num = f.num else x.least = f.least
theorem low_ahead {lev : Int} {f x : Fil} (h : ¬ SameKey lev f x) : (!lowB lev f x) = aheadOf lev f x := by
  unfold SameKey at h
  unfold lowB aheadOf lessC
  by_cases h0 : lev = 0
  · rw [if_pos h0] at h
    rw [if_pos h0, if_pos h0, Bool.eq_iff_iff, Bool.not_eq_true', decide_eq_false_iff_not, decide_eq_true_eq]
    unfold Ent.sgn
    constructor
    · intro h1
      rw [if_pos (by omega)]
      decide
    · intro h1 h2
      rw [if_neg (by omega), if_pos h2] at h1
      exact absurd h1 (by decide)
  · rw [if_neg h0] at h
    rw [if_neg h0, if_neg h0, Bool.eq_iff_iff, Bool.not_eq_true', decide_eq_false_iff_not, decide_eq_true_eq]
    have h1 := isCmp_bcmp.anti x.least f.least
    have h2 : Ent.bcmp x.least f.least ≠ 0 := fun e => h (bcmp_zero e)
    omega
theorem putTo_eq {l : List Fil} {lev : Int} {f : Fil} (h : ∀ x ∈ l, ¬ SameKey lev f x) : putTo l lev f = addTo l lev f := by
  unfold putTo addTo
  rw [findIdx_same (q := aheadOf lev f) fun x hx => low_ahead (h x hx)]

/-- Two files of a level below the first begin with one key. -/
def Dup (ls : List (List Fil)) : Prop := ∃ m, 0 < m ∧ m < 5 ∧ ¬ ((lat ls m).map Fil.least).Nodup
theorem insAt_perm (l : List Fil) (i : Nat) (f : Fil) : (insAt l i f).Perm (f :: l) := by
  unfold insAt
  have h := List.perm_middle (a := f) (l₁ := l.take i) (l₂ := l.drop i)
  rw [List.take_append_drop] at h
  exact h
theorem ins_nodup {l : List Fil} {i : Nat} {f : Fil} (h : ((insAt l i f).map Fil.least).Nodup) : (l.map Fil.least).Nodup ∧ ∀ x ∈ l, x.least ≠ f.least := by
  have h1 := (((insAt_perm l i f).map Fil.least).nodup_iff).1 h
  rw [List.map_cons, List.nodup_cons] at h1
  exact ⟨h1.2, fun x hx e => h1.1 (by rw [← e]; exact List.mem_map_of_mem hx)⟩
theorem Dup.ins {ls : List (List Fil)} {m i : Nat} {f : Fil} (h : Dup ls) (hm : m < ls.length) : Dup (ls.set m (insAt (lat ls m) i f)) := by
  obtain ⟨q, h0, h5, hd⟩ := h
  refine ⟨q, h0, h5, fun hn => ?_⟩
  rw [lat_set hm] at hn
  split at hn
  · rename_i e
    subst e
    exact hd (ins_nodup hn).1
  · exact hd hn
theorem Dup.new {ls : List (List Fil)} {m i : Nat} {f x : Fil} (h0 : 0 < m) (h5 : m < 5) (hm : m < ls.length) (hx : x ∈ lat ls m) (e : x.least = f.least) : Dup (ls.set m (insAt (lat ls m) i f)) := by
  refine ⟨m, h0, h5, fun hn => ?_⟩
  rw [lat_set hm, if_pos rfl] at hn
  exact (ins_nodup hn).2 x hx e

theorem bcmp_lt3 {a b c : List UInt8} (h1 : Ent.bcmp a b ≤ 0) (h2 : Ent.bcmp b c < 0) : Ent.bcmp a c < 0 := by
  by_cases h : Ent.bcmp a c < 0
  · exact h
  · have g1 := isCmp_bcmp.anti a c
    have g2 := isCmp_bcmp.anti b c
    have g3 := isCmp_bcmp.tr c a b (by omega) h1
    omega
theorem fine_le {f : Fil} (h : f.Fine) : Ent.bcmp f.least f.most ≤ 0 := h.order
theorem good_up {v : Ver} (h : Good v) {m : Nat} (hm : m < v.levels.length) (h0 : 0 < m) (i : Nat) : ∀ j, i < j → j < (lat v.levels m).length → Ent.bcmp (fat (lat v.levels m) i).least (fat (lat v.levels m) j).least < 0
  | 0, hi, _ => by omega
  | j + 1, hi, hj => by
    have ok := h.lev m hm (j + 1) hj
    have ok0 := h.lev m hm j (by omega)
    have ho := ok.order (by omega)
    unfold behind at ho
    rw [if_neg (by omega), Nat.add_sub_cancel] at ho
    have h1 := bcmp_lt3 (fine_le ok0.fine) ho
    by_cases e : i = j
    · subst e; exact h1
    · exact bcmp_lt3 (Int.le_of_lt (good_up h hm h0 i j (by omega) (by omega))) h1
theorem dup_chk {v : Ver} (h : Dup v.levels) : chkW v = 2 := by
  obtain ⟨m, h0, h5, hd⟩ := h
  unfold chkW
  rw [if_pos]
  rintro ⟨hh, hg⟩
  apply hd
  unfold List.Nodup
  rw [List.pairwise_iff_getElem]
  intro i j hi hj hij e
  rw [List.length_map] at hi hj
  rw [List.getElem_map, List.getElem_map, fat_eq hi, fat_eq hj] at e
  have := good_up hg (by rw [hh.five]; exact h5) h0 i j hij hj
  rw [e, bcmp_self] at this
  omega

/-- Where numbers come from. -/
theorem hasNum_iff {ls : List (List Fil)} {n : Int} : hasNum ls n = true ↔ ∃ i, ∃ f ∈ lat ls i, f.num = n := by
  unfold hasNum
  rw [List.any_eq_true]
  constructor
  · rintro ⟨l, hl, h⟩
    obtain ⟨f, hf, hn⟩ := List.any_eq_true.1 h
    obtain ⟨i, hi, rfl⟩ := List.mem_iff_getElem.1 hl
    exact ⟨i, f, by unfold lat; simpa [List.getD, hi] using hf, by unfold numIs at hn; simpa using hn⟩
  · rintro ⟨i, f, hf, hn⟩
    by_cases hi : i < ls.length
    · refine ⟨ls[i], List.getElem_mem hi, List.any_eq_true.2 ⟨f, ?_, by unfold numIs; simpa using hn⟩⟩
      unfold lat at hf
      simpa [List.getD, hi] using hf
    · unfold lat at hf
      simp [List.getD, List.getElem?_eq_none (Nat.le_of_not_lt hi)] at hf
theorem hasNum_ins {ls : List (List Fil)} {m i : Nat} {f : Fil} {n : Int} (h : hasNum (ls.set m (insAt (lat ls m) i f)) n = true) : f.num = n ∨ hasNum ls n = true := by
  by_cases hm : m < ls.length
  · obtain ⟨q, g, hg, hn⟩ := hasNum_iff.1 h
    rw [lat_set hm] at hg
    split at hg
    · rcases mem_insAt hg with rfl | hg
      · exact .inl hn
      · exact .inr (hasNum_iff.2 ⟨m, g, hg, hn⟩)
    · exact .inr (hasNum_iff.2 ⟨q, g, hg, hn⟩)
  · rw [List.set_eq_of_length_le (by omega)] at h
    exact .inr h
theorem hasNum_keep {ls : List (List Fil)} {m i : Nat} {f : Fil} {n : Int} (h : hasNum ls n = true) : hasNum (ls.set m (insAt (lat ls m) i f)) n = true := by
  by_cases hm : m < ls.length
  · obtain ⟨q, g, hg, hn⟩ := hasNum_iff.1 h
    refine hasNum_iff.2 ⟨q, g, ?_, hn⟩
    rw [lat_set hm]
    split
    · rename_i e
      subst e
      exact (insAt_perm _ _ _).mem_iff.2 (List.mem_cons_of_mem _ hg)
    · exact hg
  · rw [List.set_eq_of_length_le (by omega)]
    exact h
theorem addNums_mono {l : List (Int × Fil)} {k : Nat} (hk : k < l.length) {n : Int} (h : n ∈ addNums l k) : n ∈ addNums l (k + 1) := by rw [addNums_more hk]; exact List.mem_append_left _ h
theorem addNums_new {l : List (Int × Fil)} {k : Nat} (hk : k < l.length) : (adat l k).2.num ∈ addNums l (k + 1) := by rw [addNums_more hk]; exact List.mem_append_right _ (List.mem_singleton.2 rfl)
theorem puts_from {ls : List (List Fil)} {l : List (Int × Fil)} {n : Int} : ∀ k, k ≤ l.length → hasNum (putsLs ls (l.take k)) n = true → hasNum ls n = true ∨ n ∈ addNums l k
  | 0, _, h => .inl h
  | k + 1, hk, h => by
    rw [putsLs_more hk] at h
    split at h
    · rcases hasNum_ins h with h | h
      · exact .inr (by rw [← h]; exact addNums_new hk)
      · exact (puts_from k (by omega) h).imp id fun h => addNums_mono hk h
    · exact (puts_from k (by omega) h).imp id fun h => addNums_mono hk h
theorem adds_from {ls : List (List Fil)} {l : List (Int × Fil)} {n : Int} : ∀ k, k ≤ l.length → hasNum (addsLs ls (l.take k)) n = true → hasNum ls n = true ∨ n ∈ addNums l k
  | 0, _, h => .inl h
  | k + 1, hk, h => by
    rw [addsLs_more hk] at h
    rcases hasNum_ins h with h | h
    · exact .inr (by rw [← h]; exact addNums_new hk)
    · exact (adds_from k (by omega) h).imp id fun h => addNums_mono hk h
theorem puts_keep {ls : List (List Fil)} {l : List (Int × Fil)} {n : Int} (h : hasNum ls n = true) : ∀ k, k ≤ l.length → hasNum (putsLs ls (l.take k)) n = true
  | 0, _ => h
  | k + 1, hk => by
    rw [putsLs_more hk]
    split
    · exact hasNum_keep (puts_keep h k (by omega))
    · exact puts_keep h k (by omega)
/-- The document finds a clash where the program does. -/
theorem clash_iff {ls : List (List Fil)} {l : List (Int × Fil)} {k : Nat} (hk : k ≤ l.length) : (hasNum (putsLs ls (l.take k)) (adat l k).2.num = true ∨ (adat l k).2.num ∈ addNums l k) ↔ ClashAt ls l k := by
  unfold ClashAt
  constructor
  · rintro (h | h)
    · exact (puts_from k hk h).symm
    · exact .inl h
  · rintro (h | h)
    · exact .inr h
    · exact .inl (puts_keep h k hk)

theorem puts_or {ls : List (List Fil)} {l : List (Int × Fil)} (h5 : ls.length = 5) (hc : ∀ j, j < l.length → ¬ ClashAt ls l j) (ho : ∀ j, j < l.length → ¬ OddAt l j) : ∀ k, k ≤ l.length → putsLs ls (l.take k) = addsLs ls (l.take k) ∨ (Dup (putsLs ls (l.take k)) ∧ Dup (addsLs ls (l.take k)))
  | 0, _ => .inl rfl
  | k + 1, hk => by
    have hr : 0 ≤ (adat l k).1 ∧ (adat l k).1 < 5 := Classical.not_not.1 (ho k hk)
    have l1 := putsLs_len (ls := ls) (l := l) k (by omega)
    have l2 := addsLs_len (ls := ls) (l := l) k (by omega)
    rw [putsLs_more hk, addsLs_more hk, if_pos hr]
    rcases puts_or h5 hc ho k (by omega) with h | ⟨h1, h2⟩
    · by_cases hs : ∃ x ∈ lat (addsLs ls (l.take k)) (adat l k).1.toNat, SameKey (adat l k).1 (adat l k).2 x
      · obtain ⟨x, hx, hs⟩ := hs
        unfold SameKey at hs
        by_cases h0 : (adat l k).1 = 0
        · rw [if_pos h0] at hs
          exfalso
          apply hc k hk
          exact (adds_from k (by omega) (hasNum_iff.2 ⟨_, x, hx, hs⟩)).symm
        · rw [if_neg h0] at hs
          right
          rw [h]
          exact ⟨Dup.new (by omega) (by omega) (by omega) hx hs, Dup.new (by omega) (by omega) (by omega) hx hs⟩
      · left
        rw [h]
        unfold putLs addLs
        rw [putTo_eq]
        intro x hx hk
        exact hs ⟨x, hx, by rw [Int.toNat_of_nonneg hr.1] at hk; exact hk⟩
    · right
      exact ⟨h1.ins (by omega), h2.ins (by omega)⟩
def putV (ls : List (List Fil)) (e : Edi) : Ver := ⟨putsLs ls e.adds, e.next, e.seq, e.log⟩
open Classical in
theorem puts_res {v : Ver} {e : Edi} {ls : List (List Fil)} (h : chkW v = 0) (hd : dropsLs v.levels e.drops = some ls) (h5 : ls.length = 5) (hc : ¬ Clash ls e.adds) (ho : ¬ OddLev e.adds) :
    applyW v e = if chkW (putV ls e) = 0 then (putV ls e, 0) else (zeroV, chkW (putV ls e)) := by
  have hr := puts_or h5 (fun j hj e => hc ⟨j, hj, e⟩) (fun j hj e => ho ⟨j, hj, e⟩) e.adds.length (Nat.le_refl _)
  rw [List.take_length] at hr
  rcases hr with hr | ⟨h1, h2⟩
  · have e1 : putV ls e = newV ls e := by unfold putV newV; rw [hr]
    rw [e1]
    split
    · rename_i hz; exact applyW_ok h hd hc ho hz
    · rename_i hz; exact applyW_bad h hd hc ho hz
  · have c1 : chkW (putV ls e) = 2 := dup_chk h1
    have c2 : chkW (newV ls e) = 2 := dup_chk h2
    rw [c1, if_neg (by decide), applyW_bad h hd hc ho (by rw [c2]; decide), c2]
end Go.Proofs.Ytkcohhldmhdcfaa
