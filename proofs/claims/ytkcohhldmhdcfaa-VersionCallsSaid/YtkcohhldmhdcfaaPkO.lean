/- Chapter 14: the theorem of the stage, plain. -/
import Derived.Test.YtkcohhldmhdcfaaPkN
import Derived.Test.YtkcohhldmhdcfaaVfD
namespace Go.Proofs.Ytkcohhldmhdcfaa
open Go.RowKit

theorem bless_iff (a b : List UInt8) : Op.bytesLess a b = true ↔ Ent.bcmp a b < 0 := by
  unfold Ent.bcmp
  split
  · rename_i h; simp [h]
  · rename_i h
    split <;> simp [h]
theorem bless_false {a b : List UInt8} (h : Op.bytesLess a b = false) : 0 ≤ Ent.bcmp a b := by
  rcases (show Ent.bcmp a b < 0 ∨ 0 ≤ Ent.bcmp a b by omega) with h1 | h1
  · rw [(bless_iff a b).2 h1] at h; cases h
  · exact h1
theorem ovl_iff {a b : Fil} : ovl a b = true ↔ 0 ≤ Ent.bcmp a.most b.least ∧ 0 ≤ Ent.bcmp b.most a.least := by
  unfold ovl
  constructor
  · intro h
    simp only [Bool.and_eq_true, Bool.not_eq_true'] at h
    exact ⟨bless_false h.1, bless_false h.2⟩
  · rintro ⟨h1, h2⟩
    have g1 : Op.bytesLess a.most b.least = false := by
      cases hx : Op.bytesLess a.most b.least with
      | false => rfl
      | true => have := (bless_iff _ _).1 hx; omega
    have g2 : Op.bytesLess b.most a.least = false := by
      cases hx : Op.bytesLess b.most a.least with
      | false => rfl
      | true => have := (bless_iff _ _).1 hx; omega
    rw [g1, g2]; rfl
theorem lapB_iff {ls ms : List UInt8} {f : Fil} : lapB ls ms f = true ↔ 0 ≤ Ent.bcmp f.most ls ∧ (ms.length = 0 ∨ Ent.bcmp f.least ms ≤ 0) := by
  unfold lapB
  simp only [Bool.and_eq_true, Bool.or_eq_true, decide_eq_true_eq]
/-- A file that overlaps one of some lies in their keys. -/
theorem lap_of_ovl {l : List Fil} {f g : Fil} (hg : g ∈ l) (h : ovl f g = true) : lapB (leastOf l) (mostOf l) f = true := by
  obtain ⟨h1, h2⟩ := ovl_iff.1 h
  obtain ⟨i, hi, rfl⟩ := mem_fat hg
  have a1 := leastTo_le l l.length i hi
  have a2 := mostTo_ge l l.length i hi
  refine lapB_iff.2 ⟨?_, .inr ?_⟩
  · have h3 := isCmp_bcmp.tr (leastTo l l.length) (fat l i).least f.most a1 (by rw [isCmp_bcmp.anti f.most (fat l i).least]; omega)
    unfold leastOf
    rw [isCmp_bcmp.anti (leastTo l l.length) f.most]
    omega
  · exact isCmp_bcmp.tr f.least (fat l i).most (mostTo l l.length) (by rw [isCmp_bcmp.anti (fat l i).most f.least]; omega) a2
theorem amg_of {l : List Fil} {f : Fil} (h : f ∈ l) : amg l f.num = true := List.any_eq_true.2 ⟨f, h, decide_eq_true rfl⟩
theorem gath_fix {L : List Fil} (hf : ∀ f ∈ L, f.Fine) : ∀ n out, GI L out → L.length ≤ out.length + n → tops L (gath L n out) = gath L n out
  | 0, out, h, hl => by
    rw [gath]
    have h1 := (h.tops hf).length_le
    have h2 : (tops L out).length ≤ L.length := List.length_filter_le _ _
    exact h.same hf (by omega)
  | n + 1, out, h, hl => by
    rw [gath]
    by_cases he : (tops L out).length = out.length
    · rw [if_pos he]; exact h.same hf he
    · rw [if_neg he]
      have h1 := (h.tops hf).length_le
      exact gath_fix hf n _ (h.next hf) (by omega)
theorem gathL_fix {L : List Fil} (hf : ∀ f ∈ L, f.Fine) (hp : 0 < L.length) : tops L (gathL L) = gathL L := gath_fix hf _ _ (GR.start hp).gi (by rw [List.length_take]; omega)
theorem gath_pos {L : List Fil} (hf : ∀ f ∈ L, f.Fine) : ∀ n out, GI L out → 0 < (gath L n out).length
  | 0, out, h => h.pos
  | n + 1, out, h => by
    rw [gath]
    split
    · exact h.pos
    · exact gath_pos hf n _ (h.next hf)
theorem jUp_pos {v : Ver} {i : Nat} (hc : chkW v = 0) (hp : 0 < (lat v.levels i).length) : 0 < (jUp v i).length := by
  unfold jUp
  split
  · rename_i h0
    subst h0
    have h5 := (good_small hc).1
    exact gath_pos ((chkW_good hc).2.1.fine 0 (by omega)) _ _ (GR.start hp).gi
  · simp
/-- On a level that is not 0, files do not overlap. -/
theorem apart {v : Ver} (hc : chkW v = 0) {i : Nat} (hi : i < v.levels.length) (h0 : i ≠ 0) : ∀ d k, k + d + 1 < (lat v.levels i).length → Ent.bcmp (fat (lat v.levels i) k).most (fat (lat v.levels i) (k + d + 1)).least < 0
  | 0, k, hk => by
    have hb := ((chkW_good hc).2.1.lev i hi (k + 1) (by omega)).order (by omega)
    unfold behind at hb
    rw [if_neg h0] at hb
    simpa using hb
  | d + 1, k, hk => by
    have h1 := apart hc hi h0 d k (by omega)
    have hb := ((chkW_good hc).2.1.lev i hi (k + d + 2) (by omega)).order (by omega)
    unfold behind at hb
    rw [if_neg h0] at hb
    have h2 : Ent.bcmp (fat (lat v.levels i) (k + d + 1)).most (fat (lat v.levels i) (k + d + 2)).least < 0 := by simpa using hb
    have h3 := ((chkW_good hc).2.1.lev i hi (k + d + 1) (by omega)).fine.order
    have h4 := isCmp_bcmp.tr _ _ _ h3 (by omega : Ent.bcmp (fat (lat v.levels i) (k + d + 1)).most (fat (lat v.levels i) (k + d + 2)).least ≤ 0)
    have h5 := isCmp_bcmp.tr _ _ _ (by omega : Ent.bcmp (fat (lat v.levels i) k).most (fat (lat v.levels i) (k + d + 1)).least ≤ 0) h4
    rcases (show Ent.bcmp (fat (lat v.levels i) k).most (fat (lat v.levels i) (k + d + 2)).least < 0 ∨ 0 ≤ Ent.bcmp (fat (lat v.levels i) k).most (fat (lat v.levels i) (k + d + 2)).least by omega) with h6 | h6
    · exact h6
    · exfalso
      have h7 : Ent.bcmp (fat (lat v.levels i) (k + d + 2)).least (fat (lat v.levels i) k).most ≤ 0 := by rw [isCmp_bcmp.anti (fat (lat v.levels i) k).most]; omega
      have h8 := isCmp_bcmp.tr _ _ _ h4 h7
      have h9 := isCmp_bcmp.anti (fat (lat v.levels i) k).most (fat (lat v.levels i) (k + d + 1)).least
      omega
/-- A file of the level that overlaps one of the job's is one of the job's. -/
theorem sound_here {v : Ver} {i : Nat} (hc : chkW v = 0) (hp : 0 < (lat v.levels i).length) (hi : i < 5) {f g : Fil} (hf : f ∈ lat v.levels i) (hg : g ∈ jUp v i) (ho : ovl f g = true) : f ∈ jUp v i := by
  have h5 := (good_small hc).1
  by_cases h0 : i = 0
  · subst h0
    have e : jUp v 0 = gathL (lat v.levels 0) := if_pos rfl
    rw [e] at hg ⊢
    rw [← gathL_fix ((chkW_good hc).2.1.fine 0 (by omega)) hp]
    exact List.mem_filter.2 ⟨hf, lap_of_ovl hg ho⟩
  · have hm := jUp_mem hp g hg
    have e : jUp v i = [minF (lat v.levels i)] := if_neg h0
    have hgm : g = minF (lat v.levels i) := by rw [e] at hg; exact List.mem_singleton.1 hg
    rw [e]
    rw [List.mem_singleton, ← hgm]
    obtain ⟨a, ha, rfl⟩ := mem_fat hf
    obtain ⟨b, hb, rfl⟩ := mem_fat hm
    obtain ⟨o1, o2⟩ := ovl_iff.1 ho
    rcases Nat.lt_trichotomy a b with h | h | h
    · have := apart hc (i := i) (by omega) h0 (b - a - 1) a (by omega)
      rw [show a + (b - a - 1) + 1 = b by omega] at this
      omega
    · rw [h]
    · have := apart hc (i := i) (by omega) h0 (a - b - 1) b (by omega)
      rw [show b + (a - b - 1) + 1 = a by omega] at this
      omega
theorem sound_next {v : Ver} {i : Nat} (hc : chkW v = 0) (hi : i < 4) {f g : Fil} (hf : f ∈ lat v.levels (i + 1)) (hg : g ∈ jUp v i) (ho : ovl f g = true) : f ∈ jLo v i := by
  have h5 := (good_small hc).1
  unfold jLo overB
  rw [if_pos ⟨hc, by omega, by omega⟩, show ((i : Int) + 1).toNat = i + 1 by omega]
  exact List.mem_filter.2 ⟨hf, lap_of_ovl hg ho⟩
theorem jBot_eq {v : Ver} {i : Nat} (hc : chkW v = 0) : jBot v i = clearFrom (leastOf (jAll v i)) (mostOf (jAll v i)) v.levels (i + 2) := by
  unfold jBot deepB
  rw [if_pos ⟨hc, by omega⟩, show ((i : Int) + 1).toNat + 1 = i + 2 by omega]
/-- A file over the job's keys. -/
def keyF (ls ms : List UInt8) : Fil := ⟨0, 0, ls, ms, 0, 0⟩
theorem lap_ovl {ls ms : List UInt8} {f : Fil} (h : 1 ≤ ms.length) : ovl f (keyF ls ms) = lapB ls ms f := by
  rw [Bool.eq_iff_iff, ovl_iff, lapB_iff]
  constructor
  · rintro ⟨h1, h2⟩
    exact ⟨h1, .inr (by rw [isCmp_bcmp.anti ms f.least]; exact (by have h3 : 0 ≤ Ent.bcmp ms f.least := h2; omega))⟩
  · rintro ⟨h1, h2⟩
    refine ⟨h1, ?_⟩
    show 0 ≤ Ent.bcmp ms f.least
    rcases h2 with h2 | h2
    · omega
    · rw [isCmp_bcmp.anti f.least ms]; omega
theorem mostOf_some {v : Ver} {i : Nat} (hc : chkW v = 0) (hp : 0 < (lat v.levels i).length) (hi : i < 5) : 1 ≤ (mostOf (jAll v i)).length := by
  have hU := jUp_pos hc hp
  obtain ⟨f, hf, e⟩ := mostOf_in (l := jAll v i) (by unfold jAll; rw [List.length_append]; omega)
  rw [e]
  exact (keyOk_len (jAll_fine hc hp hi f hf).most).1
theorem next_rest {v : Ver} {s : Stp} (hm : mayW v s = 0) (h : nextW v s ≠ 0) : nextW v s = 6 ∧ restB v s = true := by
  unfold nextW at h ⊢
  rw [if_neg (by simp [hm])] at h ⊢
  split at h
  · rename_i h1
    rw [if_pos h1]
    exact ⟨rfl, by unfold restB; simp [hm, h1]⟩
  · exact absurd rfl h
theorem next_job {v : Ver} {s : Stp} (h : nextW v s = 0) : restB v s = false := by
  have := (jLev_ok h).2.2.2
  unfold restB
  rw [show decide ((worstTo v s 5).2 < 100) = false from decide_eq_false (by omega), Bool.and_false]
end Go.Proofs.Ytkcohhldmhdcfaa
