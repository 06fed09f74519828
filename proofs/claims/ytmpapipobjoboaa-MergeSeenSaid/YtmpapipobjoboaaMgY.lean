/- Merge: the document's answer: All. -/
import Derived.Test.YtmpapipobjoboaaMgX
namespace Go.Proofs.Ytmpapipobjoboaa
open Go.RowKit

theorem rows_at {F : Nat → Prop} {w : World} {v : Value} {rs : List (List Ent)} (h : Rw (rowK entK) F w v rs) (hne : 0 < rs.length) :
    ∃ b off cap, v = .slice (some ⟨b, off, none⟩) rs.length cap ∧ F b ∧ b < w.heap.size ∧ ∀ i (hi : i < rs.length), ∃ u, Rw entK F w u rs[i] ∧ w.cell? ⟨b, off + i, none⟩ = some u := by
  obtain ⟨b, off, cap, e, hF, hb, _, _, hc⟩ := h.place hne
  refine ⟨b, off, cap, e, hF, hb, fun i hi => ?_⟩
  obtain ⟨cs, ⟨u, rfl, hu⟩, hes⟩ := hc i hi
  have := hes 0 _ rfl
  rw [show (rowK entK).sz = 1 from rfl, Nat.mul_one, Nat.add_zero] at this
  exact ⟨u, hu, this⟩

/-- Rows that are not too many nor too long. -/
structure ROk (rs : List (List Ent)) : Prop where
  few : rs.length ≤ 100000
  sum : (rs.map List.length).sum ≤ 100000
  big : ∀ r ∈ rs, ∀ e ∈ r, e.key.length ≤ 140737488355328 ∧ e.value.length ≤ 140737488355328

theorem le_sum {l : List Nat} {x : Nat} (h : x ∈ l) : x ≤ l.sum := by
  induction l with
  | nil => cases h
  | cons y l ih =>
    rw [List.sum_cons]
    rcases List.mem_cons.1 h with rfl | h
    · omega
    · have := ih h; omega
theorem ROk.len {rs : List (List Ent)} (h : ROk rs) {r : List Ent} (hr : r ∈ rs) : r.length ≤ 100000 := Nat.le_trans (le_sum (List.mem_map_of_mem hr)) h.sum

open Classical in
/-- Are all rows rows? -/
noncomputable def chkR (rs : List (List Ent)) : Int := if ∀ r ∈ rs, rowB r = true then 0 else 2
theorem chkR_ok {rs : List (List Ent)} (h : ∀ r ∈ rs, rowB r = true) : chkR rs = 0 := by unfold chkR; rw [if_pos h]
theorem chkR_bad {rs : List (List Ent)} {r : List Ent} (hr : r ∈ rs) (h : rowB r = false) : chkR rs = 2 := by unfold chkR; rw [if_neg fun e => by rw [e r hr] at h; cases h]
theorem chkR_iff {rs : List (List Ent)} : chkR rs = 0 ↔ ∀ r ∈ rs, rowB r = true := by
  constructor
  · intro h
    unfold chkR at h
    split at h
    · assumption
    · cases h
  · exact chkR_ok
theorem chkR_or (rs : List (List Ent)) : chkR rs = 0 ∨ chkR rs = 2 := by unfold chkR; split <;> simp
def RowsTo (rs : List (List Ent)) (k : Nat) : Prop := ∀ i, i < k → rowB (rs.getD i []) = true
theorem rat_eq {rs : List (List Ent)} {i : Nat} (h : i < rs.length) : rs[i] = rs.getD i [] := by simp [h]
theorem RowsTo.all {rs : List (List Ent)} (h : RowsTo rs rs.length) : chkR rs = 0 := chkR_ok fun r hr => by
  obtain ⟨i, hi, rfl⟩ := List.mem_iff_getElem.1 hr
  rw [rat_eq hi]; exact h i hi

theorem two_len : ∀ (a b : List Ent), (two a b).length ≤ a.length + b.length
  | [], b => by simp [two]
  | x :: a, [] => by simp [two]
  | x :: a, y :: b => by
    have h1 := two_len a (y :: b)
    have h2 := two_len a b
    have h3 := two_len (x :: a) b
    rw [two]
    simp only [List.length_cons] at *
    split
    · simp only [List.length_cons]; omega
    · split <;> simp only [List.length_cons] <;> omega
termination_by a b => a.length + b.length

def allOf (rs : List (List Ent)) : List Ent := rs.foldl two []
theorem allOf_snoc (rs : List (List Ent)) (k : Nat) (h : k < rs.length) : allOf (rs.take (k + 1)) = two (allOf (rs.take k)) (rs.getD k []) := by
  rw [List.take_succ_eq_append_getElem h, rat_eq h]
  simp [allOf]
theorem allOf_len (rs : List (List Ent)) : (allOf rs).length ≤ (rs.map List.length).sum := by
  have : ∀ (rs : List (List Ent)) (a : List Ent), (rs.foldl two a).length ≤ a.length + (rs.map List.length).sum := by
    intro rs
    induction rs with
    | nil => intro a; simp
    | cons r rs ih =>
      intro a
      have h1 := ih (two a r)
      have h2 := two_len a r
      simp only [List.foldl_cons, List.map_cons, List.sum_cons]
      omega
  have h := this rs []
  simpa [allOf] using h
theorem sum_take (l : List Nat) (k : Nat) : (l.take k).sum ≤ l.sum := by
  induction l generalizing k with
  | nil => simp
  | cons x l ih => cases k with
    | zero => simp
    | succ k => have := ih k; simp only [List.take_succ_cons, List.sum_cons]; omega
theorem allOf_take (rs : List (List Ent)) (k : Nat) : (allOf (rs.take k)).length ≤ (rs.map List.length).sum := by
  have h1 := allOf_len (rs.take k)
  have h2 := sum_take (rs.map List.length) k
  rw [List.map_take] at h1
  omega
/-- What the document answers. -/
noncomputable def refAll (rs : List (List Ent)) : List Ent := if chkR rs = 0 then allOf rs else []

set_option maxRecDepth 100000 in
set_option maxHeartbeats 1000000 in
theorem rcheckR_any (F : Nat → Prop) (v : Value) (rs : List (List Ent)) (w : World) (h : Rw (rowK entK) F w v rs) (hok : ROk rs) :
    Calls Try.prog 57 #[v] w fun x w' => x = .returned (.int .i64 (chkR rs)) ∧ Below w.heap.size w w' := by
  obtain ⟨xa, ca, rfl⟩ := h.isSlice
  have HA := Lib.hid h
  have HO := Lib.hid hok
  have hfew := hok.few
  clear h hok
  obtain ⟨n, hn⟩ : ∃ n, rs.length = n := ⟨_, rfl⟩
  have HN := Lib.hid hn
  rw [hn] at HA hfew
  rw [hn]
  clear hn
  go_enter Try.func57, Try.ntmps57
  go_wp2_with fail
  go_loopw [3] (fun iv wr => ∃ (j : Nat), iv = .int .i64 (j : Int) ∧ j ≤ n ∧ Hid (RowsTo rs j) ∧ Hid (Below w.heap.size w wr)) (fun iv _ => n - (intOf iv).toNat)
  case atStart => exact ⟨0, rfl, by omega, fun i hi => by omega, Below.refl _ _⟩
  case round =>
    obtain ⟨j, rfl, hj, HR, HB⟩ := hrel
    by_cases hlt : j < n
    · have t1 : (j : Int) < (n : Int) := by omega
      have hl1 : j < rs.length := by rw [HN.out]; omega
      obtain ⟨ba, oa, capa, ea, _, hba, hca⟩ := rows_at (HA.out.below HB.out) (by omega)
      obtain ⟨u, hu, hc⟩ := hca j hl1
      injection ea with e1 e2 e3
      subst e1 e3
      clear e2
      have HL := Lib.hid (HO.out.len (List.getElem_mem hl1))
      have HM := Lib.hid (List.getElem_mem hl1)
      rw [rat_eq hl1] at hu HL HM
      obtain ⟨ua, uc, rfl⟩ := hu.isSlice
      have HU := Lib.hid hu
      clear hca hu hba hl1
      go_wp2_with fail
      refine Calls.mono (rcheck_any _ _ _ _ HU.out (by have := HL.out; omega)) ?_
      rintro _ w1 ⟨rfl, hb1⟩
      have HW : Hid (Below w.heap.size w w1) := HB.out.trans (hb1.mono HB.out.size)
      clear hb1 hc
      unfold chkE
      cases hc : rowB (rs.getD j []) with
      | true =>
        rw [if_pos rfl]
        have HC := Lib.hid hc
        clear hc
        go_wp2_with fail
        go_roundw
        · exact ⟨j + 1, by go_num, by omega, (fun i hi => by
            by_cases e : i = j
            · rw [e]; exact HC.out
            · exact HR.out i (by omega)), HW.out⟩
        · simp only [intOf]; omega
      | false =>
        rw [if_neg (by decide)]
        have HC := Lib.hid hc
        clear hc
        go_wp2_with fail
        go_ret
        exact ⟨ret_int (chkR_bad HM.out HC.out).symm, HW.out⟩
    · have t1 : ¬ (j : Int) < (n : Int) := by omega
      go_wp2_with fail
      go_ret
      exact ⟨ret_int (RowsTo.all (by rw [HN.out]; exact fun i hi => HR.out i (by omega))).symm, HB.out⟩

def AllPost (F : Nat → Prop) (rs : List (List Ent)) (w : World) (x : Ending) (w' : World) : Prop :=
  ∃ v', x = .returned (.tuple #[v', .int .i64 (chkR rs)]) ∧ Rw entK (fun k => F k ∨ w.heap.size ≤ k) w' v' (refAll rs) ∧ Below w.heap.size w w'

set_option maxRecDepth 100000 in
set_option maxHeartbeats 1000000 in
theorem rall_any (F : Nat → Prop) (v : Value) (rs : List (List Ent)) (w : World) (h : Rw (rowK entK) F w v rs) (hok : ROk rs) :
    Calls Try.prog 19 #[v] w (AllPost F rs w) := by
  obtain ⟨xa, ca, rfl⟩ := h.isSlice
  have HA := Lib.hid h
  have HO := Lib.hid hok
  have hfew := hok.few
  clear h hok
  obtain ⟨n, hn⟩ : ∃ n, rs.length = n := ⟨_, rfl⟩
  have HN := Lib.hid hn
  rw [hn] at HA hfew
  rw [hn]
  clear hn
  go_enter Try.func19, Try.ntmps19
  go_wp2_with fail
  refine Calls.mono (rcheckR_any F _ rs _ HA.out HO.out) ?_
  rintro _ w1 ⟨rfl, hb1⟩
  have HW1 := Lib.hid hb1
  clear hb1
  rcases chkR_or rs with hc | hc
  · have HC := Lib.hid hc
    rw [hc]
    clear hc
    go_wp2_with fail
    go_loopw [5, 6] (fun ov iv wr => ∃ (j : Nat), iv = .int .i64 (j : Int) ∧ j ≤ n ∧ Hid (Rw entK (fun k => F k ∨ w.heap.size ≤ k) wr ov (allOf (rs.take j))) ∧ Hid (Below w.heap.size w wr)) (fun _ iv _ => n - (intOf iv).toNat)
    case atStart => exact ⟨0, rfl, by omega, Rw.nil _ _ _, HW1.out⟩
    case round =>
      obtain ⟨j, rfl, hj, HR, HB⟩ := hrel
      obtain ⟨oa, oc, rfl⟩ := HR.out.isSlice
      by_cases hlt : j < n
      · have t1 : (j : Int) < (n : Int) := by omega
        have hl1 : j < rs.length := by rw [HN.out]; omega
        obtain ⟨ba, oa', capa, ea, _, hba, hca⟩ := rows_at (HA.out.below HB.out) (by omega)
        obtain ⟨u, hu, hc⟩ := hca j hl1
        injection ea with e1 e2 e3
        subst e1 e3
        clear e2
        have HL := Lib.hid (HO.out.len (List.getElem_mem hl1))
        rw [rat_eq hl1] at hu HL
        obtain ⟨ua, uc, rfl⟩ := hu.isSlice
        have HU := Lib.hid hu
        have HT := Lib.hid (allOf_snoc rs j hl1)
        have HLA : Hid ((allOf (rs.take j)).length ≤ 400000) := Nat.le_trans (allOf_take rs j) (Nat.le_trans HO.out.sum (by decide))
        clear hca hu hba hl1
        generalize allOf (rs.take j) = out at *
        go_wp2_with fail
        refine Calls.mono (two_any (fun k => F k ∨ w.heap.size ≤ k) _ _ _ _ _ HR.out (HU.out.mono fun k _ h => .inl h) HLA.out (by have := HL.out; omega)) ?_
        rintro _ w2 ⟨v2, rfl, hr2, hb2⟩
        have HR2 : Hid (Rw entK (fun k => F k ∨ w.heap.size ≤ k) w2 v2 (allOf (rs.take (j + 1)))) := by
          rw [HT.out]
          exact hr2.mono fun k _ h => by
            have := HB.out.size
            rcases h with h | h
            · exact h
            · exact .inr (by omega)
        have HB2 : Hid (Below w.heap.size w w2) := HB.out.trans (hb2.mono HB.out.size)
        clear hr2 hb2 hc
        go_wp2_with fail
        go_roundw
        · exact ⟨j + 1, by go_num, by omega, HR2.out, HB2.out⟩
        · simp only [intOf]; omega
      · have t1 : ¬ (j : Int) < (n : Int) := by omega
        have HF : Hid (Rw entK (fun k => F k ∨ w.heap.size ≤ k) wr (.slice oa (allOf (rs.take j)).length oc) (refAll rs)) := by
          have h5 := HR.out
          unfold refAll
          rw [if_pos HC.out]
          have h6 : rs.take j = rs := List.take_of_length_le (by rw [HN.out]; omega)
          rw [h6] at h5 ⊢
          exact h5
        clear HR
        generalize (allOf (rs.take j)).length = q at *
        go_wp2_with fail
        go_ret2
        exact ⟨_, ret2_of rfl (int_eq HC.out.symm), HF.out, HB.out⟩
  · have HC := Lib.hid hc
    rw [hc]
    clear hc
    go_wp2_with fail
    go_ret2
    exact ⟨_, ret2_of rfl (int_eq HC.out.symm), by unfold refAll; rw [if_neg (by rw [HC.out]; decide)]; exact Rw.nil _ _ _, HW1.out⟩
end Go.Proofs.Ytmpapipobjoboaa
