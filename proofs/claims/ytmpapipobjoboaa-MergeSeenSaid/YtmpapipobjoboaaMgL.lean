/- Merge: the heap's methods: Less. -/
import Derived.Test.YtmpapipobjoboaaMgH
namespace Go.Proofs.Ytmpapipobjoboaa
open Go.RowKit

theorem ents0_at {F : Nat → Prop} {w : World} {v : Value} {h : Hd} (hr : Rw entK F w v h.l) (hne : h.l ≠ []) :
    ∃ b off cap n, v = .slice (some ⟨b, off, none⟩) n cap ∧ n = h.l.length ∧ 0 < n ∧ F b ∧ b < w.heap.size ∧ ∃ vk vv, Bytes F w vk h.first.key ∧ Bytes F w vv h.first.value ∧ C4o b off h.first vk vv w := by
  have hl : 0 < h.l.length := List.length_pos_iff.2 hne
  obtain ⟨b, off, cap, e, hF, hb, hc⟩ := ents_at hr hl
  obtain ⟨vk, vv, h1, h2, c0, c1, c2, c3⟩ := hc 0 hl
  have hf : h.l[0] = h.first := by
    simp [Hd.first, List.headD_eq_head?_getD, List.head?_eq_getElem?, hl]
  rw [hf] at h1 h2 c1 c2
  rw [Nat.zero_mul, Nat.add_zero] at c0 c1 c2 c3
  exact ⟨b, off, cap, _, e, rfl, hl, hF, hb, vk, vv, h1, h2, c0, c1, c2, c3⟩

def LessPost (r : Bool) (w : World) (x : Ending) (w' : World) : Prop := x = .returned (.bool r) ∧ Below w.heap.size w w'

theorem lex_lt0 {c s : Int} (h : c < 0) : decide (Ent.lex c s < 0) = true := by unfold Ent.lex; rw [if_pos (by omega)]; simpa using h
theorem lex_gt0 {c s : Int} (h : 0 < c) : decide (Ent.lex c s < 0) = false := by unfold Ent.lex; rw [if_pos (by omega)]; simp; omega
theorem lex_eq0 {a b : Int} : decide (Ent.lex 0 (Ent.sgn a b) < 0) = decide (a < b) := by
  unfold Ent.lex Ent.sgn; by_cases h : a < b
  · simp [h]
  · by_cases h2 : b < a <;> simp [h, h2]

set_option maxRecDepth 100000 in
set_option maxHeartbeats 1000000 in
theorem hless_any {F : Nat → Prop} {w : World} {v : Value} {l : List Hd} {B : Nat} (h : ROwnF headK F B 80 w v l) (hlen : l.length ≤ 1000000) (i j : Nat) (hi : i < l.length) (hj : j < l.length) (ni : (hat l i).l ≠ []) (nj : (hat l j).l ≠ []) :
    Calls Try.prog 102 #[v, .int .i64 (i : Int), .int .i64 (j : Int)] w (LessPost (decide (hcmp (hat l i) (hat l j) < 0)) w) := by
  obtain ⟨g, cap, rfl, _, hg, hf, hc⟩ := hds_at h (by omega)
  obtain ⟨ui, hui, ci0, ci1⟩ := hc i hi
  obtain ⟨uj, huj, cj0, cj1⟩ := hc j hj
  obtain ⟨bi, oi, capi, mi, rfl, hmi, li, _, hbi, ki, vi, hki, hvi, hci⟩ := ents0_at hui ni
  obtain ⟨bj, oj, capj, mj, rfl, hmj, lj, _, hbj, kj, vj, hkj, hvj, hcj⟩ := ents0_at huj nj
  obtain ⟨kia, kic, rfl⟩ := hki.isSlice
  obtain ⟨via, vic, rfl⟩ := hvi.isSlice
  obtain ⟨kja, kjc, rfl⟩ := hkj.isSlice
  obtain ⟨vja, vjc, rfl⟩ := hvj.isSlice
  have hml : mi ≤ 9223372036854775807 := by have := hui.len; unfold maxLen at this; omega
  have hmj' : mj ≤ 9223372036854775807 := by have := huj.len; unfold maxLen at this; omega
  have HI := Lib.hid (hki.below (below_drew (Below.refl _ _)))
  have HJ := Lib.hid (hkj.below (below_drew (Below.refl _ _)))
  have HVI := Lib.hid (hvi.below (below_drew (Below.refl _ _)))
  have HVJ := Lib.hid (hvj.below (below_drew (Below.refl _ _)))
  have b1 : (i : Int) < (l.length : Int) := by omega
  have b2 : (j : Int) < (l.length : Int) := by omega
  have b3 : 0 ≤ (i : Int) := by omega
  have b4 : 0 ≤ (j : Int) := by omega
  clear h hui huj hc hf hmi hmj hki hkj hvi hvj ni nj
  unfold hcmp
  generalize (hat l i).first = x at *
  generalize (hat l j).first = y at *
  generalize (hat l i).no = p at *
  generalize (hat l j).no = q at *
  generalize l.length = n at *
  obtain ⟨c, hcc⟩ : ∃ c, Ent.cmp x y = c := ⟨_, rfl⟩
  rw [hcc]
  have HC := Lib.hid hcc
  have HX : Hid (C4o bi oi x (.slice kia x.key.length kic) (.slice via x.value.length vic) w.drew) := hci
  have HY : Hid (C4o bj oj y (.slice kja y.key.length kjc) (.slice vja y.value.length vjc) w.drew) := hcj
  have HA : Hid (w.drew.cell? ⟨g, i * 2, none⟩ = some (.slice (some ⟨bi, oi, none⟩) mi capi) ∧ w.drew.cell? ⟨g, j * 2, none⟩ = some (.slice (some ⟨bj, oj, none⟩) mj capj)) := ⟨ci0, cj0⟩
  have HN : Hid (w.cell? ⟨g, i * 2 + 1, none⟩ = some (.int .i64 p) ∧ w.cell? ⟨g, j * 2 + 1, none⟩ = some (.int .i64 q)) := ⟨ci1, cj1⟩
  have HB : Hid (g < w.drew.heap.size ∧ bi < w.drew.heap.size ∧ bj < w.drew.heap.size) := ⟨hg, hbi, hbj⟩
  clear hci hcj ci0 ci1 cj0 cj1 hcc hg hbi hbj
  go_enter Try.func102, Try.ntmps102
  go_wp2_with fail
  go_region_held3 (fun w' => (w'.cell? ⟨g, i * 2, none⟩ = some (.slice (some ⟨bi, oi, none⟩) mi capi) ∧ w'.cell? ⟨g, j * 2, none⟩ = some (.slice (some ⟨bj, oj, none⟩) mj capj)) ∧ (w'.cell? ⟨bi, oi, none⟩ = some (.slice kia x.key.length kic) ∧ w'.cell? ⟨bi, oi + 1, none⟩ = some (.int .u64 x.seq) ∧ w'.cell? ⟨bi, oi + 2, none⟩ = some (.int .i64 x.kind) ∧ w'.cell? ⟨bi, oi + 3, none⟩ = some (.slice via x.value.length vic)) ∧ (w'.cell? ⟨bj, oj, none⟩ = some (.slice kja y.key.length kjc) ∧ w'.cell? ⟨bj, oj + 1, none⟩ = some (.int .u64 y.seq) ∧ w'.cell? ⟨bj, oj + 2, none⟩ = some (.int .i64 y.kind) ∧ w'.cell? ⟨bj, oj + 3, none⟩ = some (.slice vja y.value.length vjc)))
    (first | exact ⟨HA.out, HX.out, HY.out⟩ | exact ⟨⟨(hbx1.cell (p := ⟨g, i * 2, none⟩) HB.out.1).trans HA.out.1, (hbx1.cell (p := ⟨g, j * 2, none⟩) HB.out.1).trans HA.out.2⟩, HX.out.keep hbx1 HB.out.2.1, HY.out.keep hbx1 HB.out.2.2⟩)
    (first | (go_at_call 59; refine Calls.mono (ecompare_at _ _ x y c HC.out (.slice kia x.key.length kic) (.slice via x.value.length vic) (.slice kja y.key.length kjc) (.slice vja y.value.length vjc) _ HI.out HJ.out) ?_; rintro e x1 ⟨rfl, hbx1⟩; skip))
  have HW1 : Hid (Below w.heap.size w x1) := below_of_drew hbx1
  have kp : x1.cell? ⟨g, i * 2 + 1, none⟩ = some (.int .i64 p) := (hbx1.cell (p := ⟨g, i * 2 + 1, none⟩) HB.out.1).trans HN.out.1
  have kq : x1.cell? ⟨g, j * 2 + 1, none⟩ = some (.int .i64 q) := (hbx1.cell (p := ⟨g, j * 2 + 1, none⟩) HB.out.1).trans HN.out.2
  clear hbx1 HA HX HY HN HB HI HJ HVI HVJ HC
  by_cases h1 : c < 0
  · have e1 : decide (c < 0) = true := by simpa using h1
    go_wp2_with fail
    go_quiet (fail)
    all_goals
      go_wp2_with fail
      go_ret
      exact ⟨ret_bool (lex_lt0 h1).symm, below_dn HW1.out _⟩
  · have e1 : decide (c < 0) = false := by simpa using h1
    by_cases h2 : c = 0
    · subst h2
      go_wp2_with fail
      go_quiet (fail)
      all_goals
        go_wp2_with fail
        go_ret
        exact ⟨ret_bool lex_eq0.symm, below_dn HW1.out _⟩
    · have e2 : (c == 0) = false := by simpa using h2
      go_wp2_with fail
      go_quiet (fail)
      all_goals
        go_wp2_with fail
        go_ret
        exact ⟨ret_bool (lex_gt0 (by omega)).symm, below_dn HW1.out _⟩
end Go.Proofs.Ytmpapipobjoboaa
