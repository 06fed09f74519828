/- The document's answer for compact: Run; law 15: small, lists. -/
import Derived.Test.YtmpapipobjoboaaCoQ
import Derived.Test.YtmpapipobjoboaaCoM
namespace Go.Proofs.Ytmpapipobjoboaa
open Go.RowKit

def RRunPost (rs : List (List Ent)) (looks : List Int) (bottom : Bool) (t : Int) (w : World) (x : Ending) (w' : World) : Prop :=
  (RunOk rs looks t → ∃ a c, x = .returned (.tuple #[.slice a (cutTo t (runOf looks bottom rs) (runOf looks bottom rs).length).length c, .int .i64 0]) ∧ Rw (rowK entK) Any w' (.slice a (cutTo t (runOf looks bottom rs) (runOf looks bottom rs).length).length c) (cutTo t (runOf looks bottom rs) (runOf looks bottom rs).length)) ∧
  (¬ RunOk rs looks t → x = .returned (.tuple #[.slice none 0 0, .int .i64 2])) ∧ Below w.heap.size w w'

set_option maxRecDepth 100000 in
set_option maxHeartbeats 2000000 in
theorem rrun_any (F G : Nat → Prop) (v vk : Value) (rs : List (List Ent)) (looks : List Int) (bottom : Bool) (t : Int) (w : World) (h : Rw (rowK entK) F w v rs) (hk : Rw unK G w vk looks) (hok : ROk rs) (hl : Lite rs) (hml : looks.length ≤ 400000) :
    Calls Try.prog 40 #[v, vk, .bool bottom, .int .i64 t] w (RRunPost rs looks bottom t w) := by
  obtain ⟨xa, ca, rfl⟩ := h.isSlice
  obtain ⟨ka, kc, rfl⟩ := hk.isSlice
  have HA := Lib.hid h
  have HK := Lib.hid hk
  have HO := Lib.hid hok
  have HL := Lib.hid hl
  have HML := Lib.hid hml
  clear h hk hok hl hml
  go_enter Try.func40, Try.ntmps40
  go_wp2_with fail
  refine Calls.mono (rall_any F _ rs _ HA.out HO.out) ?_
  rintro _ w1 ⟨v1, rfl, hv1, hb⟩
  have HW1 := Lib.hid hb
  have HK1 := Lib.hid (HK.out.below hb)
  clear hb
  rcases chkR_or rs with hc | hc
  · have HC := Lib.hid hc
    rw [hc]
    have hS := sorted_of_chk hc
    have hfrom := allOf_from (fun r hr => rowB_sorted.1 (chkR_iff.1 hc r hr))
    have HSo := Lib.hid hS
    have hlen : (allOf rs).length ≤ 100000 := Nat.le_trans (allOf_len rs) HO.out.sum
    have HLen := Lib.hid hlen
    have hre : refAll rs = allOf rs := by unfold refAll; rw [if_pos hc]
    rw [hre] at hv1
    have HLi : Hid (∀ x ∈ allOf rs, x.key.length + x.value.length ≤ 100000) := fun x hx => by
      obtain ⟨r, h1, h2⟩ := hfrom x hx
      exact HL.out r h1 x h2
    clear hc hS hfrom hlen hre
    obtain ⟨a1, c1, rfl⟩ := hv1.isSlice
    have HV1 := Lib.hid hv1
    clear hv1
    go_wp2_with fail
    refine Calls.mono (rrow15_any _ _ _ _ (allOf rs) looks bottom _ HV1.out HK1.out (Nat.le_trans HLen.out (by decide)) HML.out) ?_
    rintro _ w2 ⟨hg, hb', hb⟩
    have HW2 : Hid (Below w.heap.size w w2) := HW1.out.trans (hb.mono HW1.out.size)
    clear hb
    cases hu : upB looks with
    | false =>
      have hcv : chkV (allOf rs) looks ≠ 0 := by rw [chkV_up _ hu]; decide
      have e1 := hb' hcv
      subst e1
      have HP : Hid (∀ x w', Below w.heap.size w w' → x = .returned (.tuple #[.slice none 0 0, .int .i64 2]) → RRunPost rs looks bottom t w x w') := fun x w' g1 g2 => ⟨(fun e => by have h5 := e.2.1; rw [hu] at h5; cases h5), fun _ => g2, g1⟩
      clear hg hb' hcv hu
      go_wp2_with fail
      go_ret2
      exact HP.out _ _ HW2.out rfl
    | true =>
      have hcv : chkV (allOf rs) looks = 0 := chkV_ok (rowB_sorted.2 HSo.out) hu
      obtain ⟨a2, c2, rfl, hr⟩ := hg hcv
      have HR := Lib.hid hr
      have HU := Lib.hid hu
      clear hg hb' hcv hr hu
      have hl2 : (rowOf looks bottom (allOf rs)).length ≤ 100000 := Nat.le_trans (rowOf_len looks bottom (allOf rs)) HLen.out
      have HL2 := Lib.hid hl2
      clear hl2
      have HE2 : Hid (∀ i, i < (rowOf looks bottom (allOf rs)).length → (eat (rowOf looks bottom (allOf rs)) i).key.length + (eat (rowOf looks bottom (allOf rs)) i).value.length ≤ 100000) := fun i hi => HLi.out _ (rowOf_mem (eat_mem hi))
      have HS2 : Hid (rowB (rowOf looks bottom (allOf rs)) = true) := rowB_sorted.2 (rowOf_sorted HSo.out looks bottom)
      have HP : Hid (∀ x w', RCutPost t (rowOf looks bottom (allOf rs)) w2 x w' → RRunPost rs looks bottom t w x w') := by
        rintro x w' ⟨h1, h2, h3⟩
        refine ⟨fun e => ?_, fun e => h2 fun e2 => e ⟨HC.out, HU.out, e2.2.1, e2.2.2⟩, HW2.out.trans (h3.mono HW2.out.size)⟩
        exact h1 ⟨HS2.out, e.2.2.1, e.2.2.2⟩
      go_wp2_with fail
      refine Calls.mono (rcut_any _ _ (rowOf looks bottom (allOf rs)) t _ HR.out HL2.out HE2.out) ?_
      intro x w3 hp
      have HQ := Lib.hid (HP.out x w3 hp)
      have hs : ∃ v e, x = .returned (.tuple #[v, e]) := by
        by_cases hq : rowB (rowOf looks bottom (allOf rs)) = true ∧ 1 ≤ t ∧ t ≤ 16777216
        · obtain ⟨a, c, g1, _⟩ := hp.1 hq
          exact ⟨_, _, g1⟩
        · exact ⟨_, _, hp.2.1 hq⟩
      obtain ⟨v3, e3, rfl⟩ := hs
      clear hp HP
      go_wp2_with fail
      go_ret2
      exact HQ.out
  · have HP : Hid (∀ x w', Below w.heap.size w w' → x = .returned (.tuple #[.slice none 0 0, .int .i64 2]) → RRunPost rs looks bottom t w x w') := fun x w' g1 g2 => ⟨(fun e => by have h5 := e.1; rw [hc] at h5; cases h5), fun _ => g2, g1⟩
    rw [hc]
    clear hc hv1
    go_wp2_with fail
    go_ret2
    exact HP.out _ _ HW1.out rfl

set_option maxRecDepth 100000 in
set_option maxHeartbeats 1000000 in
theorem small15_any (F G : Nat → Prop) (v vk : Value) (rs : List (List Ent)) (looks : List Int) (w : World) (h : Rw (rowK entK) F w v rs) (hk : Rw unK G w vk looks) (hn : Near rs) :
    Calls Try.prog 38 #[v, vk] w (SmallB (Small rs ∧ looks.length ≤ 150) w) := by
  obtain ⟨xa, ca, rfl⟩ := h.isSlice
  obtain ⟨ka, kc, rfl⟩ := hk.isSlice
  clear hk
  obtain ⟨lk, hlk⟩ : ∃ lk, looks.length = lk := ⟨_, rfl⟩
  have HLK := Lib.hid hlk
  rw [hlk]
  clear hlk
  have HA := Lib.hid h
  have HNE := Lib.hid hn
  have hml := h.len
  simp only [maxLen] at hml
  clear h hn
  obtain ⟨n, hn⟩ : ∃ n, rs.length = n := ⟨_, rfl⟩
  have HN := Lib.hid hn
  rw [hn] at HA hml
  rw [hn]
  clear hn
  go_enter Try.func38, Try.ntmps38
  go_wp2_with fail
  go_loopw [5, 6, 7] (fun s t i wr => ∃ (j : Nat) (c d : Int), i = .int .i64 (j : Int) ∧ j ≤ n ∧ s = .int .i64 c ∧ t = .int .i64 d ∧ Hid (j ≤ 20 → c = nsum (rs.take j)) ∧ Hid (j ≤ 20 → nsum (rs.take j) ≤ 150 → d = wsum (rs.take j)) ∧ Hid (∃ n, wr = w.drewN n)) (fun _ _ i _ => n - (intOf i).toNat)
  case atStart => exact ⟨0, 0, 0, rfl, by omega, rfl, rfl, fun _ => rfl, fun _ _ => rfl, 0, rfl⟩
  case round =>
    obtain ⟨j, c, d, rfl, hj, rfl, rfl, HC, HD, HW⟩ := hrel
    by_cases hlt : j < n
    · have hjl : (j : Int) < (n : Int) := by omega
      have hl1 : j < rs.length := by rw [HN.out]; omega
      have HB : Hid (Below w.heap.size w wr) := below_drewN HW.out
      obtain ⟨ba, oa, capa, ea, _, hba, hca⟩ := rows_at (HA.out.below HB.out) (by omega)
      obtain ⟨u, hu, hc⟩ := hca j hl1
      injection ea with e1 e2 e3
      subst e1 e3
      clear e2
      have HM := Lib.hid (HNE.out _ (List.getElem_mem hl1))
      have HNT := Lib.hid (nsum_take hl1)
      have HWT := Lib.hid (wsum_take hl1)
      have HTN : Hid (Near (rs.take (j + 1))) := fun r hr => HNE.out r (List.mem_of_mem_take hr)
      have HLL : Hid ((rs.take (j + 1)).length = j + 1) := by show _ = _; rw [List.length_take]; omega
      rw [rat_eq hl1] at hu HM
      obtain ⟨ua, uc, rfl⟩ := hu.isSlice
      have HU := Lib.hid hu
      clear hca hu hba hl1
      generalize rs.getD j [] = r at *
      have HCn : Hid (j + 1 ≤ 20 → IntKind.i64.wrap (c + (r.length : Int)) = nsum (rs.take (j + 1))) := fun h20 => by
        have h1 := HC.out (by omega)
        have h2 : nsum (rs.take (j + 1)) ≤ (rs.take (j + 1)).length * 140737488355328 := by
          have : ∀ l : List (List Ent), Near l → nsum l ≤ l.length * 140737488355328 := by
            intro l
            induction l with
            | nil => intro _; exact Nat.zero_le _
            | cons x l ih =>
              intro hx
              have g1 := ih fun y hy => hx y (List.mem_cons_of_mem _ hy)
              have g2 := (hx x (List.mem_cons_self ..)).1
              unfold nsum at *
              simp only [List.map_cons, List.sum_cons, List.length_cons]
              rw [Nat.add_mul]
              omega
          exact this _ HTN.out
        rw [HLL.out] at h2
        have h3 : (j + 1) * 140737488355328 ≤ 20 * 140737488355328 := Nat.mul_le_mul_right _ h20
        have h4 := HNT.out
        rw [wrap_mid (by omega) (by omega)]
        omega
      have HDn : Hid (j + 1 ≤ 20 → nsum (rs.take (j + 1)) ≤ 150 → IntKind.i64.wrap (d + weighW r) = wsum (rs.take (j + 1))) := fun h20 h150 => by
        have h4 := HNT.out
        have h1 := HD.out (by omega) (by omega)
        have h5 := weighW_eq (l := r) (by omega) HM.out.2
        have h6 := wsum_bound fun x hx => (HTN.out x hx).2
        have h7 : nsum (rs.take (j + 1)) * (2 * 140737488355328) ≤ 150 * (2 * 140737488355328) := Nat.mul_le_mul_right _ h150
        have h8 := HWT.out
        rw [h5, wrap_mid (by omega) (by omega)]
        omega
      clear HC HD HNT HWT HTN HLL HM
      obtain ⟨q, hq⟩ : ∃ q, r.length = q := ⟨_, rfl⟩
      have HQ := Lib.hid hq
      rw [hq] at HCn HU hc
      clear hq
      obtain ⟨x, hx⟩ : ∃ x, weighW r = x := ⟨_, rfl⟩
      have HX := Lib.hid hx
      rw [hx] at HDn
      clear hx
      have hkw : ∀ m, Calls Try.prog 28 #[.slice ua q uc] (wr.drewN m) fun e w' => e = .returned (.int .i64 x) ∧ ∃ n, w' = (wr.drewN m).drewN n := fun m => by
        have h5 := kweighW_any (fun k => F k) (.slice ua q uc) r (wr.drewN m) (HU.out.below (below_dn (Below.refl _ _) _))
        rw [HX.out] at h5
        exact h5
      have HKW := Lib.hid hkw
      clear hkw
      go_wp2_with fail
      go_quiet ((go_at_call 28; refine Calls.quiet_of (HKW.out _)))
      all_goals
        go_wp2_with fail
        go_roundw
        · exact ⟨j + 1, _, _, by go_num, by omega, rfl, rfl, (by first | exact HCn | exact fun h => by simp only [w64_eq]; exact HCn.out h), (by first | exact HDn | exact fun h h' => by simp only [w64_eq]; exact HDn.out h h'), (by first | exact HW.out | exact drewN_one HW.out | exact drewN_more HW.out _)⟩
        · simp only [intOf]; omega
    · obtain rfl : j = n := by omega
      have HF : Hid (j ≤ 20 → c = nsum rs) := fun h20 => by have := HC.out h20; rwa [List.take_of_length_le (by rw [HN.out]; exact Nat.le_refl _)] at this
      have HG : Hid (j ≤ 20 → nsum rs ≤ 150 → d = wsum rs) := fun h20 h150 => by have := HD.out h20; rw [List.take_of_length_le (by rw [HN.out]; exact Nat.le_refl _)] at this; exact this h150
      clear HC HD
      have t0 : ¬ (j : Int) < (j : Int) := by omega
      by_cases h20 : j ≤ 20
      · have h20' : (j : Int) ≤ 20 := by omega
        have hc := HF.out h20
        by_cases hc2 : c ≤ 150
        · have hd := HG.out h20 (by omega)
          have hc2' : decide (c ≤ 150) = true := decide_eq_true hc2
          by_cases hd2 : d ≤ 15000
          · have hd2' : decide (d ≤ 15000) = true := decide_eq_true hd2
            have HS : Hid (Small rs) := ⟨by rw [HN.out]; exact h20, by omega, by omega⟩
            clear hc hd
            by_cases hm : lk ≤ 150
            · have hm2 : (lk : Int) ≤ 150 := by omega
              have HP : Hid (Small rs ∧ lk ≤ 150) := ⟨HS.out, hm⟩
              go_wp2_with fail
              go_ret
              exact ⟨_, rfl, (fun _ => by first | exact HP.out | exact HP.out.1), HW.out⟩
            · have hm2 : decide ((lk : Int) ≤ 150) = false := by simp; omega
              go_wp2_with fail
              go_ret
              exact ⟨_, rfl, (fun h => by first | (cases h; done) | (have := of_decide_eq_true h; omega)), HW.out⟩
          · have hd2' : decide (d ≤ 15000) = false := by simpa using hd2
            clear hc hd
            go_wp2_with fail
            go_ret
            exact ⟨_, rfl, (fun h => by first | (cases h; done) | (have := of_decide_eq_true h; omega)), HW.out⟩
        · have hc2' : decide (c ≤ 150) = false := by simpa using hc2
          clear hc
          go_wp2_with fail
          go_ret
          exact ⟨_, rfl, (fun h => by first | (cases h; done) | (have := of_decide_eq_true h; omega)), HW.out⟩
      · have h20' : decide ((j : Int) ≤ 20) = false := by simp; omega
        go_wp2_with fail
        go_ret
        exact ⟨_, rfl, (fun h => by first | (cases h; done) | (have := of_decide_eq_true h; omega)), HW.out⟩


set_option maxRecDepth 100000 in
set_option maxHeartbeats 1000000 in
theorem lists_same (F G : Nat → Prop) (va vb : Value) (rs : List (List Ent)) (w : World) (ha : Rw (rowK entK) F w va rs) (hb : Rw (rowK entK) G w vb rs) :
    Calls Try.prog 41 #[va, vb] w fun e w' => e = .returned (.bool true) ∧ Below w.heap.size w w' := by
  obtain ⟨xa, ca, rfl⟩ := ha.isSlice
  obtain ⟨xb, cb, rfl⟩ := hb.isSlice
  have hml := ha.len
  simp only [maxLen] at hml
  have HA := Lib.hid ha
  have HB := Lib.hid hb
  clear ha hb
  obtain ⟨n, hn⟩ : ∃ n, rs.length = n := ⟨_, rfl⟩
  have HN := Lib.hid hn
  rw [hn] at HA HB hml
  rw [hn]
  clear hn
  go_enter Try.func41, Try.ntmps41
  go_wp2_with fail
  go_loopw [5] (fun iv wr => ∃ (j : Nat), iv = .int .i64 (j : Int) ∧ j ≤ n ∧ Hid (Below w.heap.size w wr)) (fun iv _ => n - (intOf iv).toNat)
  case atStart => exact ⟨0, rfl, by omega, Below.refl _ _⟩
  case round =>
    obtain ⟨j, rfl, hj, HW⟩ := hrel
    by_cases hlt : j < n
    · have t1 : (j : Int) < (n : Int) := by omega
      have t3 : 0 ≤ (j : Int) := by omega
      have hl1 : j < rs.length := by rw [HN.out]; exact hlt
      obtain ⟨ba, oa, capa, ea, _, hba, hca⟩ := rows_at (HA.out.below HW.out) (by omega)
      obtain ⟨u, hu, c1⟩ := hca j hl1
      injection ea with e1 e2 e3
      subst e1 e3
      clear e2
      obtain ⟨bb, ob, capb, eb, _, hbb, hcb⟩ := rows_at (HB.out.below HW.out) (by omega)
      obtain ⟨y, hy, c2⟩ := hcb j hl1
      injection eb with e1 e2 e3
      subst e1 e3
      clear e2 hca hcb
      have HU : Hid (Rw entK F wr.drew u rs[j]) := hu.below (below_drew (Below.refl _ _))
      have HY : Hid (Rw entK G wr.drew y rs[j]) := hy.below (below_drew (Below.refl _ _))
      have HC1 : Hid (wr.drew.cell? ⟨ba, oa + j, none⟩ = some u) := c1
      have HC2 : Hid (wr.drew.cell? ⟨bb, ob + j, none⟩ = some y) := c2
      have HZ1 : Hid (ba < wr.drew.heap.size) := hba
      have HZ2 : Hid (bb < wr.drew.heap.size) := hbb
      clear hu hy c1 c2 hba hbb
      generalize rs[j] = r at *
      go_wp2_with fail
      go_region_held3 (fun w' => w'.cell? ⟨ba, oa + j, none⟩ = some u ∧ w'.cell? ⟨bb, ob + j, none⟩ = some y)
        (first | exact ⟨HC1.out, HC2.out⟩ | exact ⟨(hbx1.cell (p := ⟨ba, oa + j, none⟩) HZ1.out).trans HC1.out, (hbx1.cell (p := ⟨bb, ob + j, none⟩) HZ2.out).trans HC2.out⟩)
        (first | (go_at_call 33; refine Calls.mono (kentries_same _ _ _ _ r _ HU.out HY.out) ?_; rintro _ x1 ⟨rfl, hbx1⟩; skip))
      have HX : Hid (Below w.heap.size w x1) := HW.out.trans ((below_of_drew hbx1).mono HW.out.size)
      clear hbx1 HC1 HC2
      go_wp2_with fail
      go_roundw
      · exact ⟨j + 1, by go_num, by omega, HX.out⟩
      · simp only [intOf]; omega
    · have t1 : ¬ (j : Int) < (n : Int) := by omega
      go_wp2_with fail
      go_ret
      exact ⟨rfl, HW.out⟩

open Classical in
noncomputable def orX {α : Type} (p : Prop) (X : List α) : List α := if p then X else []
open Classical in
noncomputable def okC (p : Prop) : Int := if p then 0 else 2
open Classical in
noncomputable def orN (p : Prop) (n : Nat) : Nat := if p then n else 0
/-- What a call answers: a list and a number. -/
def UP {α : Type} (K : Kind α) (X : List α) (k : Int) (w : World) (x : Ending) (w' : World) : Prop :=
  ∃ a c, x = .returned (.tuple #[.slice a X.length c, .int .i64 k]) ∧ Rw K Any w' (.slice a X.length c) X ∧ Below w.heap.size w w'
theorem up_of {α : Type} {K : Kind α} {F : Nat → Prop} {X : List α} {p : Prop} {w w' : World} {x : Ending} (h1 : p → ∃ a c, x = .returned (.tuple #[.slice a X.length c, .int .i64 0]) ∧ Rw K F w' (.slice a X.length c) X) (h2 : ¬ p → x = .returned (.tuple #[.slice none 0 0, .int .i64 2])) (h3 : Below w.heap.size w w') : UP K (orX p X) (okC p) w x w' := by
  unfold UP orX okC
  by_cases hp : p
  · obtain ⟨a, c, g1, g2⟩ := h1 hp
    simp only [if_pos hp]
    exact ⟨a, c, g1, g2.any, h3⟩
  · simp only [if_neg hp]
    exact ⟨none, 0, h2 hp, Rw.nil _ _ _, h3⟩
/-- Truths in memory. -/
def Bs (w : World) (a : Option Addr) (f : Nat → Bool) (n : Nat) : Prop := 0 < n → ∃ ob, a = some ⟨ob, 0, none⟩ ∧ Bl ob w f n
theorem Bs.below {w w' : World} {a : Option Addr} {f : Nat → Bool} {n : Nat} (h : Bs w a f n) (hb : Below w.heap.size w w') : Bs w' a f n := fun h0 => by
  obtain ⟨ob, e, g⟩ := h h0
  exact ⟨ob, e, g.below hb⟩
def VP (f : Nat → Bool) (n : Nat) (k : Int) (w : World) (x : Ending) (w' : World) : Prop := ∃ a, x = .returned (.tuple #[.slice a n n, .int .i64 k]) ∧ Bs w' a f n ∧ Below w.heap.size w w'
theorem vp_of {l : List Ent} {looks : List Int} {w w' : World} {x : Ending} (h : VisPost l looks w x w') : VP (visB looks l) (orN (chkV l looks = 0) l.length) (okC (chkV l looks = 0)) w x w' := by
  obtain ⟨h1, h2, h3⟩ := h
  unfold VP orN okC
  by_cases hp : chkV l looks = 0
  · obtain ⟨ob, _, g1, g2⟩ := h1 hp
    simp only [if_pos hp]
    exact ⟨_, g1, fun _ => ⟨ob, rfl, g2⟩, h3⟩
  · simp only [if_neg hp]
    exact ⟨none, h2 hp, fun h0 => absurd h0 (Nat.lt_irrefl _), h3⟩
/-- What is asked of a row and its copy. -/
structure Row15 (looks : List Int) (bottom : Bool) (t : Int) (r : List Ent) (X : List Ent) (k : Int) (Y : List (List Ent)) (q : Int) (n : Nat) (c : Int) (f : Nat → Bool) : Prop where
  row : ∀ (x : World) (v vk : Value), Rw entK Any x v r → Rw unK Any x vk looks → Calls Try.prog 43 #[v, vk, .bool bottom] x (UP entK X k x)
  rrow : ∀ (x : World) (v vk : Value), Rw entK Any x v r → Rw unK Any x vk looks → Calls Try.prog 44 #[v, vk, .bool bottom] x (UP entK X k x)
  cut : ∀ (x : World) (v : Value), Rw entK Any x v r → Calls Try.prog 11 #[v, .int .i64 t] x (UP (rowK entK) Y q x)
  rcut : ∀ (x : World) (v : Value), Rw entK Any x v r → Calls Try.prog 45 #[v, .int .i64 t] x (UP (rowK entK) Y q x)
  vis : ∀ (x : World) (v vk : Value), Rw entK Any x v r → Rw unK Any x vk looks → Calls Try.prog 13 #[v, vk] x (VP f n c x)
  rvis : ∀ (x : World) (v vk : Value), Rw entK Any x v r → Rw unK Any x vk looks → Calls Try.prog 46 #[v, vk] x (VP f n c x)
theorem row15 (looks : List Int) (bottom : Bool) (t : Int) (r : List Ent) (hl : r.length ≤ 1000) (hm : looks.length ≤ 1000) (hs : ∀ e ∈ r, e.key.length + e.value.length ≤ 100000) : ∃ X k Y q n c f, Row15 looks bottom t r X k Y q n c f ∧ n ≤ 1000 := by
  have hs' : ∀ i, i < r.length → (eat r i).key.length + (eat r i).value.length ≤ 100000 := fun i hi => hs _ (eat_mem hi)
  have h1 : r.length ≤ 400000 := by omega
  have h2 : looks.length ≤ 400000 := by omega
  have h3 : r.length ≤ 100000 := by omega
  refine ⟨orX (chkV r looks = 0) (rowOf looks bottom r), okC (chkV r looks = 0), orX (rowB r = true ∧ 1 ≤ t ∧ t ≤ 16777216) (cutTo t r r.length), okC (rowB r = true ∧ 1 ≤ t ∧ t ≤ 16777216), orN (chkV r looks = 0) r.length, okC (chkV r looks = 0), visB looks r, ⟨fun x v vk hv hk => ?_, fun x v vk hv hk => ?_, fun x v hv => ?_, fun x v hv => ?_, fun x v vk hv hk => ?_, fun x v vk hv hk => ?_⟩, ?_⟩
  · exact (crow_any _ _ v vk r looks bottom x hv hk h1 h2 (fun e he => by have := hs e he; exact ⟨by omega, by omega⟩)).mono fun y w' ⟨g1, g2, g3⟩ => up_of g1 g2 g3
  · exact (rrow15_any _ _ v vk r looks bottom x hv hk h1 h2).mono fun y w' ⟨g1, g2, g3⟩ => up_of g1 g2 g3
  · exact (ccut_any _ v r t x hv h3 hs').mono fun y w' ⟨g1, g2, g3⟩ => up_of g1 g2 g3
  · exact (rcut_any _ v r t x hv h3 hs').mono fun y w' ⟨g1, g2, g3⟩ => up_of g1 g2 g3
  · exact (cvis_any _ _ v vk r looks x hv hk h1 h2).mono fun y w' h => vp_of h
  · exact (rvis_any _ _ v vk r looks x hv hk h1 h2).mono fun y w' h => vp_of h
  · unfold orN
    split
    · exact hl
    · exact Nat.zero_le _
theorem crun_up (rs : List (List Ent)) (looks : List Int) (bottom : Bool) (t : Int) (hok : ROk rs) (hl : Lite rs) (hml : looks.length ≤ 400000) : ∃ X k, (∀ (x : World) (v vk : Value), Rw (rowK entK) Any x v rs → Rw unK Any x vk looks → Calls Try.prog 39 #[v, vk, .bool bottom, .int .i64 t] x (UP (rowK entK) X k x)) ∧ ∀ (x : World) (v vk : Value), Rw (rowK entK) Any x v rs → Rw unK Any x vk looks → Calls Try.prog 40 #[v, vk, .bool bottom, .int .i64 t] x (UP (rowK entK) X k x) :=
  ⟨orX (RunOk rs looks t) (cutTo t (runOf looks bottom rs) (runOf looks bottom rs).length), okC (RunOk rs looks t),
    fun x v vk h hk => (crun_any _ _ v vk rs looks bottom t x h hk hok hl hml).mono fun _y _w' ⟨g1, g2, g3⟩ => up_of g1 g2 g3,
    fun x v vk h hk => (rrun_any _ _ v vk rs looks bottom t x h hk hok hl hml).mono fun _y _w' ⟨g1, g2, g3⟩ => up_of g1 g2 g3⟩
theorem le_wsum {rs : List (List Ent)} {r : List Ent} (hr : r ∈ rs) {e : Ent} (he : e ∈ r) : e.key.length + e.value.length ≤ wsum rs := by
  have h1 : weighE r ≤ wsum rs := le_sum (List.mem_map_of_mem hr)
  have h2 : e.key.length + e.value.length ≤ weighE r := le_sum (List.mem_map_of_mem (f := fun e : Ent => e.key.length + e.value.length) he)
  omega
theorem Small.lite {rs : List (List Ent)} (h : Small rs) : Lite rs := fun r hr e he => by
  have h1 := le_wsum hr he
  have h2 := h.light
  omega
end Go.Proofs.Ytmpapipobjoboaa
