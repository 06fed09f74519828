/- compact: Row. -/
import Derived.Test.YtmpapipobjoboaaCoG
import Derived.Test.YtmpapipobjoboaaMgGb
namespace Go.Proofs.Ytmpapipobjoboaa
open Go.RowKit

theorem keepTo_sub (f : Nat → Bool) (l : List Ent) : ∀ {j : Nat}, j ≤ l.length → (keepTo f l j).Sublist (l.take j)
  | 0, _ => by simp [keepTo]
  | j + 1, hj => by
    rw [keepTo_succ, List.take_succ_eq_append_getElem (by omega), eat_eq]
    refine (keepTo_sub f l (by omega)).append ?_
    split
    · exact List.Sublist.refl _
    · exact List.nil_sublist _
theorem keepTo_sorted {f : Nat → Bool} {l : List Ent} (h : Sorted l) : Sorted (keepTo f l l.length) := by
  have h1 := keepTo_sub f l (Nat.le_refl l.length)
  rw [List.take_of_length_le (Nat.le_refl _)] at h1
  exact h.sublist h1
theorem keepTo_mem {f : Nat → Bool} {l : List Ent} {x : Ent} (h : x ∈ keepTo f l l.length) : x ∈ l := by
  have h1 := keepTo_sub f l (Nat.le_refl l.length)
  rw [List.take_of_length_le (Nat.le_refl _)] at h1
  exact h1.subset h
theorem bareR_len : ∀ (l : List Ent), (bareR l).length ≤ l.length
  | [] => Nat.le_refl _
  | e :: r => by
    have := bareR_len r
    rw [bareR_cons]
    split
    · exact Nat.le_succ_of_le this
    · exact Nat.succ_le_succ this

/-- What is left of a row. -/
noncomputable def rowOf (looks : List Int) (bottom : Bool) (l : List Ent) : List Ent := if bottom = true then bareR (keepTo (visB looks l) l l.length) else keepTo (visB looks l) l l.length
theorem rowOf_mem {looks : List Int} {bottom : Bool} {l : List Ent} {x : Ent} (h : x ∈ rowOf looks bottom l) : x ∈ l := by
  unfold rowOf at h
  split at h
  · exact keepTo_mem (bareR_mem _ _ h)
  · exact keepTo_mem h
theorem rowOf_len (looks : List Int) (bottom : Bool) (l : List Ent) : (rowOf looks bottom l).length ≤ l.length := by
  have h1 := keepTo_len (visB looks l) l l.length
  unfold rowOf
  split
  · exact Nat.le_trans (bareR_len _) h1
  · exact h1

def RowPost (X : List Ent) (c : Int) (w : World) (x : Ending) (w' : World) : Prop :=
  (c = 0 → ∃ a cp, x = .returned (.tuple #[.slice a X.length cp, .int .i64 0]) ∧ Rw entK (fun k => w.heap.size ≤ k) w' (.slice a X.length cp) X) ∧
  (c ≠ 0 → x = .returned (.tuple #[.slice none 0 0, .int .i64 2])) ∧ Below w.heap.size w w'

set_option maxRecDepth 100000 in
set_option maxHeartbeats 8000000 in
theorem crow_any (F G : Nat → Prop) (v vk : Value) (l : List Ent) (looks : List Int) (bottom : Bool) (w : World) (h : Rw entK F w v l) (hk : Rw unK G w vk looks) (hfew : l.length ≤ 400000) (hml : looks.length ≤ 400000) (hbig : ∀ x ∈ l, x.key.length ≤ 140737488355328 ∧ x.value.length ≤ 140737488355328) :
    Calls Try.prog 43 #[v, vk, .bool bottom] w (RowPost (rowOf looks bottom l) (chkV l looks) w) := by
  have HVI := Lib.hid (cvis_any F G v vk l looks w h hk hfew hml)
  obtain ⟨xa, ca, rfl⟩ := h.isSlice
  obtain ⟨ka, kc, rfl⟩ := hk.isSlice
  have HA : Hid (Rw entK (fun k => F k ∧ k < w.heap.size) w (.slice xa l.length ca) l) := h.mono fun k hk h => ⟨h, hk⟩
  have HBIG : Hid (∀ x ∈ rowOf looks bottom l, x.key.length ≤ 140737488355328 ∧ x.value.length ≤ 140737488355328) := fun x hx => hbig x (rowOf_mem hx)
  clear h hk hbig
  obtain ⟨m, hm⟩ : ∃ n, l.length = n := ⟨_, rfl⟩
  have HM := Lib.hid hm
  rw [hm] at HA HVI hfew
  rw [hm]
  clear hm
  generalize looks.length = nk at *
  go_enter Try.func43, Try.ntmps43
  go_wp2_with fail
  refine Calls.mono HVI.out ?_
  rintro x1 w1 ⟨hv1, hv2, hb⟩
  rw [HM.out] at hv1
  have HW1 := Lib.hid hb
  clear hb HVI
  rcases chkV_or l looks with hc | hc
  case inr =>
    obtain rfl := hv2 (by rw [hc]; decide)
    have HP : Hid (∀ w', Below w.heap.size w w' → RowPost (rowOf looks bottom l) (chkV l looks) w (.returned (.tuple #[.slice none 0 0, .int .i64 2])) w') := fun w' hb => ⟨(fun e => by rw [hc] at e; cases e), fun _ => rfl, hb⟩
    have HAL : Hid (∀ o, Below w.heap.size w (w1.alloc o)) := fun o => HW1.out.alloc HW1.out.size o
    clear hv1 hv2 hc
    go_wp2_with fail
    go_ret2
    exact HP.out _ (by first | exact HAL.out _ | exact (HAL.out _).setCell HW1.out.size _)
  obtain ⟨ob, hob, rfl, hbl⟩ := hv1 hc
  have HCH := Lib.hid hc
  have HBL := Lib.hid hbl
  have HOB := Lib.hid hob
  have HSO : Hid (Sorted l) := by
    unfold chkV at hc
    split at hc
    · rename_i h2; exact rowB_sorted.1 h2.1
    · cases hc
  clear hv2 hc hbl hob
  go_upto_region 2 with fail
  refine wp_gen fun w2 hw2 => ?_
  have HS2 : Hid (Blk w2 w1.heap.size #[.slice (some ⟨ob, 0, none⟩) m m] 32) := by rw [hw2]; first | exact Blk.at_new rfl rfl | exact (Blk.at_new rfl rfl).set 0 _
  have HB2 : Hid (Below w1.heap.size w1 w2) := by rw [hw2]; first | exact (Below.refl _ _).alloc (Nat.le_refl _) _ | exact ((Below.refl _ _).alloc (Nat.le_refl _) _).setCell (Nat.le_refl _) _
  clear hw2
  go_upto_region 5 with fail
  refine wp_gen fun w3 hw3 => ?_
  have HI3 : Hid (Blk w3 w2.heap.size #[.int .i64 (-1)] 3) := by rw [hw3]; first | exact Blk.at_new rfl rfl | exact (Blk.at_new rfl rfl).set 0 _
  have HB3 : Hid (Below w2.heap.size w2 w3) := by rw [hw3]; first | exact (Below.refl _ _).alloc (Nat.le_refl _) _ | exact ((Below.refl _ _).alloc (Nat.le_refl _) _).setCell (Nat.le_refl _) _
  clear hw3
  have HW3 : Hid (Below w.heap.size w w3) := (HW1.out.trans (HB2.out.mono HW1.out.size)).trans (HB3.out.mono (Nat.le_trans HW1.out.size HB2.out.size))
  have HL2 : Hid (w1.heap.size < w2.heap.size) := HS2.out.lt
  have HL3 : Hid (w2.heap.size < w3.heap.size) := HI3.out.lt
  have HLB : Hid (w.heap.size ≤ w1.heap.size) := HW1.out.size
  have HLO : Hid (ob < w1.heap.size) := HBL.out.lt
  have HC3 : Hid (Clo w2.heap.size w1.heap.size ob 0 m (visB looks l) w3) := ⟨HI3.out, (HB3.out.cell (p := ⟨w1.heap.size, 0, none⟩) HL2.out).trans (HS2.out.cell rfl), (HBL.out.below HB2.out).below HB3.out, (by have := HL2.out; omega), (by have := HL2.out; have := HLO.out; omega), Nat.lt_trans HL2.out HL3.out⟩
  clear HS2 HB2 HI3 HB3 HBL HW1
  generalize w2.heap.size = ib at *
  generalize w1.heap.size = sb at *
  go_wp2_with fail
  refine Calls.mono (clone_ents _ _ l _ (HA.out.below HW3.out) (by rw [HM.out]; omega)) ?_
  rintro _ w4 ⟨v4, rfl, ho, hb⟩
  have HO4 : Hid (ROwnF entK (fun k => F k ∧ k < w.heap.size) w3.heap.size 29 w4 v4 l) := ho.mono fun k _ hk _ => hk.1
  have HB4 := Lib.hid hb
  have HC4 : Hid (Clo ib sb ob 0 m (visB looks l) w4) := HC3.out.keep (S := fun _ => False) (Wrote.of_below hb) id id id
  clear ho hb HC3 HA
  obtain ⟨a4, c4, rfl⟩ := HO4.out.isSlice
  rw [HM.out] at HO4
  rw [HM.out]
  go_wp2_with fail
  refine Calls.mono (deletef_any (fun k => F k ∧ k < w.heap.size) w3.heap.size ib sb ob (visB looks l) _ l _ HO4.out (fun k hk e => by have := HLB.out; have := HL2.out; omega) ⟨HL3.out, Nat.lt_trans HL2.out HL3.out, Nat.lt_trans HLO.out (Nat.lt_trans HL2.out HL3.out)⟩ HB4.out.size (by rw [HM.out]; exact HC4.out) (by rw [HM.out]; exact hfew)) ?_
  rintro _ w5 ⟨a5, c5, rfl, hr5, hw5⟩
  have HR5 : Hid (Rw entK (fun k => (F k ∧ k < w.heap.size) ∨ w3.heap.size ≤ k) w5 (.slice a5 (keepTo (visB looks l) l l.length).length c5) (keepTo (visB looks l) l l.length)) := hr5
  have HW5 : Hid (Below w.heap.size w w5) := HW3.out.trans ((HB4.out.mono HW3.out.size).trans (hw5.below (Nat.le_trans HW3.out.size HB4.out.size) fun k hk => by
    have := HLB.out
    have := HL2.out
    have := HW3.out.size
    rcases hk with hk | hk
    · omega
    · omega))
  have HKS : Hid (Sorted (keepTo (visB looks l) l l.length)) := keepTo_sorted HSO.out
  have HKL : Hid ((keepTo (visB looks l) l l.length).length ≤ 400000) := Nat.le_trans (keepTo_len _ _ _) (by rw [HM.out]; exact hfew)
  have HRL : Hid ((rowOf looks bottom l).length ≤ 400000) := Nat.le_trans (rowOf_len _ _ _) (by rw [HM.out]; exact hfew)
  clear hr5 hw5 HO4 HC4 HB4 HW3
  generalize w3.heap.size = b3 at *
  have HRO : Hid (rowOf looks bottom l = if bottom = true then bareR (keepTo (visB looks l) l l.length) else keepTo (visB looks l) l l.length) := rfl
  generalize keepTo (visB looks l) l l.length = ks at *
  obtain ⟨q, hq⟩ : ∃ q, ks.length = q := ⟨_, rfl⟩
  have HQ := Lib.hid hq
  rw [hq] at HR5
  rw [hq]
  clear hq
  go_upto_if 28 with fail
  go_cut [11] from 29 to 30 (fun x wx => ∃ X a c, X = rowOf looks bottom l ∧ x = .slice a X.length c ∧ Hid (Rw entK (fun _ => True) wx (.slice a X.length c) X) ∧ Hid (Below w.heap.size w wx))
  case first =>
    cases bottom with
    | false =>
      have hx : rowOf looks false l = ks := HRO.out
      go_wp2_with fail
      go_meet
      refine ⟨ks, a5, c5, hx.symm, by rw [HQ.out], ?_, HW5.out⟩
      rw [HQ.out]
      exact HR5.out.mono fun _ _ _ => trivial
    | true =>
      have hx : rowOf looks true l = bareR ks := HRO.out
      have HX := Lib.hid hx
      clear hx
      go_wp2_with fail
      refine Calls.mono (bare_any _ _ ks _ HR5.out HKS.out HKL.out) ?_
      rintro _ w6 ⟨a6, c6, rfl, hr6, hb6⟩
      have HR6 : Hid (Rw entK (fun _ => True) w6 (.slice a6 (bareR ks).length c6) (bareR ks)) := hr6.mono fun _ _ _ => trivial
      have HW6 : Hid (Below w.heap.size w w6) := HW5.out.trans (hb6.mono HW5.out.size)
      clear hr6 hb6
      generalize bareR ks = X at *
      go_wp2_with fail
      go_meet
      exact ⟨X, a6, c6, HX.out.symm, rfl, HR6.out, HW6.out⟩
  case rest =>
    obtain ⟨X, a, c, hX, rfl, HA, HW⟩ := hcut
    have HX := Lib.hid hX
    rw [← hX] at HBIG HRL
    clear hX HR5 HW5 HKS HKL HRO HQ
    obtain ⟨FX, hFX⟩ : ∃ FX : Nat → Prop, FX = fun k => k < wc.heap.size := ⟨_, rfl⟩
    have HFX : Hid (∀ k, FX k → k < wc.heap.size) := fun k hk => by rw [hFX] at hk; exact hk
    have HA : Hid (Rw entK FX wc (.slice a X.length c) X) := HA.out.mono fun k hk _ => by rw [hFX]; exact hk
    have hwb : w.heap.size ≤ wc.heap.size := HW.out.size
    clear hFX
    obtain ⟨n, hn⟩ : ∃ n, X.length = n := ⟨_, rfl⟩
    have HN := Lib.hid hn
    rw [hn] at HA HRL
    rw [hn]
    have hnl : n ≤ 400000 := HRL.out
    clear hn
    have HPO : Hid (∀ a c w', Rw entK (fun k => w.heap.size ≤ k) w' (.slice a n c) X → Below w.heap.size w w' → RowPost (rowOf looks bottom l) (chkV l looks) w (.returned (.tuple #[.slice a n c, .int .i64 0])) w') := fun a c w' h1 h2 => by
      rw [← HX.out, HCH.out]
      exact ⟨fun _ => ⟨a, c, by rw [HN.out], by rw [HN.out]; exact h1⟩, fun e => absurd rfl e, h2⟩
    go_wp2_with fail
    go_loopw [12, 33] (fun ov iv wr => ∃ (j : Nat), iv = .int .i64 (j : Int) ∧ j ≤ n ∧ Hid (ROwnF entK (fun k => w.heap.size ≤ k) wc.heap.size 29 wr ov (X.take j)) ∧ Hid (Below wc.heap.size wc wr)) (fun _ iv _ => n - (intOf iv).toNat)
    case atStart => exact ⟨0, rfl, by omega, ROwnF.nil _ _ _ _ _, Below.refl _ _⟩
    case round =>
      obtain ⟨j, rfl, hj, HRO, HB⟩ := hrel
      by_cases hlt : j < n
      · have hjl : (j : Int) < (n : Int) := by omega
        have hl1 : j < X.length := by rw [HN.out]; exact hlt
        have HAr := Lib.hid (HA.out.keep (w' := wr) fun k hk hF => HB.out.block k (HFX.out k hF))
        obtain ⟨ba, oa, capa, ea, _, hba, hca⟩ := ents_at HAr.out (by rw [HN.out]; omega)
        injection ea with e1 e2 e3
        subst e1 e3
        clear e2
        obtain ⟨vk, vv, hk, hv, c0, c1, c2, c3⟩ := hca j hl1
        obtain ⟨ka, kc, rfl⟩ := hk.isSlice
        obtain ⟨va, vc, rfl⟩ := hv.isSlice
        have HK := Lib.hid hk
        have HV := Lib.hid hv
        have HL := Lib.hid (HBIG.out X[j] (List.getElem_mem hl1))
        have HT : Hid (X.take (j + 1) = X.take j ++ [X[j]]) := List.take_succ_eq_append_getElem hl1
        have HLen : Hid ((X.take j).length < 1000000) := by show _ < _; rw [List.length_take]; omega
        clear hca hk hv hba
        generalize X[j] = e at *
        clear hl1
        generalize X.take j = out at *
        obtain ⟨oo, oc, rfl⟩ := HRO.out.isSlice
        go_upto_region 12 with fail
        refine wp_gen fun w1 hw1 => ?_
        have HW1 : Hid (Below wr.heap.size wr w1) := by rw [hw1]; exact (Below.refl _ _).alloc (Nat.le_refl _) _
        have HE1 : Hid (Blk w1 wr.heap.size (entCells e (.slice ka e.key.length kc) (.slice va e.value.length vc)).toArray 29) := by rw [hw1]; exact Blk.at_new rfl rfl
        have HK1 : Hid (Bytes FX w1.drew (.slice ka e.key.length kc) e.key) := (HK.out.below HW1.out).below (below_drew (Below.refl _ _))
        have HV1 : Hid (Bytes FX w1.drew (.slice va e.value.length vc) e.value) := (HV.out.below HW1.out).below (below_drew (Below.refl _ _))
        clear hw1 c0 c1 c2 c3 HK HV HAr
        have k0 : w1.drew.cell? ⟨wr.heap.size, 0, none⟩ = some (.slice ka e.key.length kc) := HE1.out.cell rfl
        have k3 : w1.drew.cell? ⟨wr.heap.size, 3, none⟩ = some (.slice va e.value.length vc) := HE1.out.cell rfl
        have HE0 : Hid (Blk w1.drew wr.heap.size (entCells e (.slice ka e.key.length kc) (.slice va e.value.length vc)).toArray 29) := HE1.out
        have HW0 : Hid (Below wr.heap.size wr w1.drew) := below_drew HW1.out
        clear HE1 HW1
        go_region_law (first
          | (go_simp; go_at_call 50; refine Calls.mono (clone_any FX (.slice ka e.key.length kc) e.key _ HK1.out HL.out.1) ?_; rintro _ x1 ⟨v1, rfl, ho1, hb1⟩; obtain ⟨a1, n1, c1, rfl⟩ := ho1.isSlice; have HE2 := Lib.hid (HE0.out.below hb1 HE0.out.lt); have k3x : x1.cell? ⟨wr.heap.size, 3, none⟩ = some (.slice va e.value.length vc) := HE2.out.cell rfl)
          | (go_simp; go_at_call 50; refine Calls.mono (clone_any FX (.slice va e.value.length vc) e.value _ (HV1.out.below hb1) HL.out.2) ?_; rintro _ x2 ⟨v2, rfl, ho2, hb2⟩; obtain ⟨a2, n2, c2, rfl⟩ := ho2.isSlice; have HE3 := Lib.hid (HE2.out.below hb2 HE2.out.lt); have k0y : x2.cell? ⟨wr.heap.size, 0, none⟩ = some (.slice ka e.key.length kc) := HE3.out.cell rfl; have k3y : x2.cell? ⟨wr.heap.size, 3, none⟩ = some (.slice va e.value.length vc) := HE3.out.cell rfl; have f0y := HE3.out.free 0; have f3y := HE3.out.free 3))
        all_goals
          go_upto_region 13 with fail
          refine wp_gen fun w5 hw5 => ?_
          have HE5 : Hid (Blk w5 wr.heap.size (entCells e (.slice a1 n1 c1) (.slice a2 n2 c2)).toArray 29) := by rw [hw5]; exact (HE3.out.set 0 _).set 3 _
          have hz : wr.heap.size < w1.drew.heap.size := HE0.out.lt
          have HK5 : Hid (Bytes (fun k => wr.heap.size < k) w5 (.slice a1 n1 c1) e.key) := by
            rw [hw5]
            refine ((Owned.bytesFrom ho1).below hb2 |>.mono (F' := fun k => wr.heap.size < k) fun k _ hk => by omega).keep fun k _ hk => ?_
            rw [heap_setCell_other _ _ _ _ (by show k ≠ wr.heap.size; omega), heap_setCell_other _ _ _ _ (by show k ≠ wr.heap.size; omega)]
          have HV5 : Hid (Bytes (fun k => wr.heap.size < k) w5 (.slice a2 n2 c2) e.value) := by
            rw [hw5]
            refine ((Owned.bytesFrom ho2).mono (F' := fun k => wr.heap.size < k) fun k _ hk => by have := hb1.size; omega).keep fun k _ hk => ?_
            rw [heap_setCell_other _ _ _ _ (by show k ≠ wr.heap.size; omega), heap_setCell_other _ _ _ _ (by show k ≠ wr.heap.size; omega)]
          have HW5 : Hid (Below wr.heap.size wr w5) := by
            rw [hw5]
            exact (((HW0.out.trans (hb1.mono HW0.out.size)).trans (hb2.mono (Nat.le_trans HW0.out.size hb1.size))).setCell (Nat.le_refl _) _).setCell (Nat.le_refl _) _
          clear hw5 HE3 HE2 HE0 HK1 HV1 HW0 ho1 ho2 hb1 hb2 k0 k3 k3x k0y k3y f0y f3y hz
          have c0 : w5.cell? ⟨wr.heap.size, 0, none⟩ = some (.slice a1 n1 c1) := HE5.out.cell rfl
          have c1' : w5.cell? ⟨wr.heap.size, 1, none⟩ = some (.int .u64 e.seq) := HE5.out.cell rfl
          have c2' : w5.cell? ⟨wr.heap.size, 2, none⟩ = some (.int .i64 e.kind) := HE5.out.cell rfl
          have c3 : w5.cell? ⟨wr.heap.size, 3, none⟩ = some (.slice a2 n2 c2) := HE5.out.cell rfl
          go_wp2_with (with_reducible refine pause_append ?_)
          refine list_gen fun w3 hw3 => ?_
          have HB3 : Hid (Below w5.heap.size w5 w3) := by rw [hw3]; exact (Below.refl _ _).alloc (Nat.le_refl _) _
          have HS3 : Hid (Blk w3 w5.heap.size (entCells e (.slice a1 n1 c1) (.slice a2 n2 c2)).toArray 29) := by rw [hw3]; exact Blk.at_new rfl rfl
          clear hw3 c0 c1' c2' c3
          have HW3 : Hid (Below wr.heap.size wr w3) := HW5.out.trans (HB3.out.mono HW5.out.size)
          have HRO3 := Lib.hid (HRO.out.below HW3.out)
          have HT3 : Hid (Below wc.heap.size wc w3) := HB.out.trans (HW3.out.mono HB.out.size)
          have HLT : Hid (∀ k, (Value.slice oo out.length oc).ownBlock = some k → k < wr.heap.size) := fun k e0 => (HRO.out.lt k e0).2
          refine Pause.go (wpList_append_elF (K := entK) 31 29 _ 64 Try.underlying31 info_entO rfl (fun k => w.heap.size ≤ k) wc.heap.size (.slice oo out.length oc) out w5.heap.size 29 _ e rfl _ _ rfl rfl rfl HRO3.out HS3.out
            ⟨_, _, rfl, (HK5.out.below HB3.out).mono fun k _ hk => ?_, (HV5.out.below HB3.out).mono fun k _ hk => ?_⟩ HLen.out (by decide) HT3.out.size ?_)
          · have h2 := HB.out.size
            exact ⟨by omega, fun e1 => by have := HLT.out k e1; omega⟩
          · have h2 := HB.out.size
            exact ⟨by omega, fun e1 => by have := HLT.out k e1; omega⟩
          · intro v4 w4 hro hg
            have HRO4 : Hid (ROwnF entK (fun k => w.heap.size ≤ k) wc.heap.size 29 w4 v4 (X.take (j + 1))) := by rw [HT.out]; exact hro
            have HB4 : Hid (Below wc.heap.size wc w4) := HT3.out.trans (hg.below HT3.out.size fun k e0 => (HRO3.out.lt k e0).1)
            clear hro hg HRO3 HRO HS3 HLT
            go_wp2_with fail
            go_roundw
            · exact ⟨j + 1, by go_num, by omega, HRO4, HB4⟩
            · simp only [intOf]; omega
      · have hjl : ¬ (j : Int) < (n : Int) := by omega
        obtain rfl : j = n := by omega
        have h1 := HRO.out
        rw [List.take_of_length_le (by rw [HN.out]; exact Nat.le_refl _)] at h1
        have HR1 := Lib.hid h1
        clear h1 HRO
        obtain ⟨oo, oc, rfl⟩ := HR1.out.isSlice
        have HF : Hid (Rw entK (fun k => w.heap.size ≤ k) wr (.slice oo X.length oc) X) := HR1.out.rows.mono fun k _ hk => by
          rcases hk with hk | hk
          · exact Nat.le_trans hwb (HR1.out.lt k hk).1
          · exact hk.1
        clear HR1
        rw [HN.out] at HF
        rw [HN.out]
        go_wp2_with fail
        go_ret2
        exact HPO.out _ _ _ HF.out (HW.out.trans (HB.out.mono hwb))
end Go.Proofs.Ytmpapipobjoboaa
