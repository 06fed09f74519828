/- law 15: lives, CompactNames. -/
import Derived.Test.YtmpapipobjoboaaCoL
namespace Go.Proofs.Ytmpapipobjoboaa
open Go.RowKit

def qA (n : Int) : Ent := ⟨[97], n, 1, []⟩
def qD (n : Int) : Ent := ⟨[97], n, 2, []⟩
def qB : Ent := ⟨[98], 1, 1, []⟩
def qC : Ent := ⟨[99], 1, 1, []⟩
def q3 : List Ent := [qA 3, qA 2, qA 1]
def q2 : List Ent := [qD 3, qA 1]
def qK : List Ent := [qA 1, qB, qC]
theorem row_q3 : rowB q3 = true := rowB_true fun i hi => by
  have : i = 0 ∨ i = 1 := by simp [q3] at hi; omega
  rcases this with rfl | rfl <;> decide
theorem row_q2 : rowB q2 = true := rowB_true fun i hi => by
  have : i = 0 := by simp [q2] at hi; omega
  subst this; decide
theorem row_qK : rowB qK = true := rowB_true fun i hi => by
  have : i = 0 ∨ i = 1 := by simp [qK] at hi; omega
  rcases this with rfl | rfl <;> decide
theorem up_none : upB [] = true := upB_true fun i hi => by cases hi
theorem up_one : upB [1] = true := upB_true fun i hi => by
  have : i = 0 := by simp at hi; omega
  subst this; decide
theorem up_bad : upB [2, 1] = false := upB_false (j := 1) (by decide) (by decide)
theorem vis_y {looks : List Int} {l : List Ent} {i : Nat} (h : VisP (looks ++ [maxSeq]) l i) : visB looks l i = true := visB_iff.2 h
theorem vis_n {looks : List Int} {l : List Ent} {i : Nat} (h : ¬ VisP (looks ++ [maxSeq]) l i) : visB looks l i = false := Bool.eq_false_iff.2 fun e => h (visB_iff.1 e)
theorem row_of1 : rowOf [] false q3 = [qA 3] := by
  have h0 : visB [] q3 0 = true := vis_y (by unfold VisP; decide)
  have h1 : visB [] q3 1 = false := vis_n (by unfold VisP; decide)
  have h2 : visB [] q3 2 = false := vis_n (by unfold VisP; decide)
  unfold rowOf
  rw [if_neg (by decide), show q3.length = 3 from rfl]
  simp only [keepTo, h0, h1, h2]
  rfl
theorem row_of2 : rowOf [1] false q3 = [qA 3, qA 1] := by
  have h0 : visB [1] q3 0 = true := vis_y (by unfold VisP; decide)
  have h1 : visB [1] q3 1 = false := vis_n (by unfold VisP; decide)
  have h2 : visB [1] q3 2 = true := vis_y (by unfold VisP; decide)
  unfold rowOf
  rw [if_neg (by decide), show q3.length = 3 from rfl]
  simp only [keepTo, h0, h1, h2]
  rfl
theorem row_of3 : rowOf [] true q2 = [] := by
  have h0 : visB [] q2 0 = true := vis_y (by unfold VisP; decide)
  have h1 : visB [] q2 1 = false := vis_n (by unfold VisP; decide)
  unfold rowOf
  rw [if_pos rfl, show q2.length = 2 from rfl]
  simp only [keepTo, h0, h1]
  decide
theorem row_of4 : rowOf [1] true q2 = [qD 3, qA 1] := by
  have h0 : visB [1] q2 0 = true := vis_y (by unfold VisP; decide)
  have h1 : visB [1] q2 1 = true := vis_y (by unfold VisP; decide)
  unfold rowOf
  rw [if_pos rfl, show q2.length = 2 from rfl]
  simp only [keepTo, h0, h1]
  rfl
theorem cut_k : cutTo 60 qK 3 = [[qA 1, qB], [qC]] := by
  have h1 : cutTo 60 qK 1 = [[qA 1]] := by
    rw [cutTo_succ, openF_new (.inl rfl)]
    rfl
  have h2 : cutTo 60 qK 2 = [[qA 1, qB]] := by
    rw [cutTo_succ, h1, openF_old (by unfold NewF; decide)]
    rfl
  rw [cutTo_succ, h2, openF_new (by unfold NewF; decide)]
  rfl

theorem uns_lit1 {w : World} {b : Nat} {T : TypeId} {n : Int} (hb : Blk w b #[.int .u64 n] T) : Rw unK Any w (.slice (some ⟨b, 0, none⟩) 1 1) [n] :=
  (rw_lit (K := unK) (F := Any) (n := 1) (xs := [n]) hb ⟨rfl, rfl⟩ rfl (by decide)).any
theorem uns_lit2 {w : World} {b : Nat} {T : TypeId} {n m : Int} (hb : Blk w b #[.int .u64 n, .int .u64 m] T) : Rw unK Any w (.slice (some ⟨b, 0, none⟩) 2 2) [n, m] :=
  (rw_lit (K := unK) (F := Any) (n := 2) (xs := [n, m]) hb ⟨rfl, rfl, rfl⟩ rfl (by decide)).any
theorem qents2 {w : World} {b : Nat} {T : TypeId} {e e' : Ent} {k k' : Value} (hb : Blk w b #[k, .int .u64 e.seq, .int .i64 e.kind, .slice none 0 0, k', .int .u64 e'.seq, .int .i64 e'.kind, .slice none 0 0] T) (hk : Bytes Any w k e.key) (hk' : Bytes Any w k' e'.key) (h : e.value = []) (h' : e'.value = []) :
    Rw entK Any w (.slice (some ⟨b, 0, none⟩) 2 2) [e, e'] :=
  (rw_lit (K := entK) (F := Any) (n := 2) (xs := [e, e']) hb ⟨⟨k, _, rfl, hk, by rw [h]; exact Bytes.nil _ _⟩, ⟨k', _, rfl, hk', by rw [h']; exact Bytes.nil _ _⟩, rfl⟩ rfl (by decide)).any
theorem qents3 {w : World} {b : Nat} {T : TypeId} {e e' f : Ent} {k k' m : Value} (hb : Blk w b #[k, .int .u64 e.seq, .int .i64 e.kind, .slice none 0 0, k', .int .u64 e'.seq, .int .i64 e'.kind, .slice none 0 0, m, .int .u64 f.seq, .int .i64 f.kind, .slice none 0 0] T) (hk : Bytes Any w k e.key) (hk' : Bytes Any w k' e'.key) (hm : Bytes Any w m f.key) (h : e.value = []) (h' : e'.value = []) (h'' : f.value = []) :
    Rw entK Any w (.slice (some ⟨b, 0, none⟩) 3 3) [e, e', f] :=
  (rw_lit (K := entK) (F := Any) (n := 3) (xs := [e, e', f]) hb ⟨⟨k, _, rfl, hk, by rw [h]; exact Bytes.nil _ _⟩, ⟨k', _, rfl, hk', by rw [h']; exact Bytes.nil _ _⟩, ⟨m, _, rfl, hm, by rw [h'']; exact Bytes.nil _ _⟩, rfl⟩ rfl (by decide)).any

theorem crow_ok (v vk : Value) (l : List Ent) (looks : List Int) (bottom : Bool) (X : List Ent) (n : Nat) (hn : X.length = n) (w : World) (h : Rw entK Any w v l) (hk : Rw unK Any w vk looks) (hfew : l.length ≤ 1000) (hml : looks.length ≤ 1000) (hbig : ∀ x ∈ l, x.key.length ≤ 1000 ∧ x.value.length ≤ 1000) (h1 : rowB l = true) (h2 : upB looks = true) (hX : rowOf looks bottom l = X) :
    Calls Try.prog 43 #[v, vk, .bool bottom] w fun x w' => ∃ a c, x = .returned (.tuple #[.slice a n c, .int .i64 0]) ∧ Rw entK Any w' (.slice a n c) X ∧ Below w.heap.size w w' := by
  subst hn
  refine (crow_any Any Any v vk l looks bottom w h hk (Nat.le_trans hfew (by decide)) (Nat.le_trans hml (by decide)) (fun x hx => ⟨Nat.le_trans (hbig x hx).1 (by decide), Nat.le_trans (hbig x hx).2 (by decide)⟩)).mono fun x w' ⟨g1, _, g3⟩ => ?_
  obtain ⟨a, c, e, hr⟩ := g1 (chkV_ok h1 h2)
  rw [hX] at e hr
  exact ⟨a, c, e, hr.any, g3⟩

set_option maxRecDepth 100000 in
set_option maxHeartbeats 4000000 in
theorem llives_any (w : World) :
    Calls Try.prog 14 #[] w fun x w' => x = .returned (.bool true) ∧ Below w.heap.size w w' := by
  go_enter Try.func14, Try.ntmps14
  go_wp2_with fail
  refine Calls.mono (lput_any [97] 3 w (by decide)) ?_
  rintro _ w1 ⟨vk, rfl, hk, hb⟩
  obtain ⟨k1a, k1c, rfl⟩ := hk.isSlice
  have HW1 := Lib.hid hb
  have HK1 := Lib.hid hk.any
  clear hb hk
  go_wp2_with fail
  refine Calls.mono (lput_any [97] 2 w1 (by decide)) ?_
  rintro _ w2 ⟨vk, rfl, hk, hb⟩
  obtain ⟨k2a, k2c, rfl⟩ := hk.isSlice
  have HW2 : Hid (Below w.heap.size w w2) := HW1.out.trans (hb.mono HW1.out.size)
  have HK1 := Lib.hid (HK1.out.below hb)
  have HK2 := Lib.hid hk.any
  clear hb hk HW1
  go_wp2_with fail
  refine Calls.mono (lput_any [97] 1 w2 (by decide)) ?_
  rintro _ w3 ⟨vk, rfl, hk, hb⟩
  obtain ⟨k3a, k3c, rfl⟩ := hk.isSlice
  have HW3 : Hid (Below w.heap.size w w3) := HW2.out.trans (hb.mono HW2.out.size)
  have HK1 := Lib.hid (HK1.out.below hb)
  have HK2 := Lib.hid (HK2.out.below hb)
  have HK3 := Lib.hid hk.any
  clear hb hk HW2
  go_wp2_with fail
  refine calls_gen fun w4 hw4 => ?_
  have HB4 : Hid (Below w3.heap.size w3 w4) := by rw [hw4]; exact (Below.refl _ _).alloc (Nat.le_refl _) _
  have HL4 : Hid (Rw entK Any w4 (.slice (some ⟨w3.heap.size, 0, none⟩) 3 3) q3) := by
    have hb := HB4.out
    rw [hw4] at hb ⊢
    exact qents3 (e := qA 3) (e' := qA 2) (f := qA 1) (Blk.at_new rfl rfl) (HK1.out.below hb) (HK2.out.below hb) (HK3.out.below hb) rfl rfl rfl
  have HW4 : Hid (Below w.heap.size w w4) := HW3.out.trans (HB4.out.mono HW3.out.size)
  clear hw4 HB4 HW3 HK1 HK2 HK3
  refine Calls.mono (crow_ok _ _ q3 [] false [qA 3] 1 rfl w4 HL4.out (Rw.nil _ _ _) (by decide) (by decide) (by decide) row_q3 up_none row_of1) ?_
  rintro _ w5 ⟨ra, rc, rfl, hr, hb⟩
  have HW5 : Hid (Below w.heap.size w w5) := HW4.out.trans (hb.mono HW4.out.size)
  have HA := Lib.hid hr
  clear hb HW4 hr HL4
  go_wp2_with fail
  refine Calls.mono (lput_any [97] 3 w5 (by decide)) ?_
  rintro _ w6 ⟨vk, rfl, hk, hb⟩
  obtain ⟨k6a, k6c, rfl⟩ := hk.isSlice
  have HW6 : Hid (Below w.heap.size w w6) := HW5.out.trans (hb.mono HW5.out.size)
  have HA := Lib.hid (HA.out.below hb)
  have HK6 := Lib.hid hk.any
  clear hb hk HW5
  go_wp2_with fail
  refine Calls.mono (lput_any [97] 2 w6 (by decide)) ?_
  rintro _ w7 ⟨vk, rfl, hk, hb⟩
  obtain ⟨k7a, k7c, rfl⟩ := hk.isSlice
  have HW7 : Hid (Below w.heap.size w w7) := HW6.out.trans (hb.mono HW6.out.size)
  have HA := Lib.hid (HA.out.below hb)
  have HK6 := Lib.hid (HK6.out.below hb)
  have HK7 := Lib.hid hk.any
  clear hb hk HW6
  go_wp2_with fail
  refine Calls.mono (lput_any [97] 1 w7 (by decide)) ?_
  rintro _ w8 ⟨vk, rfl, hk, hb⟩
  obtain ⟨k8a, k8c, rfl⟩ := hk.isSlice
  have HW8 : Hid (Below w.heap.size w w8) := HW7.out.trans (hb.mono HW7.out.size)
  have HA := Lib.hid (HA.out.below hb)
  have HK6 := Lib.hid (HK6.out.below hb)
  have HK7 := Lib.hid (HK7.out.below hb)
  have HK8 := Lib.hid hk.any
  clear hb hk HW7
  go_wp2_with fail
  refine calls_gen fun w9 hw9 => ?_
  have HB9 : Hid (Below w8.heap.size w8 w9) := by rw [hw9]; exact below_two _ _ _
  have HL9 : Hid (Rw entK Any w9 (.slice (some ⟨w8.heap.size, 0, none⟩) 3 3) q3) := by
    have hb := HB9.out
    rw [hw9] at hb ⊢
    exact qents3 (e := qA 3) (e' := qA 2) (f := qA 1) ((Blk.at_new rfl rfl).alloc _) (HK6.out.below hb) (HK7.out.below hb) (HK8.out.below hb) rfl rfl rfl
  have HU9 : Hid (Rw unK Any w9 (.slice (some ⟨w8.heap.size + 1, 0, none⟩) 1 1) [1]) := by
    rw [hw9]
    exact uns_lit1 (Blk.at_new (by simp) rfl)
  have HW9 : Hid (Below w.heap.size w w9) := HW8.out.trans (HB9.out.mono HW8.out.size)
  have HA := Lib.hid (HA.out.below HB9.out)
  clear hw9 HB9 HW8 HK6 HK7 HK8
  refine Calls.mono (crow_ok _ _ q3 [1] false [qA 3, qA 1] 2 rfl w9 HL9.out HU9.out (by decide) (by decide) (by decide) row_q3 up_one row_of2) ?_
  rintro _ w10 ⟨sa, sc, rfl, hr, hb⟩
  have HW10 : Hid (Below w.heap.size w w10) := HW9.out.trans (hb.mono HW9.out.size)
  have HA := Lib.hid (HA.out.below hb)
  have HB := Lib.hid hr
  clear hb HW9 hr HL9 HU9
  go_wp2_with fail
  refine Calls.mono (ldel_any [97] 3 w10 (by decide)) ?_
  rintro _ w11 ⟨vk, rfl, hk, hb⟩
  obtain ⟨k11a, k11c, rfl⟩ := hk.isSlice
  have HW11 : Hid (Below w.heap.size w w11) := HW10.out.trans (hb.mono HW10.out.size)
  have HA := Lib.hid (HA.out.below hb)
  have HB := Lib.hid (HB.out.below hb)
  have HK11 := Lib.hid hk.any
  clear hb hk HW10
  go_wp2_with fail
  refine Calls.mono (lput_any [97] 1 w11 (by decide)) ?_
  rintro _ w12 ⟨vk, rfl, hk, hb⟩
  obtain ⟨k12a, k12c, rfl⟩ := hk.isSlice
  have HW12 : Hid (Below w.heap.size w w12) := HW11.out.trans (hb.mono HW11.out.size)
  have HA := Lib.hid (HA.out.below hb)
  have HB := Lib.hid (HB.out.below hb)
  have HK11 := Lib.hid (HK11.out.below hb)
  have HK12 := Lib.hid hk.any
  clear hb hk HW11
  go_wp2_with fail
  refine calls_gen fun w13 hw13 => ?_
  have HB13 : Hid (Below w12.heap.size w12 w13) := by rw [hw13]; exact (Below.refl _ _).alloc (Nat.le_refl _) _
  have HL13 : Hid (Rw entK Any w13 (.slice (some ⟨w12.heap.size, 0, none⟩) 2 2) q2) := by
    have hb := HB13.out
    rw [hw13] at hb ⊢
    exact qents2 (e := qD 3) (e' := qA 1) (Blk.at_new rfl rfl) (HK11.out.below hb) (HK12.out.below hb) rfl rfl
  have HW13 : Hid (Below w.heap.size w w13) := HW12.out.trans (HB13.out.mono HW12.out.size)
  have HA := Lib.hid (HA.out.below HB13.out)
  have HB := Lib.hid (HB.out.below HB13.out)
  clear hw13 HB13 HW12 HK11 HK12
  refine Calls.mono (crow_ok _ _ q2 [] true [] 0 rfl w13 HL13.out (Rw.nil _ _ _) (by decide) (by decide) (by decide) row_q2 up_none row_of3) ?_
  rintro _ w14 ⟨ta, tc, rfl, _, hb⟩
  have HW14 : Hid (Below w.heap.size w w14) := HW13.out.trans (hb.mono HW13.out.size)
  have HA := Lib.hid (HA.out.below hb)
  have HB := Lib.hid (HB.out.below hb)
  clear hb HW13 HL13
  go_wp2_with fail
  refine Calls.mono (ldel_any [97] 3 w14 (by decide)) ?_
  rintro _ w15 ⟨vk, rfl, hk, hb⟩
  obtain ⟨k15a, k15c, rfl⟩ := hk.isSlice
  have HW15 : Hid (Below w.heap.size w w15) := HW14.out.trans (hb.mono HW14.out.size)
  have HA := Lib.hid (HA.out.below hb)
  have HB := Lib.hid (HB.out.below hb)
  have HK15 := Lib.hid hk.any
  clear hb hk HW14
  go_wp2_with fail
  refine Calls.mono (lput_any [97] 1 w15 (by decide)) ?_
  rintro _ w16 ⟨vk, rfl, hk, hb⟩
  obtain ⟨k16a, k16c, rfl⟩ := hk.isSlice
  have HW16 : Hid (Below w.heap.size w w16) := HW15.out.trans (hb.mono HW15.out.size)
  have HA := Lib.hid (HA.out.below hb)
  have HB := Lib.hid (HB.out.below hb)
  have HK15 := Lib.hid (HK15.out.below hb)
  have HK16 := Lib.hid hk.any
  clear hb hk HW15
  go_wp2_with fail
  refine calls_gen fun w17 hw17 => ?_
  have HB17 : Hid (Below w16.heap.size w16 w17) := by rw [hw17]; exact below_two _ _ _
  have HL17 : Hid (Rw entK Any w17 (.slice (some ⟨w16.heap.size, 0, none⟩) 2 2) q2) := by
    have hb := HB17.out
    rw [hw17] at hb ⊢
    exact qents2 (e := qD 3) (e' := qA 1) ((Blk.at_new rfl rfl).alloc _) (HK15.out.below hb) (HK16.out.below hb) rfl rfl
  have HU17 : Hid (Rw unK Any w17 (.slice (some ⟨w16.heap.size + 1, 0, none⟩) 1 1) [1]) := by
    rw [hw17]
    exact uns_lit1 (Blk.at_new (by simp) rfl)
  have HW17 : Hid (Below w.heap.size w w17) := HW16.out.trans (HB17.out.mono HW16.out.size)
  have HA := Lib.hid (HA.out.below HB17.out)
  have HB := Lib.hid (HB.out.below HB17.out)
  clear hw17 HB17 HW16 HK15 HK16
  refine Calls.mono (crow_ok _ _ q2 [1] true [qD 3, qA 1] 2 rfl w17 HL17.out HU17.out (by decide) (by decide) (by decide) row_q2 up_one row_of4) ?_
  rintro _ w18 ⟨ua, uc, rfl, _, hb⟩
  have HWz : Hid (Below w.heap.size w w18) := HW17.out.trans (hb.mono HW17.out.size)
  obtain ⟨ba, oa, capa, ea, _, _, hca⟩ := ents_at (HA.out.below hb) (by decide)
  obtain ⟨bb, ob, capb, eb, _, _, hcb⟩ := ents_at (HB.out.below hb) (by decide)
  obtain ⟨_, _, _, _, _, c1, _, _⟩ := hca 0 (by decide)
  obtain ⟨_, _, _, _, _, c2, _, _⟩ := hcb 1 (by decide)
  injection ea with e1 e2 e3
  injection eb with e4 e5 e6
  subst e1 e3 e4 e6
  clear e2 e5
  have k1 : w18.cell? ⟨ba, oa + 1, none⟩ = some (.int .u64 3) := c1
  have k2 : w18.cell? ⟨bb, ob + 4 + 1, none⟩ = some (.int .u64 1) := c2
  clear hca hcb c1 c2 hb HA HB HL17 HU17 HW17
  go_wp2_with fail
  go_ret
  exact ⟨rfl, HWz.out⟩

theorem ccut_ok (v : Value) (l : List Ent) (t : Int) (X : List (List Ent)) (m n : Nat) (hm : l.length = m) (hn : X.length = n) (w : World) (h : Rw entK Any w v l) (hfew : m ≤ 1000) (hsz : ∀ i, i < l.length → (eat l i).key.length + (eat l i).value.length ≤ 1000) (h1 : rowB l = true) (h2 : 1 ≤ t ∧ t ≤ 16777216) (hX : cutTo t l m = X) :
    Calls Try.prog 11 #[v, .int .i64 t] w fun x w' => ∃ a c, x = .returned (.tuple #[.slice a n c, .int .i64 0]) ∧ Rw (rowK entK) Any w' (.slice a n c) X ∧ Below w.heap.size w w' := by
  subst hn hm
  refine (ccut_any Any v l t w h (Nat.le_trans hfew (by decide)) (fun i hi => Nat.le_trans (hsz i hi) (by decide))).mono fun x w' ⟨g1, _, g3⟩ => ?_
  obtain ⟨a, c, e, hr⟩ := g1 ⟨h1, h2.1, h2.2⟩
  rw [hX] at e hr
  exact ⟨a, c, e, hr.any, g3⟩
theorem ccut_nil (w : World) : Calls Try.prog 11 #[.slice none 0 0, .int .i64 0] w fun x w' => x = .returned (.tuple #[.slice none 0 0, .int .i64 2]) ∧ Below w.heap.size w w' :=
  (ccut_any Any _ [] 0 w (Rw.nil _ _ _) (by decide) (fun i hi => by cases hi)).mono fun x w' ⟨_, g2, g3⟩ => ⟨g2 (fun e => by omega), g3⟩
theorem cvis_bad (vk : Value) (w : World) (hk : Rw unK Any w vk [2, 1]) : Calls Try.prog 13 #[.slice none 0 0, vk] w fun x w' => x = .returned (.tuple #[.slice none 0 0, .int .i64 2]) ∧ Below w.heap.size w w' :=
  (cvis_any Any Any _ vk [] [2, 1] w (Rw.nil _ _ _) hk (by decide) (by decide)).mono fun x w' ⟨_, g2, g3⟩ => ⟨g2 (by rw [chkV_up _ up_bad]; decide), g3⟩

set_option maxRecDepth 100000 in
set_option maxHeartbeats 4000000 in
theorem compactNames_any (w : World) :
    Calls Try.prog 3 #[] w fun x w' => x = .returned (.bool true) ∧ Below w.heap.size w w' := by
  go_enter Try.func3, Try.ntmps3
  go_wp2_with fail
  refine Calls.mono (lput_any [97] 1 w (by decide)) ?_
  rintro _ w1 ⟨vk, rfl, hk, hb⟩
  obtain ⟨k1a, k1c, rfl⟩ := hk.isSlice
  have HW1 := Lib.hid hb
  have HK1 := Lib.hid hk.any
  clear hb hk
  go_wp2_with fail
  refine Calls.mono (lput_any [98] 1 w1 (by decide)) ?_
  rintro _ w2 ⟨vk, rfl, hk, hb⟩
  obtain ⟨k2a, k2c, rfl⟩ := hk.isSlice
  have HW2 : Hid (Below w.heap.size w w2) := HW1.out.trans (hb.mono HW1.out.size)
  have HK1 := Lib.hid (HK1.out.below hb)
  have HK2 := Lib.hid hk.any
  clear hb hk HW1
  go_wp2_with fail
  refine Calls.mono (lput_any [99] 1 w2 (by decide)) ?_
  rintro _ w3 ⟨vk, rfl, hk, hb⟩
  obtain ⟨k3a, k3c, rfl⟩ := hk.isSlice
  have HW3 : Hid (Below w.heap.size w w3) := HW2.out.trans (hb.mono HW2.out.size)
  have HK1 := Lib.hid (HK1.out.below hb)
  have HK2 := Lib.hid (HK2.out.below hb)
  have HK3 := Lib.hid hk.any
  clear hb hk HW2
  go_wp2_with fail
  refine calls_gen fun w4 hw4 => ?_
  have HB4 : Hid (Below w3.heap.size w3 w4) := by rw [hw4]; exact (Below.refl _ _).alloc (Nat.le_refl _) _
  have HL4 : Hid (Rw entK Any w4 (.slice (some ⟨w3.heap.size, 0, none⟩) 3 3) qK) := by
    have hb := HB4.out
    rw [hw4] at hb ⊢
    exact qents3 (e := qA 1) (e' := qB) (f := qC) (Blk.at_new rfl rfl) (HK1.out.below hb) (HK2.out.below hb) (HK3.out.below hb) rfl rfl rfl
  have HW4 : Hid (Below w.heap.size w w4) := HW3.out.trans (HB4.out.mono HW3.out.size)
  clear hw4 HB4 HW3 HK1 HK2 HK3
  refine Calls.mono (ccut_ok _ qK 60 [[qA 1, qB], [qC]] 3 2 rfl rfl w4 HL4.out (by decide) (by decide) row_qK (by decide) cut_k) ?_
  rintro _ w5 ⟨ra, rc, rfl, hr, hb⟩
  have HW5 : Hid (Below w.heap.size w w5) := HW4.out.trans (hb.mono HW4.out.size)
  have HA := Lib.hid hr
  clear hb HW4 hr HL4
  go_wp2_with fail
  refine Calls.mono (ccut_nil _) ?_
  rintro _ w6 ⟨rfl, hb⟩
  have HW6 : Hid (Below w.heap.size w w6) := HW5.out.trans (hb.mono HW5.out.size)
  have HA := Lib.hid (HA.out.below hb)
  clear hb HW5 
  go_wp2_with fail
  refine calls_gen fun w7 hw7 => ?_
  have HB7 : Hid (Below w6.heap.size w6 w7) := by rw [hw7]; exact (Below.refl _ _).alloc (Nat.le_refl _) _
  have HU7 : Hid (Rw unK Any w7 (.slice (some ⟨w6.heap.size, 0, none⟩) 2 2) [2, 1]) := by
    rw [hw7]
    exact uns_lit2 (Blk.at_new rfl rfl)
  have HW7 : Hid (Below w.heap.size w w7) := HW6.out.trans (HB7.out.mono HW6.out.size)
  have HA := Lib.hid (HA.out.below HB7.out)
  clear hw7 HB7 HW6 
  refine Calls.mono (cvis_bad _ w7 HU7.out) ?_
  rintro _ w8 ⟨rfl, hb⟩
  have HW8 : Hid (Below w.heap.size w w8) := HW7.out.trans (hb.mono HW7.out.size)
  have HA := Lib.hid (HA.out.below hb)
  clear hb HW7 HU7
  go_wp2_with fail
  refine Calls.mono (llives_any _) ?_
  rintro _ w9 ⟨rfl, hb⟩
  have HWz : Hid (Below w.heap.size w w9) := HW8.out.trans (hb.mono HW8.out.size)
  obtain ⟨ba, oa, capa, ea, _, _, hca⟩ := rows_at (HA.out.below hb) (by decide)
  obtain ⟨u, hu, c1⟩ := hca 0 (by decide)
  obtain ⟨ua, uc, rfl⟩ := hu.isSlice
  injection ea with e1 e2 e3
  subst e1 e3
  clear e2
  have k1 : w9.cell? ⟨ba, oa, none⟩ = some (.slice ua 2 uc) := c1
  clear hca c1 hu hb HA HW8
  go_wp2_with fail
  go_ret
  exact ⟨rfl, HWz.out⟩
end Go.Proofs.Ytmpapipobjoboaa
