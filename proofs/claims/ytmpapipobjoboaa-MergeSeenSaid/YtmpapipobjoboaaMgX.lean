/- Merge: the document's answer: two rows as one. -/
import Derived.Test.YtmpapipobjoboaaMgV
namespace Go.Proofs.Ytmpapipobjoboaa
open Go.RowKit

/-- Two rows as one, the first one's entries counting. -/
def two : List Ent → List Ent → List Ent
  | [], b => b
  | x :: a, [] => x :: a
  | x :: a, y :: b => if Ent.cmp x y < 0 then x :: two a (y :: b) else if Ent.cmp x y = 0 then x :: two a b else y :: two (x :: a) b
termination_by a b => a.length + b.length

theorem eat_drop {l : List Ent} {j : Nat} (h : j < l.length) : l.drop j = eat l j :: l.drop (j + 1) := drop_at _ l j h
theorem two_lt {a b : List Ent} {i k : Nat} (hi : i < a.length) (hk : k < b.length) (h : Ent.cmp (eat a i) (eat b k) < 0) : two (a.drop i) (b.drop k) = eat a i :: two (a.drop (i + 1)) (b.drop k) := by
  rw [eat_drop hi, eat_drop hk, two, if_pos h]
theorem two_eq {a b : List Ent} {i k : Nat} (hi : i < a.length) (hk : k < b.length) (h : Ent.cmp (eat a i) (eat b k) = 0) : two (a.drop i) (b.drop k) = eat a i :: two (a.drop (i + 1)) (b.drop (k + 1)) := by
  rw [eat_drop hi, eat_drop hk, two, if_neg (by omega), if_pos h]
theorem two_gt {a b : List Ent} {i k : Nat} (hi : i < a.length) (hk : k < b.length) (h : 0 < Ent.cmp (eat a i) (eat b k)) : two (a.drop i) (b.drop k) = eat b k :: two (a.drop i) (b.drop (k + 1)) := by
  rw [eat_drop hi, eat_drop hk, two, if_neg (by omega), if_neg (by omega)]
theorem two_a {a b : List Ent} {i : Nat} (hi : i < a.length) : two (a.drop i) (b.drop b.length) = eat a i :: two (a.drop (i + 1)) (b.drop b.length) := by
  rw [List.drop_length, eat_drop hi, two]
  cases a.drop (i + 1) <;> simp [two]
theorem two_b {a b : List Ent} {k : Nat} (hk : k < b.length) : two (a.drop a.length) (b.drop k) = eat b k :: two (a.drop a.length) (b.drop (k + 1)) := by
  rw [List.drop_length, eat_drop hk]
  simp [two]
theorem two_end (a b : List Ent) : two (a.drop a.length) (b.drop b.length) = [] := by simp [two]

/-- What has been told so far. -/
def Sofar (a b : List Ent) (i k : Nat) (out : List Ent) : Prop := out ++ two (a.drop i) (b.drop k) = two a b ∧ out.length ≤ i + k
theorem Sofar.step {a b : List Ent} {i k i' k' : Nat} {out : List Ent} {e : Ent} (h : Sofar a b i k out) (hs : two (a.drop i) (b.drop k) = e :: two (a.drop i') (b.drop k')) (hn : i + k + 1 ≤ i' + k') : Sofar a b i' k' (out ++ [e]) := by
  obtain ⟨h1, h2⟩ := h
  refine ⟨?_, by rw [List.length_append, List.length_singleton]; omega⟩
  rw [hs] at h1
  rw [List.append_assoc]
  exact h1
theorem two_nil (b : List Ent) : two [] b = b := by simp [two]
theorem Sofar.start (a b : List Ent) : Sofar a b 0 0 [] := ⟨by simp, Nat.le_refl _⟩
theorem Sofar.done {a b : List Ent} {out : List Ent} (h : Sofar a b a.length b.length out) : out = two a b := by
  obtain ⟨h1, _⟩ := h
  rwa [two_end, List.append_nil] at h1

set_option maxRecDepth 100000 in
set_option maxHeartbeats 4000000 in
theorem two_any (F : Nat → Prop) (va vb : Value) (a b : List Ent) (w : World) (hA : Rw entK F w va a) (hB : Rw entK F w vb b) (ha : a.length ≤ 400000) (hb : b.length ≤ 400000) :
    Calls Try.prog 58 #[va, vb] w fun x w' => ∃ v', x = .returned v' ∧ Rw entK (fun k => F k ∨ w.heap.size ≤ k) w' v' (two a b) ∧ Below w.heap.size w w' := by
  obtain ⟨aa, ac, rfl⟩ := hA.isSlice
  obtain ⟨ab, bc, rfl⟩ := hB.isSlice
  have HA : Hid (Rw entK (fun k => F k ∧ k < w.heap.size) w (.slice aa a.length ac) a) := hA.mono fun k hk h => ⟨h, hk⟩
  have HB : Hid (Rw entK (fun k => F k ∧ k < w.heap.size) w (.slice ab b.length bc) b) := hB.mono fun k hk h => ⟨h, hk⟩
  clear hA hB
  obtain ⟨n, hn⟩ : ∃ n, a.length = n := ⟨_, rfl⟩
  obtain ⟨p, hp⟩ : ∃ p, b.length = p := ⟨_, rfl⟩
  have HN := Lib.hid hn
  have HP := Lib.hid hp
  rw [hn] at HA ha
  rw [hp] at HB hb
  rw [hn, hp]
  clear hn hp
  go_enter Try.func58, Try.ntmps58
  go_wp2_with fail
  go_loopw [5, 6, 7] (fun ov iv kv wr => ∃ (i k : Nat) (out : List Ent), iv = .int .i64 (i : Int) ∧ kv = .int .i64 (k : Int) ∧ i ≤ n ∧ k ≤ p ∧ Hid (Sofar a b i k out) ∧ Hid (ROwnF entK (fun k => F k ∧ k < w.heap.size) w.heap.size 29 wr ov out) ∧ Hid (Below w.heap.size w wr)) (fun _ iv kv _ => n + p - ((intOf iv).toNat + (intOf kv).toNat))
  case atStart => exact ⟨0, 0, [], rfl, rfl, by omega, by omega, Sofar.start a b, ROwnF.nil _ _ _ _ _, Below.refl _ _⟩
  case round =>
    obtain ⟨i, k, out, rfl, rfl, hi, hk, HS, HRO, HBw⟩ := hrel
    have HLen : Hid (out.length < 1000000) := by have := HS.out.2; show _ < _; omega
    obtain ⟨oo, oc, rfl⟩ := HRO.out.isSlice
    obtain ⟨q, hq⟩ : ∃ q, out.length = q := ⟨_, rfl⟩
    have HQ := Lib.hid hq
    rw [hq] at HRO
    rw [hq]
    clear hq
    have t3 : 0 ≤ (i : Int) := by omega
    have t4 : 0 ≤ (k : Int) := by omega
    by_cases hlt1 : i < n
    · have t1 : (i : Int) < (n : Int) := by omega
      have e1 : ((i : Int) == (n : Int)) = false := beq_eq_false_iff_ne.2 (by omega)
      have hia : i < a.length := by rw [HN.out]; exact hlt1
      obtain ⟨ba, oa, capa, ea, _, hba, hca⟩ := ents_at (HA.out.below HBw.out) (by omega)
      injection ea with e1 e2 e3
      subst e1 e3
      clear e2
      obtain ⟨k1, v1, hk1, hv1, hc1⟩ := hca i hia
      rw [eat_eq hia] at hk1 hv1 hc1
      obtain ⟨k1a, k1c, rfl⟩ := hk1.isSlice
      obtain ⟨v1a, v1c, rfl⟩ := hv1.isSlice
      have HK1 := Lib.hid hk1
      have HV1 := Lib.hid hv1
      have HC1 : Hid (C4o ba (oa + i * 4) (eat a i) (.slice k1a (eat a i).key.length k1c) (.slice v1a (eat a i).value.length v1c) wr) := hc1
      have HZ1 : Hid (ba < wr.heap.size) := hba
      clear hca hk1 hv1 hc1 hba
      by_cases hlt2 : k < p
      · have t2 : (k : Int) < (p : Int) := by omega
        have e2 : ((k : Int) == (p : Int)) = false := beq_eq_false_iff_ne.2 (by omega)
        have hkb : k < b.length := by rw [HP.out]; exact hlt2
        obtain ⟨bb, ob, capb, eb, _, hbb, hcb⟩ := ents_at (HB.out.below HBw.out) (by omega)
        injection eb with e4 e5 e6
        subst e4 e6
        clear e5
        obtain ⟨k2, v2, hk2, hv2, hc2⟩ := hcb k hkb
        rw [eat_eq hkb] at hk2 hv2 hc2
        obtain ⟨k2a, k2c, rfl⟩ := hk2.isSlice
        obtain ⟨v2a, v2c, rfl⟩ := hv2.isSlice
        have HK2 := Lib.hid hk2
        have HV2 := Lib.hid hv2
        have HC2 : Hid (C4o bb (ob + k * 4) (eat b k) (.slice k2a (eat b k).key.length k2c) (.slice v2a (eat b k).value.length v2c) wr) := hc2
        have HZ2 : Hid (bb < wr.heap.size) := hbb
        clear hcb hk2 hv2 hc2 hbb
        obtain ⟨c, hcc⟩ : ∃ c, Ent.cmp (eat a i) (eat b k) = c := ⟨_, rfl⟩
        have HCC := Lib.hid hcc
        have HC := Lib.hid hcc
        have HIA := Lib.hid hia
        have HKB := Lib.hid hkb
        have HKD1 := Lib.hid (HK1.out.below (below_drew (Below.refl _ _)))
        have HKD2 := Lib.hid (HK2.out.below (below_drew (Below.refl _ _)))
        have HD1 : Hid (C4o ba (oa + i * 4) (eat a i) (.slice k1a (eat a i).key.length k1c) (.slice v1a (eat a i).value.length v1c) wr.drew) := HC1
        have HD2 : Hid (C4o bb (ob + k * 4) (eat b k) (.slice k2a (eat b k).key.length k2c) (.slice v2a (eat b k).value.length v2c) wr.drew) := HC2
        clear hcc hia hkb hlt1 hlt2
        generalize hxa : eat a i = x at *
        generalize hyb : eat b k = y at *
        have HXA := Lib.hid hxa
        have HYB := Lib.hid hyb
        clear hxa hyb
        go_wp2_with fail
        go_region_held3 (fun w' => (w'.cell? ⟨ba, oa + i * 4, none⟩ = some (.slice k1a x.key.length k1c) ∧ w'.cell? ⟨ba, oa + i * 4 + 1, none⟩ = some (.int .u64 x.seq) ∧ w'.cell? ⟨ba, oa + i * 4 + 2, none⟩ = some (.int .i64 x.kind) ∧ w'.cell? ⟨ba, oa + i * 4 + 3, none⟩ = some (.slice v1a x.value.length v1c)) ∧ (w'.cell? ⟨bb, ob + k * 4, none⟩ = some (.slice k2a y.key.length k2c) ∧ w'.cell? ⟨bb, ob + k * 4 + 1, none⟩ = some (.int .u64 y.seq) ∧ w'.cell? ⟨bb, ob + k * 4 + 2, none⟩ = some (.int .i64 y.kind) ∧ w'.cell? ⟨bb, ob + k * 4 + 3, none⟩ = some (.slice v2a y.value.length v2c)))
          (first | exact ⟨HD1.out, HD2.out⟩ | exact ⟨HD1.out.keep hbx1 HZ1.out, HD2.out.keep hbx1 HZ2.out⟩)
          (first | (go_at_call 62; refine Calls.mono (rcompare_at _ _ x y c HC.out (.slice k1a x.key.length k1c) (.slice v1a x.value.length v1c) (.slice k2a y.key.length k2c) (.slice v2a y.value.length v2c) _ HKD1.out HKD2.out) ?_; rintro _ x1 ⟨rfl, hbx1⟩; skip))
        have HX : Hid (Below wr.heap.size wr x1) := below_of_drew hbx1
        clear hbx1 HD1 HD2 HKD1 HKD2 HC
        by_cases hc : c < 0
        · have t5 : c ≤ 0 := by omega
          have t6 : ¬ 0 ≤ c := by omega
          have HE := Lib.hid (HC1.out.keep HX.out HZ1.out)
          have HKX := Lib.hid (HK1.out.below HX.out)
          have HVX := Lib.hid (HV1.out.below HX.out)
          have HRX := Lib.hid (HRO.out.below HX.out)
          have HWX : Hid (Below w.heap.size w x1) := HBw.out.trans (HX.out.mono HBw.out.size)
          have HSX := Lib.hid (HS.out.step (e := x) (by rw [← HXA.out]; exact two_lt HIA.out HKB.out (by rw [HXA.out, HYB.out, HCC.out]; exact hc)) (i' := i + 1) (k' := k) (by omega))
          clear HRO HS HX
          obtain ⟨q0, q1, q2, q3⟩ := HE.out
          go_wp2_with (with_reducible refine pause_append ?_)
          refine list_gen fun w3 hw3 => ?_
          have HB3 : Hid (Below x1.heap.size x1 w3) := by rw [hw3]; exact (Below.refl _ _).alloc (Nat.le_refl _) _
          have HS3 : Hid (Blk w3 x1.heap.size (entCells x (.slice k1a x.key.length k1c) (.slice v1a x.value.length v1c)).toArray 29) := by rw [hw3]; exact Blk.at_new rfl rfl
          clear hw3 q0 q1 q2 q3 HE
          have HT3 : Hid (Below w.heap.size w w3) := HWX.out.trans (HB3.out.mono HWX.out.size)
          have HRO3 := Lib.hid (HRX.out.below HB3.out)
          rw [← HQ.out]
          rw [← HQ.out] at HRO3
          refine Pause.go (wpList_append_elF (K := entK) 31 29 _ 64 Try.underlying31 info_entO rfl (fun k => F k ∧ k < w.heap.size) w.heap.size (.slice oo out.length oc) out x1.heap.size 29 _ x rfl _ _ rfl rfl rfl HRO3.out HS3.out
            ⟨_, _, rfl, (HKX.out.below HB3.out).mono fun j _ hj => ⟨hj, fun e1 => by have := (HRO3.out.lt j e1).1; omega⟩, (HVX.out.below HB3.out).mono fun j _ hj => ⟨hj, fun e1 => by have := (HRO3.out.lt j e1).1; omega⟩⟩ HLen.out (by decide) HT3.out.size ?_)
          intro v4 w4 hro hg
          have HRO4 := Lib.hid hro
          have HB4 : Hid (Below w.heap.size w w4) := HT3.out.trans (hg.below HT3.out.size fun k e0 => (HRO3.out.lt k e0).1)
          clear hro hg HRO3 HRX HS3 HKX HVX
          go_wp2_with fail
          go_roundw
          · exact ⟨i + 1, k, out ++ [x], by first | rfl | go_num, by first | rfl | go_num, by omega, by omega, HSX.out, HRO4.out, HB4.out⟩
          · simp only [intOf]; omega
        · by_cases hc0 : c = 0
          · subst hc0
            have HE := Lib.hid (HC1.out.keep HX.out HZ1.out)
            have HKX := Lib.hid (HK1.out.below HX.out)
            have HVX := Lib.hid (HV1.out.below HX.out)
            have HRX := Lib.hid (HRO.out.below HX.out)
            have HWX : Hid (Below w.heap.size w x1) := HBw.out.trans (HX.out.mono HBw.out.size)
            have HSX := Lib.hid (HS.out.step (e := x) (by rw [← HXA.out]; exact two_eq HIA.out HKB.out (by rw [HXA.out, HYB.out, HCC.out])) (i' := i + 1) (k' := k + 1) (by omega))
            clear HRO HS HX
            obtain ⟨q0, q1, q2, q3⟩ := HE.out
            go_wp2_with (with_reducible refine pause_append ?_)
            refine list_gen fun w3 hw3 => ?_
            have HB3 : Hid (Below x1.heap.size x1 w3) := by rw [hw3]; exact (Below.refl _ _).alloc (Nat.le_refl _) _
            have HS3 : Hid (Blk w3 x1.heap.size (entCells x (.slice k1a x.key.length k1c) (.slice v1a x.value.length v1c)).toArray 29) := by rw [hw3]; exact Blk.at_new rfl rfl
            clear hw3 q0 q1 q2 q3 HE
            have HT3 : Hid (Below w.heap.size w w3) := HWX.out.trans (HB3.out.mono HWX.out.size)
            have HRO3 := Lib.hid (HRX.out.below HB3.out)
            rw [← HQ.out]
            rw [← HQ.out] at HRO3
            refine Pause.go (wpList_append_elF (K := entK) 31 29 _ 64 Try.underlying31 info_entO rfl (fun k => F k ∧ k < w.heap.size) w.heap.size (.slice oo out.length oc) out x1.heap.size 29 _ x rfl _ _ rfl rfl rfl HRO3.out HS3.out
              ⟨_, _, rfl, (HKX.out.below HB3.out).mono fun j _ hj => ⟨hj, fun e1 => by have := (HRO3.out.lt j e1).1; omega⟩, (HVX.out.below HB3.out).mono fun j _ hj => ⟨hj, fun e1 => by have := (HRO3.out.lt j e1).1; omega⟩⟩ HLen.out (by decide) HT3.out.size ?_)
            intro v4 w4 hro hg
            have HRO4 := Lib.hid hro
            have HB4 : Hid (Below w.heap.size w w4) := HT3.out.trans (hg.below HT3.out.size fun k e0 => (HRO3.out.lt k e0).1)
            clear hro hg HRO3 HRX HS3 HKX HVX
            go_wp2_with fail
            go_roundw
            · exact ⟨i + 1, k + 1, out ++ [x], by first | rfl | go_num, by first | rfl | go_num, by omega, by omega, HSX.out, HRO4.out, HB4.out⟩
            · simp only [intOf]; omega
          · have t5 : ¬ c ≤ 0 := by omega
            have t6 : 0 ≤ c := by omega
            have HE := Lib.hid (HC2.out.keep HX.out HZ2.out)
            have HKX := Lib.hid (HK2.out.below HX.out)
            have HVX := Lib.hid (HV2.out.below HX.out)
            have HRX := Lib.hid (HRO.out.below HX.out)
            have HWX : Hid (Below w.heap.size w x1) := HBw.out.trans (HX.out.mono HBw.out.size)
            have HSX := Lib.hid (HS.out.step (e := y) (by rw [← HYB.out]; exact two_gt HIA.out HKB.out (by rw [HXA.out, HYB.out, HCC.out]; omega)) (i' := i) (k' := k + 1) (by omega))
            clear HRO HS HX
            obtain ⟨q0, q1, q2, q3⟩ := HE.out
            go_wp2_with (with_reducible refine pause_append ?_)
            refine list_gen fun w3 hw3 => ?_
            have HB3 : Hid (Below x1.heap.size x1 w3) := by rw [hw3]; exact (Below.refl _ _).alloc (Nat.le_refl _) _
            have HS3 : Hid (Blk w3 x1.heap.size (entCells y (.slice k2a y.key.length k2c) (.slice v2a y.value.length v2c)).toArray 29) := by rw [hw3]; exact Blk.at_new rfl rfl
            clear hw3 q0 q1 q2 q3 HE
            have HT3 : Hid (Below w.heap.size w w3) := HWX.out.trans (HB3.out.mono HWX.out.size)
            have HRO3 := Lib.hid (HRX.out.below HB3.out)
            rw [← HQ.out]
            rw [← HQ.out] at HRO3
            refine Pause.go (wpList_append_elF (K := entK) 31 29 _ 64 Try.underlying31 info_entO rfl (fun k => F k ∧ k < w.heap.size) w.heap.size (.slice oo out.length oc) out x1.heap.size 29 _ y rfl _ _ rfl rfl rfl HRO3.out HS3.out
              ⟨_, _, rfl, (HKX.out.below HB3.out).mono fun j _ hj => ⟨hj, fun e1 => by have := (HRO3.out.lt j e1).1; omega⟩, (HVX.out.below HB3.out).mono fun j _ hj => ⟨hj, fun e1 => by have := (HRO3.out.lt j e1).1; omega⟩⟩ HLen.out (by decide) HT3.out.size ?_)
            intro v4 w4 hro hg
            have HRO4 := Lib.hid hro
            have HB4 : Hid (Below w.heap.size w w4) := HT3.out.trans (hg.below HT3.out.size fun k e0 => (HRO3.out.lt k e0).1)
            clear hro hg HRO3 HRX HS3 HKX HVX
            go_wp2_with fail
            go_roundw
            · exact ⟨i, k + 1, out ++ [y], by first | rfl | go_num, by first | rfl | go_num, by omega, by omega, HSX.out, HRO4.out, HB4.out⟩
            · simp only [intOf]; omega
      · have t2 : ¬ (k : Int) < (p : Int) := by omega
        have e2 : ((k : Int) == (p : Int)) = true := beq_iff_eq.2 (by omega)
        have HX : Hid (Below wr.heap.size wr wr) := Below.refl _ _
        have HKP : Hid (k = b.length) := by show _ = _; rw [HP.out]; omega
        have HIA := Lib.hid hia
        clear hia
        have HE := Lib.hid (HC1.out.keep HX.out HZ1.out)
        have HKX := Lib.hid (HK1.out.below HX.out)
        have HVX := Lib.hid (HV1.out.below HX.out)
        have HRX := Lib.hid (HRO.out.below HX.out)
        have HWX : Hid (Below w.heap.size w wr) := HBw.out.trans (HX.out.mono HBw.out.size)
        have HSX := Lib.hid (HS.out.step (by rw [HKP.out]; exact two_a HIA.out) (i' := i + 1) (k' := k) (by omega))
        clear HRO HS HX
        generalize eat a i = e at HE HKX HVX HSX
        obtain ⟨q0, q1, q2, q3⟩ := HE.out
        go_wp2_with (with_reducible refine pause_append ?_)
        refine list_gen fun w3 hw3 => ?_
        have HB3 : Hid (Below wr.heap.size wr w3) := by rw [hw3]; exact (Below.refl _ _).alloc (Nat.le_refl _) _
        have HS3 : Hid (Blk w3 wr.heap.size (entCells e (.slice k1a e.key.length k1c) (.slice v1a e.value.length v1c)).toArray 29) := by rw [hw3]; exact Blk.at_new rfl rfl
        clear hw3 q0 q1 q2 q3 HE
        have HT3 : Hid (Below w.heap.size w w3) := HWX.out.trans (HB3.out.mono HWX.out.size)
        have HRO3 := Lib.hid (HRX.out.below HB3.out)
        rw [← HQ.out]
        rw [← HQ.out] at HRO3
        refine Pause.go (wpList_append_elF (K := entK) 31 29 _ 64 Try.underlying31 info_entO rfl (fun k => F k ∧ k < w.heap.size) w.heap.size (.slice oo out.length oc) out wr.heap.size 29 _ e rfl _ _ rfl rfl rfl HRO3.out HS3.out
          ⟨_, _, rfl, (HKX.out.below HB3.out).mono fun j _ hj => ⟨hj, fun e1 => by have := (HRO3.out.lt j e1).1; omega⟩, (HVX.out.below HB3.out).mono fun j _ hj => ⟨hj, fun e1 => by have := (HRO3.out.lt j e1).1; omega⟩⟩ HLen.out (by decide) HT3.out.size ?_)
        intro v4 w4 hro hg
        have HRO4 := Lib.hid hro
        have HB4 : Hid (Below w.heap.size w w4) := HT3.out.trans (hg.below HT3.out.size fun k e0 => (HRO3.out.lt k e0).1)
        clear hro hg HRO3 HRX HS3 HKX HVX
        go_wp2_with fail
        go_roundw
        · exact ⟨i + 1, k, out ++ [e], by first | rfl | go_num, by first | rfl | go_num, by omega, by omega, HSX.out, HRO4.out, HB4.out⟩
        · simp only [intOf]; omega
    · have t1 : ¬ (i : Int) < (n : Int) := by omega
      have e1 : ((i : Int) == (n : Int)) = true := beq_iff_eq.2 (by omega)
      by_cases hlt2 : k < p
      · have t2 : (k : Int) < (p : Int) := by omega
        have HX : Hid (Below wr.heap.size wr wr) := Below.refl _ _
        have HIN : Hid (i = a.length) := by show _ = _; rw [HN.out]; omega
        have hkb : k < b.length := by rw [HP.out]; exact hlt2
        obtain ⟨bb, ob, capb, eb, _, hbb, hcb⟩ := ents_at (HB.out.below HBw.out) (by omega)
        injection eb with e4 e5 e6
        subst e4 e6
        clear e5
        obtain ⟨k2, v2, hk2, hv2, hc2⟩ := hcb k hkb
        rw [eat_eq hkb] at hk2 hv2 hc2
        obtain ⟨k2a, k2c, rfl⟩ := hk2.isSlice
        obtain ⟨v2a, v2c, rfl⟩ := hv2.isSlice
        have HK2 := Lib.hid hk2
        have HV2 := Lib.hid hv2
        have HC2 : Hid (C4o bb (ob + k * 4) (eat b k) (.slice k2a (eat b k).key.length k2c) (.slice v2a (eat b k).value.length v2c) wr) := hc2
        have HZ2 : Hid (bb < wr.heap.size) := hbb
        clear hcb hk2 hv2 hc2 hbb
        have HKB := Lib.hid hkb
        clear hkb
        have HE := Lib.hid (HC2.out.keep HX.out HZ2.out)
        have HKX := Lib.hid (HK2.out.below HX.out)
        have HVX := Lib.hid (HV2.out.below HX.out)
        have HRX := Lib.hid (HRO.out.below HX.out)
        have HWX : Hid (Below w.heap.size w wr) := HBw.out.trans (HX.out.mono HBw.out.size)
        have HSX := Lib.hid (HS.out.step (by rw [HIN.out]; exact two_b HKB.out) (i' := i) (k' := k + 1) (by omega))
        clear HRO HS HX
        generalize eat b k = e at HE HKX HVX HSX
        obtain ⟨q0, q1, q2, q3⟩ := HE.out
        go_wp2_with (with_reducible refine pause_append ?_)
        refine list_gen fun w3 hw3 => ?_
        have HB3 : Hid (Below wr.heap.size wr w3) := by rw [hw3]; exact (Below.refl _ _).alloc (Nat.le_refl _) _
        have HS3 : Hid (Blk w3 wr.heap.size (entCells e (.slice k2a e.key.length k2c) (.slice v2a e.value.length v2c)).toArray 29) := by rw [hw3]; exact Blk.at_new rfl rfl
        clear hw3 q0 q1 q2 q3 HE
        have HT3 : Hid (Below w.heap.size w w3) := HWX.out.trans (HB3.out.mono HWX.out.size)
        have HRO3 := Lib.hid (HRX.out.below HB3.out)
        rw [← HQ.out]
        rw [← HQ.out] at HRO3
        refine Pause.go (wpList_append_elF (K := entK) 31 29 _ 64 Try.underlying31 info_entO rfl (fun k => F k ∧ k < w.heap.size) w.heap.size (.slice oo out.length oc) out wr.heap.size 29 _ e rfl _ _ rfl rfl rfl HRO3.out HS3.out
          ⟨_, _, rfl, (HKX.out.below HB3.out).mono fun j _ hj => ⟨hj, fun e1 => by have := (HRO3.out.lt j e1).1; omega⟩, (HVX.out.below HB3.out).mono fun j _ hj => ⟨hj, fun e1 => by have := (HRO3.out.lt j e1).1; omega⟩⟩ HLen.out (by decide) HT3.out.size ?_)
        intro v4 w4 hro hg
        have HRO4 := Lib.hid hro
        have HB4 : Hid (Below w.heap.size w w4) := HT3.out.trans (hg.below HT3.out.size fun k e0 => (HRO3.out.lt k e0).1)
        clear hro hg HRO3 HRX HS3 HKX HVX
        go_wp2_with fail
        go_roundw
        · exact ⟨i, k + 1, out ++ [e], by first | rfl | go_num, by first | rfl | go_num, by omega, by omega, HSX.out, HRO4.out, HB4.out⟩
        · simp only [intOf]; omega
      · have t2 : ¬ (k : Int) < (p : Int) := by omega
        have HD : Hid (out = two a b) := by
          have h5 := HS.out
          rw [show i = a.length by rw [HN.out]; omega, show k = b.length by rw [HP.out]; omega] at h5
          exact h5.done
        have HF : Hid (Rw entK (fun k => F k ∨ w.heap.size ≤ k) wr (.slice oo q oc) (two a b)) := by
          rw [← HD.out]
          exact HRO.out.rows.mono fun k _ hk => by
            rcases hk with hk | hk
            · exact .inr (HRO.out.lt k hk).1
            · exact .inl hk.1.1
        clear HD HRO
        go_wp2_with fail
        go_ret
        exact ⟨_, rfl, HF.out, HBw.out⟩
end Go.Proofs.Ytmpapipobjoboaa
