/- Merge: the document's answer: two rows as one. Merge: the document's answer: All. Merge: rows' heads tell what the document answers. Merge: New. Merge: Peek, Next of a merger that tells nothing more, or that is not there. Merge: All. -/
import Derived.Test.YtmpapipobjoboaaMgV
namespace Go.Proofs.Ytmpapipobjoboaa
open Go.RowKit

/-- Two rows as one, the first one's entries counting. -/
def two : List Ent → List Ent → List Ent
  | [], b => b
  | x :: a, [] => x :: a
  | x :: a, y :: b => if Ent.cmp x y < 0 then x :: two a (y :: b) else if Ent.cmp x y = 0 then x :: two a b else y :: two (x :: a) b
termination_by a b => a.length + b.length

theorem eat_drop {l : List Ent} {j : Nat} (h : j < l.length) : l.drop j = eat l j :: l.drop (j + 1) := drop_at _ l j h
theorem two_lt {a b : List Ent} {i k : Nat} (hi : i < a.length) (hk : k < b.length) (h : Ent.cmp (eat a i) (eat b k) < 0) : two (a.drop i) (b.drop k) = eat a i :: two (a.drop (i + 1)) (b.drop k) := by
  rw [eat_drop hi, eat_drop hk, two, if_pos h]
theorem two_eq {a b : List Ent} {i k : Nat} (hi : i < a.length) (hk : k < b.length) (h : Ent.cmp (eat a i) (eat b k) = 0) : two (a.drop i) (b.drop k) = eat a i :: two (a.drop (i + 1)) (b.drop (k + 1)) := by
  rw [eat_drop hi, eat_drop hk, two, if_neg (by omega), if_pos h]
theorem two_gt {a b : List Ent} {i k : Nat} (hi : i < a.length) (hk : k < b.length) (h : 0 < Ent.cmp (eat a i) (eat b k)) : two (a.drop i) (b.drop k) = eat b k :: two (a.drop i) (b.drop (k + 1)) := by
  rw [eat_drop hi, eat_drop hk, two, if_neg (by omega), if_neg (by omega)]
theorem two_a {a b : List Ent} {i : Nat} (hi : i < a.length) : two (a.drop i) (b.drop b.length) = eat a i :: two (a.drop (i + 1)) (b.drop b.length) := by
  rw [List.drop_length, eat_drop hi, two]
  cases a.drop (i + 1) <;> simp [two]
theorem two_b {a b : List Ent} {k : Nat} (hk : k < b.length) : two (a.drop a.length) (b.drop k) = eat b k :: two (a.drop a.length) (b.drop (k + 1)) := by
  rw [List.drop_length, eat_drop hk]
  simp [two]
theorem two_end (a b : List Ent) : two (a.drop a.length) (b.drop b.length) = [] := by simp [two]

/-- What has been told so far. -/
def Sofar (a b : List Ent) (i k : Nat) (out : List Ent) : Prop := out ++ two (a.drop i) (b.drop k) = two a b ∧ out.length ≤ i + k
theorem Sofar.step {a b : List Ent} {i k i' k' : Nat} {out : List Ent} {e : Ent} (h : Sofar a b i k out) (hs : two (a.drop i) (b.drop k) = e :: two (a.drop i') (b.drop k')) (hn : i + k + 1 ≤ i' + k') : Sofar a b i' k' (out ++ [e]) := by
  obtain ⟨h1, h2⟩ := h
  refine ⟨?_, by rw [List.length_append, List.length_singleton]; omega⟩
  rw [hs] at h1
  rw [List.append_assoc]
  exact h1
theorem two_nil (b : List Ent) : two [] b = b := by simp [two]
theorem Sofar.start (a b : List Ent) : Sofar a b 0 0 [] := ⟨by simp, Nat.le_refl _⟩
theorem Sofar.done {a b : List Ent} {out : List Ent} (h : Sofar a b a.length b.length out) : out = two a b := by
  obtain ⟨h1, _⟩ := h
  rwa [two_end, List.append_nil] at h1

set_option maxRecDepth 100000 in
set_option maxHeartbeats 4000000 in
theorem two_any (F : Nat → Prop) (va vb : Value) (a b : List Ent) (w : World) (hA : Rw entK F w va a) (hB : Rw entK F w vb b) (ha : a.length ≤ 400000) (hb : b.length ≤ 400000) :
    Calls Try.prog 58 #[va, vb] w fun x w' => ∃ v', x = .returned v' ∧ Rw entK (fun k => F k ∨ w.heap.size ≤ k) w' v' (two a b) ∧ Below w.heap.size w w' := by
  obtain ⟨aa, ac, rfl⟩ := hA.isSlice
  obtain ⟨ab, bc, rfl⟩ := hB.isSlice
  have HA : Hid (Rw entK (fun k => F k ∧ k < w.heap.size) w (.slice aa a.length ac) a) := hA.mono fun k hk h => ⟨h, hk⟩
  have HB : Hid (Rw entK (fun k => F k ∧ k < w.heap.size) w (.slice ab b.length bc) b) := hB.mono fun k hk h => ⟨h, hk⟩
  clear hA hB
  obtain ⟨n, hn⟩ : ∃ n, a.length = n := ⟨_, rfl⟩
  obtain ⟨p, hp⟩ : ∃ p, b.length = p := ⟨_, rfl⟩
  have HN := Lib.hid hn
  have HP := Lib.hid hp
  rw [hn] at HA ha
  rw [hp] at HB hb
  rw [hn, hp]
  clear hn hp
  go_enter Try.func58, Try.ntmps58
  go_wp2_with fail
  go_loopw [5, 6, 7] (fun ov iv kv wr => ∃ (i k : Nat) (out : List Ent), iv = .int .i64 (i : Int) ∧ kv = .int .i64 (k : Int) ∧ i ≤ n ∧ k ≤ p ∧ Hid (Sofar a b i k out) ∧ Hid (ROwnF entK (fun k => F k ∧ k < w.heap.size) w.heap.size 29 wr ov out) ∧ Hid (Below w.heap.size w wr)) (fun _ iv kv _ => n + p - ((intOf iv).toNat + (intOf kv).toNat))
  case atStart => exact ⟨0, 0, [], rfl, rfl, by omega, by omega, Sofar.start a b, ROwnF.nil _ _ _ _ _, Below.refl _ _⟩
  case round =>
    obtain ⟨i, k, out, rfl, rfl, hi, hk, HS, HRO, HBw⟩ := hrel
    have HLen : Hid (out.length < 1000000) := by have := HS.out.2; show _ < _; omega
    obtain ⟨oo, oc, rfl⟩ := HRO.out.isSlice
    obtain ⟨q, hq⟩ : ∃ q, out.length = q := ⟨_, rfl⟩
    have HQ := Lib.hid hq
    rw [hq] at HRO
    rw [hq]
    clear hq
    have t3 : 0 ≤ (i : Int) := by omega
    have t4 : 0 ≤ (k : Int) := by omega
    by_cases hlt1 : i < n
    · have t1 : (i : Int) < (n : Int) := by omega
      have e1 : ((i : Int) == (n : Int)) = false := beq_eq_false_iff_ne.2 (by omega)
      have hia : i < a.length := by rw [HN.out]; exact hlt1
      obtain ⟨ba, oa, capa, ea, _, hba, hca⟩ := ents_at (HA.out.below HBw.out) (by omega)
      injection ea with e1 e2 e3
      subst e1 e3
      clear e2
      obtain ⟨k1, v1, hk1, hv1, hc1⟩ := hca i hia
      rw [eat_eq hia] at hk1 hv1 hc1
      obtain ⟨k1a, k1c, rfl⟩ := hk1.isSlice
      obtain ⟨v1a, v1c, rfl⟩ := hv1.isSlice
      have HK1 := Lib.hid hk1
      have HV1 := Lib.hid hv1
      have HC1 : Hid (C4o ba (oa + i * 4) (eat a i) (.slice k1a (eat a i).key.length k1c) (.slice v1a (eat a i).value.length v1c) wr) := hc1
      have HZ1 : Hid (ba < wr.heap.size) := hba
      clear hca hk1 hv1 hc1 hba
      by_cases hlt2 : k < p
      · have t2 : (k : Int) < (p : Int) := by omega
        have e2 : ((k : Int) == (p : Int)) = false := beq_eq_false_iff_ne.2 (by omega)
        have hkb : k < b.length := by rw [HP.out]; exact hlt2
        obtain ⟨bb, ob, capb, eb, _, hbb, hcb⟩ := ents_at (HB.out.below HBw.out) (by omega)
        injection eb with e4 e5 e6
        subst e4 e6
        clear e5
        obtain ⟨k2, v2, hk2, hv2, hc2⟩ := hcb k hkb
        rw [eat_eq hkb] at hk2 hv2 hc2
        obtain ⟨k2a, k2c, rfl⟩ := hk2.isSlice
        obtain ⟨v2a, v2c, rfl⟩ := hv2.isSlice
        have HK2 := Lib.hid hk2
        have HV2 := Lib.hid hv2
        have HC2 : Hid (C4o bb (ob + k * 4) (eat b k) (.slice k2a (eat b k).key.length k2c) (.slice v2a (eat b k).value.length v2c) wr) := hc2
        have HZ2 : Hid (bb < wr.heap.size) := hbb
        clear hcb hk2 hv2 hc2 hbb
        obtain ⟨c, hcc⟩ : ∃ c, Ent.cmp (eat a i) (eat b k) = c := ⟨_, rfl⟩
        have HCC := Lib.hid hcc
        have HC := Lib.hid hcc
        have HIA := Lib.hid hia
        have HKB := Lib.hid hkb
        have HKD1 := Lib.hid (HK1.out.below (below_drew (Below.refl _ _)))
        have HKD2 := Lib.hid (HK2.out.below (below_drew (Below.refl _ _)))
        have HD1 : Hid (C4o ba (oa + i * 4) (eat a i) (.slice k1a (eat a i).key.length k1c) (.slice v1a (eat a i).value.length v1c) wr.drew) := HC1
        have HD2 : Hid (C4o bb (ob + k * 4) (eat b k) (.slice k2a (eat b k).key.length k2c) (.slice v2a (eat b k).value.length v2c) wr.drew) := HC2
        clear hcc hia hkb hlt1 hlt2
        generalize hxa : eat a i = x at *
        generalize hyb : eat b k = y at *
        have HXA := Lib.hid hxa
        have HYB := Lib.hid hyb
        clear hxa hyb
        go_wp2_with fail
        go_region_held3 (fun w' => (w'.cell? ⟨ba, oa + i * 4, none⟩ = some (.slice k1a x.key.length k1c) ∧ w'.cell? ⟨ba, oa + i * 4 + 1, none⟩ = some (.int .u64 x.seq) ∧ w'.cell? ⟨ba, oa + i * 4 + 2, none⟩ = some (.int .i64 x.kind) ∧ w'.cell? ⟨ba, oa + i * 4 + 3, none⟩ = some (.slice v1a x.value.length v1c)) ∧ (w'.cell? ⟨bb, ob + k * 4, none⟩ = some (.slice k2a y.key.length k2c) ∧ w'.cell? ⟨bb, ob + k * 4 + 1, none⟩ = some (.int .u64 y.seq) ∧ w'.cell? ⟨bb, ob + k * 4 + 2, none⟩ = some (.int .i64 y.kind) ∧ w'.cell? ⟨bb, ob + k * 4 + 3, none⟩ = some (.slice v2a y.value.length v2c)))
          (first | exact ⟨HD1.out, HD2.out⟩ | exact ⟨HD1.out.keep hbx1 HZ1.out, HD2.out.keep hbx1 HZ2.out⟩)
          (first | (go_at_call 62; refine Calls.mono (rcompare_at _ _ x y c HC.out (.slice k1a x.key.length k1c) (.slice v1a x.value.length v1c) (.slice k2a y.key.length k2c) (.slice v2a y.value.length v2c) _ HKD1.out HKD2.out) ?_; rintro _ x1 ⟨rfl, hbx1⟩; skip))
        have HX : Hid (Below wr.heap.size wr x1) := below_of_drew hbx1
        clear hbx1 HD1 HD2 HKD1 HKD2 HC
        by_cases hc : c < 0
        · have t5 : c ≤ 0 := by omega
          have t6 : ¬ 0 ≤ c := by omega
          have HE := Lib.hid (HC1.out.keep HX.out HZ1.out)
          have HKX := Lib.hid (HK1.out.below HX.out)
          have HVX := Lib.hid (HV1.out.below HX.out)
          have HRX := Lib.hid (HRO.out.below HX.out)
          have HWX : Hid (Below w.heap.size w x1) := HBw.out.trans (HX.out.mono HBw.out.size)
          have HSX := Lib.hid (HS.out.step (e := x) (by rw [← HXA.out]; exact two_lt HIA.out HKB.out (by rw [HXA.out, HYB.out, HCC.out]; exact hc)) (i' := i + 1) (k' := k) (by omega))
          clear HRO HS HX
          obtain ⟨q0, q1, q2, q3⟩ := HE.out
          go_wp2_with (with_reducible refine pause_append ?_)
          refine list_gen fun w3 hw3 => ?_
          have HB3 : Hid (Below x1.heap.size x1 w3) := by rw [hw3]; exact (Below.refl _ _).alloc (Nat.le_refl _) _
          have HS3 : Hid (Blk w3 x1.heap.size (entCells x (.slice k1a x.key.length k1c) (.slice v1a x.value.length v1c)).toArray 29) := by rw [hw3]; exact Blk.at_new rfl rfl
          clear hw3 q0 q1 q2 q3 HE
          have HT3 : Hid (Below w.heap.size w w3) := HWX.out.trans (HB3.out.mono HWX.out.size)
          have HRO3 := Lib.hid (HRX.out.below HB3.out)
          rw [← HQ.out]
          rw [← HQ.out] at HRO3
          refine Pause.go (wpList_append_elF (K := entK) 31 29 _ 64 Try.underlying31 info_entO rfl (fun k => F k ∧ k < w.heap.size) w.heap.size (.slice oo out.length oc) out x1.heap.size 29 _ x rfl _ _ rfl rfl rfl HRO3.out HS3.out
            ⟨_, _, rfl, (HKX.out.below HB3.out).mono fun j _ hj => ⟨hj, fun e1 => by have := (HRO3.out.lt j e1).1; omega⟩, (HVX.out.below HB3.out).mono fun j _ hj => ⟨hj, fun e1 => by have := (HRO3.out.lt j e1).1; omega⟩⟩ HLen.out (by decide) HT3.out.size ?_)
          intro v4 w4 hro hg
          have HRO4 := Lib.hid hro
          have HB4 : Hid (Below w.heap.size w w4) := HT3.out.trans (hg.below HT3.out.size fun k e0 => (HRO3.out.lt k e0).1)
          clear hro hg HRO3 HRX HS3 HKX HVX
          go_wp2_with fail
          go_roundw
          · exact ⟨i + 1, k, out ++ [x], by first | rfl | go_num, by first | rfl | go_num, by omega, by omega, HSX.out, HRO4.out, HB4.out⟩
          · simp only [intOf]; omega
        · by_cases hc0 : c = 0
          · subst hc0
            have HE := Lib.hid (HC1.out.keep HX.out HZ1.out)
            have HKX := Lib.hid (HK1.out.below HX.out)
            have HVX := Lib.hid (HV1.out.below HX.out)
            have HRX := Lib.hid (HRO.out.below HX.out)
            have HWX : Hid (Below w.heap.size w x1) := HBw.out.trans (HX.out.mono HBw.out.size)
            have HSX := Lib.hid (HS.out.step (e := x) (by rw [← HXA.out]; exact two_eq HIA.out HKB.out (by rw [HXA.out, HYB.out, HCC.out])) (i' := i + 1) (k' := k + 1) (by omega))
            clear HRO HS HX
            obtain ⟨q0, q1, q2, q3⟩ := HE.out
            go_wp2_with (with_reducible refine pause_append ?_)
            refine list_gen fun w3 hw3 => ?_
            have HB3 : Hid (Below x1.heap.size x1 w3) := by rw [hw3]; exact (Below.refl _ _).alloc (Nat.le_refl _) _
            have HS3 : Hid (Blk w3 x1.heap.size (entCells x (.slice k1a x.key.length k1c) (.slice v1a x.value.length v1c)).toArray 29) := by rw [hw3]; exact Blk.at_new rfl rfl
            clear hw3 q0 q1 q2 q3 HE
            have HT3 : Hid (Below w.heap.size w w3) := HWX.out.trans (HB3.out.mono HWX.out.size)
            have HRO3 := Lib.hid (HRX.out.below HB3.out)
            rw [← HQ.out]
            rw [← HQ.out] at HRO3
            refine Pause.go (wpList_append_elF (K := entK) 31 29 _ 64 Try.underlying31 info_entO rfl (fun k => F k ∧ k < w.heap.size) w.heap.size (.slice oo out.length oc) out x1.heap.size 29 _ x rfl _ _ rfl rfl rfl HRO3.out HS3.out
              ⟨_, _, rfl, (HKX.out.below HB3.out).mono fun j _ hj => ⟨hj, fun e1 => by have := (HRO3.out.lt j e1).1; omega⟩, (HVX.out.below HB3.out).mono fun j _ hj => ⟨hj, fun e1 => by have := (HRO3.out.lt j e1).1; omega⟩⟩ HLen.out (by decide) HT3.out.size ?_)
            intro v4 w4 hro hg
            have HRO4 := Lib.hid hro
            have HB4 : Hid (Below w.heap.size w w4) := HT3.out.trans (hg.below HT3.out.size fun k e0 => (HRO3.out.lt k e0).1)
            clear hro hg HRO3 HRX HS3 HKX HVX
            go_wp2_with fail
            go_roundw
            · exact ⟨i + 1, k + 1, out ++ [x], by first | rfl | go_num, by first | rfl | go_num, by omega, by omega, HSX.out, HRO4.out, HB4.out⟩
            · simp only [intOf]; omega
          · have t5 : ¬ c ≤ 0 := by omega
            have t6 : 0 ≤ c := by omega
            have HE := Lib.hid (HC2.out.keep HX.out HZ2.out)
            have HKX := Lib.hid (HK2.out.below HX.out)
            have HVX := Lib.hid (HV2.out.below HX.out)
            have HRX := Lib.hid (HRO.out.below HX.out)
            have HWX : Hid (Below w.heap.size w x1) := HBw.out.trans (HX.out.mono HBw.out.size)
            have HSX := Lib.hid (HS.out.step (e := y) (by rw [← HYB.out]; exact two_gt HIA.out HKB.out (by rw [HXA.out, HYB.out, HCC.out]; omega)) (i' := i) (k' := k + 1) (by omega))
            clear HRO HS HX
            obtain ⟨q0, q1, q2, q3⟩ := HE.out
            go_wp2_with (with_reducible refine pause_append ?_)
            refine list_gen fun w3 hw3 => ?_
            have HB3 : Hid (Below x1.heap.size x1 w3) := by rw [hw3]; exact (Below.refl _ _).alloc (Nat.le_refl _) _
            have HS3 : Hid (Blk w3 x1.heap.size (entCells y (.slice k2a y.key.length k2c) (.slice v2a y.value.length v2c)).toArray 29) := by rw [hw3]; exact Blk.at_new rfl rfl
            clear hw3 q0 q1 q2 q3 HE
            have HT3 : Hid (Below w.heap.size w w3) := HWX.out.trans (HB3.out.mono HWX.out.size)
            have HRO3 := Lib.hid (HRX.out.below HB3.out)
            rw [← HQ.out]
            rw [← HQ.out] at HRO3
            refine Pause.go (wpList_append_elF (K := entK) 31 29 _ 64 Try.underlying31 info_entO rfl (fun k => F k ∧ k < w.heap.size) w.heap.size (.slice oo out.length oc) out x1.heap.size 29 _ y rfl _ _ rfl rfl rfl HRO3.out HS3.out
              ⟨_, _, rfl, (HKX.out.below HB3.out).mono fun j _ hj => ⟨hj, fun e1 => by have := (HRO3.out.lt j e1).1; omega⟩, (HVX.out.below HB3.out).mono fun j _ hj => ⟨hj, fun e1 => by have := (HRO3.out.lt j e1).1; omega⟩⟩ HLen.out (by decide) HT3.out.size ?_)
            intro v4 w4 hro hg
            have HRO4 := Lib.hid hro
            have HB4 : Hid (Below w.heap.size w w4) := HT3.out.trans (hg.below HT3.out.size fun k e0 => (HRO3.out.lt k e0).1)
            clear hro hg HRO3 HRX HS3 HKX HVX
            go_wp2_with fail
            go_roundw
            · exact ⟨i, k + 1, out ++ [y], by first | rfl | go_num, by first | rfl | go_num, by omega, by omega, HSX.out, HRO4.out, HB4.out⟩
            · simp only [intOf]; omega
      · have t2 : ¬ (k : Int) < (p : Int) := by omega
        have e2 : ((k : Int) == (p : Int)) = true := beq_iff_eq.2 (by omega)
        have HX : Hid (Below wr.heap.size wr wr) := Below.refl _ _
        have HKP : Hid (k = b.length) := by show _ = _; rw [HP.out]; omega
        have HIA := Lib.hid hia
        clear hia
        have HE := Lib.hid (HC1.out.keep HX.out HZ1.out)
        have HKX := Lib.hid (HK1.out.below HX.out)
        have HVX := Lib.hid (HV1.out.below HX.out)
        have HRX := Lib.hid (HRO.out.below HX.out)
        have HWX : Hid (Below w.heap.size w wr) := HBw.out.trans (HX.out.mono HBw.out.size)
        have HSX := Lib.hid (HS.out.step (by rw [HKP.out]; exact two_a HIA.out) (i' := i + 1) (k' := k) (by omega))
        clear HRO HS HX
        generalize eat a i = e at HE HKX HVX HSX
        obtain ⟨q0, q1, q2, q3⟩ := HE.out
        go_wp2_with (with_reducible refine pause_append ?_)
        refine list_gen fun w3 hw3 => ?_
        have HB3 : Hid (Below wr.heap.size wr w3) := by rw [hw3]; exact (Below.refl _ _).alloc (Nat.le_refl _) _
        have HS3 : Hid (Blk w3 wr.heap.size (entCells e (.slice k1a e.key.length k1c) (.slice v1a e.value.length v1c)).toArray 29) := by rw [hw3]; exact Blk.at_new rfl rfl
        clear hw3 q0 q1 q2 q3 HE
        have HT3 : Hid (Below w.heap.size w w3) := HWX.out.trans (HB3.out.mono HWX.out.size)
        have HRO3 := Lib.hid (HRX.out.below HB3.out)
        rw [← HQ.out]
        rw [← HQ.out] at HRO3
        refine Pause.go (wpList_append_elF (K := entK) 31 29 _ 64 Try.underlying31 info_entO rfl (fun k => F k ∧ k < w.heap.size) w.heap.size (.slice oo out.length oc) out wr.heap.size 29 _ e rfl _ _ rfl rfl rfl HRO3.out HS3.out
          ⟨_, _, rfl, (HKX.out.below HB3.out).mono fun j _ hj => ⟨hj, fun e1 => by have := (HRO3.out.lt j e1).1; omega⟩, (HVX.out.below HB3.out).mono fun j _ hj => ⟨hj, fun e1 => by have := (HRO3.out.lt j e1).1; omega⟩⟩ HLen.out (by decide) HT3.out.size ?_)
        intro v4 w4 hro hg
        have HRO4 := Lib.hid hro
        have HB4 : Hid (Below w.heap.size w w4) := HT3.out.trans (hg.below HT3.out.size fun k e0 => (HRO3.out.lt k e0).1)
        clear hro hg HRO3 HRX HS3 HKX HVX
        go_wp2_with fail
        go_roundw
        · exact ⟨i + 1, k, out ++ [e], by first | rfl | go_num, by first | rfl | go_num, by omega, by omega, HSX.out, HRO4.out, HB4.out⟩
        · simp only [intOf]; omega
    · have t1 : ¬ (i : Int) < (n : Int) := by omega
      have e1 : ((i : Int) == (n : Int)) = true := beq_iff_eq.2 (by omega)
      by_cases hlt2 : k < p
      · have t2 : (k : Int) < (p : Int) := by omega
        have HX : Hid (Below wr.heap.size wr wr) := Below.refl _ _
        have HIN : Hid (i = a.length) := by show _ = _; rw [HN.out]; omega
        have hkb : k < b.length := by rw [HP.out]; exact hlt2
        obtain ⟨bb, ob, capb, eb, _, hbb, hcb⟩ := ents_at (HB.out.below HBw.out) (by omega)
        injection eb with e4 e5 e6
        subst e4 e6
        clear e5
        obtain ⟨k2, v2, hk2, hv2, hc2⟩ := hcb k hkb
        rw [eat_eq hkb] at hk2 hv2 hc2
        obtain ⟨k2a, k2c, rfl⟩ := hk2.isSlice
        obtain ⟨v2a, v2c, rfl⟩ := hv2.isSlice
        have HK2 := Lib.hid hk2
        have HV2 := Lib.hid hv2
        have HC2 : Hid (C4o bb (ob + k * 4) (eat b k) (.slice k2a (eat b k).key.length k2c) (.slice v2a (eat b k).value.length v2c) wr) := hc2
        have HZ2 : Hid (bb < wr.heap.size) := hbb
        clear hcb hk2 hv2 hc2 hbb
        have HKB := Lib.hid hkb
        clear hkb
        have HE := Lib.hid (HC2.out.keep HX.out HZ2.out)
        have HKX := Lib.hid (HK2.out.below HX.out)
        have HVX := Lib.hid (HV2.out.below HX.out)
        have HRX := Lib.hid (HRO.out.below HX.out)
        have HWX : Hid (Below w.heap.size w wr) := HBw.out.trans (HX.out.mono HBw.out.size)
        have HSX := Lib.hid (HS.out.step (by rw [HIN.out]; exact two_b HKB.out) (i' := i) (k' := k + 1) (by omega))
        clear HRO HS HX
        generalize eat b k = e at HE HKX HVX HSX
        obtain ⟨q0, q1, q2, q3⟩ := HE.out
        go_wp2_with (with_reducible refine pause_append ?_)
        refine list_gen fun w3 hw3 => ?_
        have HB3 : Hid (Below wr.heap.size wr w3) := by rw [hw3]; exact (Below.refl _ _).alloc (Nat.le_refl _) _
        have HS3 : Hid (Blk w3 wr.heap.size (entCells e (.slice k2a e.key.length k2c) (.slice v2a e.value.length v2c)).toArray 29) := by rw [hw3]; exact Blk.at_new rfl rfl
        clear hw3 q0 q1 q2 q3 HE
        have HT3 : Hid (Below w.heap.size w w3) := HWX.out.trans (HB3.out.mono HWX.out.size)
        have HRO3 := Lib.hid (HRX.out.below HB3.out)
        rw [← HQ.out]
        rw [← HQ.out] at HRO3
        refine Pause.go (wpList_append_elF (K := entK) 31 29 _ 64 Try.underlying31 info_entO rfl (fun k => F k ∧ k < w.heap.size) w.heap.size (.slice oo out.length oc) out wr.heap.size 29 _ e rfl _ _ rfl rfl rfl HRO3.out HS3.out
          ⟨_, _, rfl, (HKX.out.below HB3.out).mono fun j _ hj => ⟨hj, fun e1 => by have := (HRO3.out.lt j e1).1; omega⟩, (HVX.out.below HB3.out).mono fun j _ hj => ⟨hj, fun e1 => by have := (HRO3.out.lt j e1).1; omega⟩⟩ HLen.out (by decide) HT3.out.size ?_)
        intro v4 w4 hro hg
        have HRO4 := Lib.hid hro
        have HB4 : Hid (Below w.heap.size w w4) := HT3.out.trans (hg.below HT3.out.size fun k e0 => (HRO3.out.lt k e0).1)
        clear hro hg HRO3 HRX HS3 HKX HVX
        go_wp2_with fail
        go_roundw
        · exact ⟨i, k + 1, out ++ [e], by first | rfl | go_num, by first | rfl | go_num, by omega, by omega, HSX.out, HRO4.out, HB4.out⟩
        · simp only [intOf]; omega
      · have t2 : ¬ (k : Int) < (p : Int) := by omega
        have HD : Hid (out = two a b) := by
          have h5 := HS.out
          rw [show i = a.length by rw [HN.out]; omega, show k = b.length by rw [HP.out]; omega] at h5
          exact h5.done
        have HF : Hid (Rw entK (fun k => F k ∨ w.heap.size ≤ k) wr (.slice oo q oc) (two a b)) := by
          rw [← HD.out]
          exact HRO.out.rows.mono fun k _ hk => by
            rcases hk with hk | hk
            · exact .inr (HRO.out.lt k hk).1
            · exact .inl hk.1.1
        clear HD HRO
        go_wp2_with fail
        go_ret
        exact ⟨_, rfl, HF.out, HBw.out⟩
end Go.Proofs.Ytmpapipobjoboaa

namespace Go.Proofs.Ytmpapipobjoboaa
open Go.RowKit

theorem rows_at {F : Nat → Prop} {w : World} {v : Value} {rs : List (List Ent)} (h : Rw (rowK entK) F w v rs) (hne : 0 < rs.length) :
    ∃ b off cap, v = .slice (some ⟨b, off, none⟩) rs.length cap ∧ F b ∧ b < w.heap.size ∧ ∀ i (hi : i < rs.length), ∃ u, Rw entK F w u rs[i] ∧ w.cell? ⟨b, off + i, none⟩ = some u := by
  obtain ⟨b, off, cap, e, hF, hb, _, _, hc⟩ := h.place hne
  refine ⟨b, off, cap, e, hF, hb, fun i hi => ?_⟩
  obtain ⟨cs, ⟨u, rfl, hu⟩, hes⟩ := hc i hi
  have := hes 0 _ rfl
  rw [show (rowK entK).sz = 1 from rfl, Nat.mul_one, Nat.add_zero] at this
  exact ⟨u, hu, this⟩

/-- Rows that are not too many nor too long. -/
structure ROk (rs : List (List Ent)) : Prop where
  few : rs.length ≤ 100000
  sum : (rs.map List.length).sum ≤ 100000
  big : ∀ r ∈ rs, ∀ e ∈ r, e.key.length ≤ 140737488355328 ∧ e.value.length ≤ 140737488355328

theorem le_sum {l : List Nat} {x : Nat} (h : x ∈ l) : x ≤ l.sum := by
  induction l with
  | nil => cases h
  | cons y l ih =>
    rw [List.sum_cons]
    rcases List.mem_cons.1 h with rfl | h
    · omega
    · have := ih h; omega
theorem ROk.len {rs : List (List Ent)} (h : ROk rs) {r : List Ent} (hr : r ∈ rs) : r.length ≤ 100000 := Nat.le_trans (le_sum (List.mem_map_of_mem hr)) h.sum

open Classical in
/-- Are all rows rows? -/
noncomputable def chkR (rs : List (List Ent)) : Int := if ∀ r ∈ rs, rowB r = true then 0 else 2
theorem chkR_ok {rs : List (List Ent)} (h : ∀ r ∈ rs, rowB r = true) : chkR rs = 0 := by unfold chkR; rw [if_pos h]
theorem chkR_bad {rs : List (List Ent)} {r : List Ent} (hr : r ∈ rs) (h : rowB r = false) : chkR rs = 2 := by unfold chkR; rw [if_neg fun e => by rw [e r hr] at h; cases h]
theorem chkR_iff {rs : List (List Ent)} : chkR rs = 0 ↔ ∀ r ∈ rs, rowB r = true := by
  constructor
  · intro h
    unfold chkR at h
    split at h
    · assumption
    · cases h
  · exact chkR_ok
theorem chkR_or (rs : List (List Ent)) : chkR rs = 0 ∨ chkR rs = 2 := by unfold chkR; split <;> simp
def RowsTo (rs : List (List Ent)) (k : Nat) : Prop := ∀ i, i < k → rowB (rs.getD i []) = true
theorem rat_eq {rs : List (List Ent)} {i : Nat} (h : i < rs.length) : rs[i] = rs.getD i [] := by simp [h]
theorem RowsTo.all {rs : List (List Ent)} (h : RowsTo rs rs.length) : chkR rs = 0 := chkR_ok fun r hr => by
  obtain ⟨i, hi, rfl⟩ := List.mem_iff_getElem.1 hr
  rw [rat_eq hi]; exact h i hi

theorem two_len : ∀ (a b : List Ent), (two a b).length ≤ a.length + b.length
  | [], b => by simp [two]
  | x :: a, [] => by simp [two]
  | x :: a, y :: b => by
    have h1 := two_len a (y :: b)
    have h2 := two_len a b
    have h3 := two_len (x :: a) b
    rw [two]
    simp only [List.length_cons] at *
    split
    · simp only [List.length_cons]; omega
    · split <;> simp only [List.length_cons] <;> omega
termination_by a b => a.length + b.length

def allOf (rs : List (List Ent)) : List Ent := rs.foldl two []
theorem allOf_snoc (rs : List (List Ent)) (k : Nat) (h : k < rs.length) : allOf (rs.take (k + 1)) = two (allOf (rs.take k)) (rs.getD k []) := by
  rw [List.take_succ_eq_append_getElem h, rat_eq h]
  simp [allOf]
theorem allOf_len (rs : List (List Ent)) : (allOf rs).length ≤ (rs.map List.length).sum := by
  have : ∀ (rs : List (List Ent)) (a : List Ent), (rs.foldl two a).length ≤ a.length + (rs.map List.length).sum := by
    intro rs
    induction rs with
    | nil => intro a; simp
    | cons r rs ih =>
      intro a
      have h1 := ih (two a r)
      have h2 := two_len a r
      simp only [List.foldl_cons, List.map_cons, List.sum_cons]
      omega
  have h := this rs []
  simpa [allOf] using h
theorem sum_take (l : List Nat) (k : Nat) : (l.take k).sum ≤ l.sum := by
  induction l generalizing k with
  | nil => simp
  | cons x l ih => cases k with
    | zero => simp
    | succ k => have := ih k; simp only [List.take_succ_cons, List.sum_cons]; omega
theorem allOf_take (rs : List (List Ent)) (k : Nat) : (allOf (rs.take k)).length ≤ (rs.map List.length).sum := by
  have h1 := allOf_len (rs.take k)
  have h2 := sum_take (rs.map List.length) k
  rw [List.map_take] at h1
  omega
/-- What the document answers. -/
noncomputable def refAll (rs : List (List Ent)) : List Ent := if chkR rs = 0 then allOf rs else []

set_option maxRecDepth 100000 in
set_option maxHeartbeats 1000000 in
theorem rcheckR_any (F : Nat → Prop) (v : Value) (rs : List (List Ent)) (w : World) (h : Rw (rowK entK) F w v rs) (hok : ROk rs) :
    Calls Try.prog 57 #[v] w fun x w' => x = .returned (.int .i64 (chkR rs)) ∧ Below w.heap.size w w' := by
  obtain ⟨xa, ca, rfl⟩ := h.isSlice
  have HA := Lib.hid h
  have HO := Lib.hid hok
  have hfew := hok.few
  clear h hok
  obtain ⟨n, hn⟩ : ∃ n, rs.length = n := ⟨_, rfl⟩
  have HN := Lib.hid hn
  rw [hn] at HA hfew
  rw [hn]
  clear hn
  go_enter Try.func57, Try.ntmps57
  go_wp2_with fail
  go_loopw [3] (fun iv wr => ∃ (j : Nat), iv = .int .i64 (j : Int) ∧ j ≤ n ∧ Hid (RowsTo rs j) ∧ Hid (Below w.heap.size w wr)) (fun iv _ => n - (intOf iv).toNat)
  case atStart => exact ⟨0, rfl, by omega, fun i hi => by omega, Below.refl _ _⟩
  case round =>
    obtain ⟨j, rfl, hj, HR, HB⟩ := hrel
    by_cases hlt : j < n
    · have t1 : (j : Int) < (n : Int) := by omega
      have hl1 : j < rs.length := by rw [HN.out]; omega
      obtain ⟨ba, oa, capa, ea, _, hba, hca⟩ := rows_at (HA.out.below HB.out) (by omega)
      obtain ⟨u, hu, hc⟩ := hca j hl1
      injection ea with e1 e2 e3
      subst e1 e3
      clear e2
      have HL := Lib.hid (HO.out.len (List.getElem_mem hl1))
      have HM := Lib.hid (List.getElem_mem hl1)
      rw [rat_eq hl1] at hu HL HM
      obtain ⟨ua, uc, rfl⟩ := hu.isSlice
      have HU := Lib.hid hu
      clear hca hu hba hl1
      go_wp2_with fail
      refine Calls.mono (rcheck_any _ _ _ _ HU.out (by have := HL.out; omega)) ?_
      rintro _ w1 ⟨rfl, hb1⟩
      have HW : Hid (Below w.heap.size w w1) := HB.out.trans (hb1.mono HB.out.size)
      clear hb1 hc
      unfold chkE
      cases hc : rowB (rs.getD j []) with
      | true =>
        rw [if_pos rfl]
        have HC := Lib.hid hc
        clear hc
        go_wp2_with fail
        go_roundw
        · exact ⟨j + 1, by go_num, by omega, (fun i hi => by
            by_cases e : i = j
            · rw [e]; exact HC.out
            · exact HR.out i (by omega)), HW.out⟩
        · simp only [intOf]; omega
      | false =>
        rw [if_neg (by decide)]
        have HC := Lib.hid hc
        clear hc
        go_wp2_with fail
        go_ret
        exact ⟨ret_int (chkR_bad HM.out HC.out).symm, HW.out⟩
    · have t1 : ¬ (j : Int) < (n : Int) := by omega
      go_wp2_with fail
      go_ret
      exact ⟨ret_int (RowsTo.all (by rw [HN.out]; exact fun i hi => HR.out i (by omega))).symm, HB.out⟩

def AllPost (F : Nat → Prop) (rs : List (List Ent)) (w : World) (x : Ending) (w' : World) : Prop :=
  ∃ v', x = .returned (.tuple #[v', .int .i64 (chkR rs)]) ∧ Rw entK (fun k => F k ∨ w.heap.size ≤ k) w' v' (refAll rs) ∧ Below w.heap.size w w'

set_option maxRecDepth 100000 in
set_option maxHeartbeats 1000000 in
theorem rall_any (F : Nat → Prop) (v : Value) (rs : List (List Ent)) (w : World) (h : Rw (rowK entK) F w v rs) (hok : ROk rs) :
    Calls Try.prog 19 #[v] w (AllPost F rs w) := by
  obtain ⟨xa, ca, rfl⟩ := h.isSlice
  have HA := Lib.hid h
  have HO := Lib.hid hok
  have hfew := hok.few
  clear h hok
  obtain ⟨n, hn⟩ : ∃ n, rs.length = n := ⟨_, rfl⟩
  have HN := Lib.hid hn
  rw [hn] at HA hfew
  rw [hn]
  clear hn
  go_enter Try.func19, Try.ntmps19
  go_wp2_with fail
  refine Calls.mono (rcheckR_any F _ rs _ HA.out HO.out) ?_
  rintro _ w1 ⟨rfl, hb1⟩
  have HW1 := Lib.hid hb1
  clear hb1
  rcases chkR_or rs with hc | hc
  · have HC := Lib.hid hc
    rw [hc]
    clear hc
    go_wp2_with fail
    go_loopw [5, 6] (fun ov iv wr => ∃ (j : Nat), iv = .int .i64 (j : Int) ∧ j ≤ n ∧ Hid (Rw entK (fun k => F k ∨ w.heap.size ≤ k) wr ov (allOf (rs.take j))) ∧ Hid (Below w.heap.size w wr)) (fun _ iv _ => n - (intOf iv).toNat)
    case atStart => exact ⟨0, rfl, by omega, Rw.nil _ _ _, HW1.out⟩
    case round =>
      obtain ⟨j, rfl, hj, HR, HB⟩ := hrel
      obtain ⟨oa, oc, rfl⟩ := HR.out.isSlice
      by_cases hlt : j < n
      · have t1 : (j : Int) < (n : Int) := by omega
        have hl1 : j < rs.length := by rw [HN.out]; omega
        obtain ⟨ba, oa', capa, ea, _, hba, hca⟩ := rows_at (HA.out.below HB.out) (by omega)
        obtain ⟨u, hu, hc⟩ := hca j hl1
        injection ea with e1 e2 e3
        subst e1 e3
        clear e2
        have HL := Lib.hid (HO.out.len (List.getElem_mem hl1))
        rw [rat_eq hl1] at hu HL
        obtain ⟨ua, uc, rfl⟩ := hu.isSlice
        have HU := Lib.hid hu
        have HT := Lib.hid (allOf_snoc rs j hl1)
        have HLA : Hid ((allOf (rs.take j)).length ≤ 400000) := Nat.le_trans (allOf_take rs j) (Nat.le_trans HO.out.sum (by decide))
        clear hca hu hba hl1
        generalize allOf (rs.take j) = out at *
        go_wp2_with fail
        refine Calls.mono (two_any (fun k => F k ∨ w.heap.size ≤ k) _ _ _ _ _ HR.out (HU.out.mono fun k _ h => .inl h) HLA.out (by have := HL.out; omega)) ?_
        rintro _ w2 ⟨v2, rfl, hr2, hb2⟩
        have HR2 : Hid (Rw entK (fun k => F k ∨ w.heap.size ≤ k) w2 v2 (allOf (rs.take (j + 1)))) := by
          rw [HT.out]
          exact hr2.mono fun k _ h => by
            have := HB.out.size
            rcases h with h | h
            · exact h
            · exact .inr (by omega)
        have HB2 : Hid (Below w.heap.size w w2) := HB.out.trans (hb2.mono HB.out.size)
        clear hr2 hb2 hc
        go_wp2_with fail
        go_roundw
        · exact ⟨j + 1, by go_num, by omega, HR2.out, HB2.out⟩
        · simp only [intOf]; omega
      · have t1 : ¬ (j : Int) < (n : Int) := by omega
        have HF : Hid (Rw entK (fun k => F k ∨ w.heap.size ≤ k) wr (.slice oa (allOf (rs.take j)).length oc) (refAll rs)) := by
          have h5 := HR.out
          unfold refAll
          rw [if_pos HC.out]
          have h6 : rs.take j = rs := List.take_of_length_le (by rw [HN.out]; omega)
          rw [h6] at h5 ⊢
          exact h5
        clear HR
        generalize (allOf (rs.take j)).length = q at *
        go_wp2_with fail
        go_ret2
        exact ⟨_, ret2_of rfl (int_eq HC.out.symm), HF.out, HB.out⟩
  · have HC := Lib.hid hc
    rw [hc]
    clear hc
    go_wp2_with fail
    go_ret2
    exact ⟨_, ret2_of rfl (int_eq HC.out.symm), by unfold refAll; rw [if_neg (by rw [HC.out]; decide)]; exact Rw.nil _ _ _, HW1.out⟩
end Go.Proofs.Ytmpapipobjoboaa

namespace Go.Proofs.Ytmpapipobjoboaa
open Go.RowKit

theorem ecmp_zero_tr {a b c : Ent} (h1 : Ent.cmp a b = 0) (h2 : Ent.cmp b c = 0) : Ent.cmp a c = 0 := by
  have g1 := @ecmp_le_tr a b c (by omega) (by omega)
  have g2 := @ecmp_le_tr c b a (by have := ecmp_anti b c; omega) (by have := ecmp_anti a b; omega)
  have := ecmp_anti a c
  omega

theorem two_spec : ∀ (a b : List Ent), Sorted a → Sorted b → Sorted (two a b) ∧ ∀ x, x ∈ two a b ↔ x ∈ a ∨ (x ∈ b ∧ ∀ y ∈ a, Ent.cmp y x ≠ 0)
  | [], b, _, hb => by simp [two, hb]
  | x :: a, [], ha, _ => by simp [two, ha]
  | x :: a, y :: b, ha, hb => by
    have h1 := two_spec a (y :: b)
    have h2 := two_spec a b
    have h3 := two_spec (x :: a) b
    obtain ⟨ha1, ha2⟩ := List.pairwise_cons.1 ha
    obtain ⟨hb1, hb2⟩ := List.pairwise_cons.1 hb
    rw [two]
    by_cases c1 : Ent.cmp x y < 0
    · rw [if_pos c1]
      obtain ⟨s, m⟩ := h1 ha2 hb
      have hxy : ∀ z ∈ y :: b, Ent.cmp x z < 0 := fun z hz => by
        rcases List.mem_cons.1 hz with rfl | hz
        · exact c1
        · exact ecmp_lt_le c1 (by have := hb1 z hz; omega)
      refine ⟨List.pairwise_cons.2 ⟨fun z hz => ?_, s⟩, fun z => ?_⟩
      · rcases (m z).1 hz with h | h
        · exact ha1 z h
        · exact hxy z h.1
      · simp only [List.mem_cons, m z]
        constructor
        · rintro (h | h | ⟨h, k⟩)
          · exact .inl (.inl h)
          · exact .inl (.inr h)
          · refine .inr ⟨h, fun w hw => ?_⟩
            rcases hw with rfl | hw
            · have := hxy z (List.mem_cons.2 h); omega
            · exact k w hw
        · rintro ((h | h) | ⟨h, k⟩)
          · exact .inl h
          · exact .inr (.inl h)
          · exact .inr (.inr ⟨h, fun w hw => k w (.inr hw)⟩)
    · rw [if_neg c1]
      by_cases c2 : Ent.cmp x y = 0
      · rw [if_pos c2]
        obtain ⟨s, m⟩ := h2 ha2 hb2
        have hxy : ∀ z ∈ b, Ent.cmp x z < 0 := fun z hz => ecmp_le_lt (by omega) (hb1 z hz)
        refine ⟨List.pairwise_cons.2 ⟨fun z hz => ?_, s⟩, fun z => ?_⟩
        · rcases (m z).1 hz with h | h
          · exact ha1 z h
          · exact hxy z h.1
        · simp only [List.mem_cons, m z]
          constructor
          · rintro (h | h | ⟨h, k⟩)
            · exact .inl (.inl h)
            · exact .inl (.inr h)
            · refine .inr ⟨.inr h, fun w hw => ?_⟩
              rcases hw with rfl | hw
              · have := hxy z h; omega
              · exact k w hw
          · rintro ((h | h) | ⟨h, k⟩)
            · exact .inl h
            · exact .inr (.inl h)
            · rcases h with rfl | h
              · exact absurd c2 (k x (.inl rfl))
              · exact .inr (.inr ⟨h, fun w hw => k w (.inr hw)⟩)
      · rw [if_neg c2]
        obtain ⟨s, m⟩ := h3 ha hb2
        have hyx : Ent.cmp y x < 0 := by have := ecmp_anti x y; omega
        have hxy : ∀ z ∈ x :: a, Ent.cmp y z < 0 := fun z hz => by
          rcases List.mem_cons.1 hz with rfl | hz
          · exact hyx
          · exact ecmp_lt_le hyx (by have := ha1 z hz; omega)
        refine ⟨List.pairwise_cons.2 ⟨fun z hz => ?_, s⟩, fun z => ?_⟩
        · rcases (m z).1 hz with h | h
          · exact hxy z h
          · exact hb1 z h.1
        · simp only [List.mem_cons, m z]
          constructor
          · rintro (rfl | h | ⟨h, k⟩)
            · exact .inr ⟨.inl rfl, fun w hw => by have := hxy w (List.mem_cons.2 hw); have := ecmp_anti z w; omega⟩
            · exact .inl h
            · exact .inr ⟨.inr h, k⟩
          · rintro (h | ⟨h, k⟩)
            · exact .inr (.inl h)
            · rcases h with rfl | h
              · exact .inl rfl
              · exact .inr (.inr ⟨h, k⟩)
termination_by a b => a.length + b.length

theorem shown_rep {l : List Hd} (h0 : ∀ h ∈ l, 0 ≤ h.no) : ∀ (n : Nat) (h : Hd), h ∈ l → h.no.toNat = n → ∀ y ∈ h.l, ∃ y', Shown l y' ∧ Ent.cmp y' y = 0 := by
  intro n
  induction n using Nat.strongRecOn with
  | _ n ih =>
    intro h hh hn y hy
    by_cases hx : ∃ h' ∈ l, h'.no < h.no ∧ ∃ z ∈ h'.l, Ent.cmp z y = 0
    · obtain ⟨h', hh', hlt, z, hz, hc⟩ := hx
      have := h0 h hh
      have := h0 h' hh'
      obtain ⟨y', g1, g2⟩ := ih h'.no.toNat (by omega) h' hh' rfl z hz
      exact ⟨y', g1, ecmp_zero_tr g2 hc⟩
    · exact ⟨y, ⟨h, hh, hy, fun h' hh' hlt z hz hc => hx ⟨h', hh', hlt, z, hz, hc⟩⟩, ecmp_self y⟩

theorem tells_snoc {l : List Hd} {a r : List Ent} {n : Int} (h : Tells l a) (h0 : ∀ h ∈ l, 0 ≤ h.no) (h1 : ∀ h ∈ l, h.no < n) (hr : Sorted r) : Tells (l ++ [⟨r, n⟩]) (two a r) := by
  obtain ⟨s, m⟩ := two_spec a r h.sort hr
  refine ⟨s, fun x => (m x).trans ⟨?_, ?_⟩⟩
  · rintro (hx | ⟨hx, hk⟩)
    · obtain ⟨b, g1, g2, g3⟩ := (h.mem x).1 hx
      refine ⟨b, List.mem_append_left _ g1, g2, fun h' hh' hlt y hy => ?_⟩
      rcases List.mem_append.1 hh' with hh' | hh'
      · exact g3 h' hh' hlt y hy
      · rw [List.mem_singleton.1 hh'] at hlt
        have := h1 b g1
        simp only at hlt
        omega
    · refine ⟨⟨r, n⟩, List.mem_append_right _ (List.mem_singleton.2 rfl), hx, fun h' hh' hlt y hy => ?_⟩
      rcases List.mem_append.1 hh' with hh' | hh'
      · intro hc
        obtain ⟨y', g1, g2⟩ := shown_rep h0 _ h' hh' rfl y hy
        exact hk y' ((h.mem y').2 g1) (ecmp_zero_tr g2 hc)
      · rw [List.mem_singleton.1 hh'] at hlt
        simp only at hlt
        omega
  · rintro ⟨b, g1, g2, g3⟩
    rcases List.mem_append.1 g1 with g1 | g1
    · exact .inl ((h.mem x).2 ⟨b, g1, g2, fun h' hh' => g3 h' (List.mem_append_left _ hh')⟩)
    · rw [List.mem_singleton.1 g1] at g2 g3
      refine .inr ⟨g2, fun y hy => ?_⟩
      obtain ⟨c, k1, k2, _⟩ := (h.mem y).1 hy
      exact g3 c (List.mem_append_left _ k1) (h1 c k1) y k2

theorem two_none (a : List Ent) : two a [] = a := by cases a <;> simp [two]

/-- The heads of the first rows. -/
def hdsTo (rs : List (List Ent)) : Nat → List Hd
  | 0 => []
  | k + 1 => if (rs.getD k []).length = 0 then hdsTo rs k else hdsTo rs k ++ [⟨rs.getD k [], (k : Int)⟩]

structure HdsOk (rs : List (List Ent)) (k : Nat) (l : List Hd) : Prop where
  ok : HOk l
  len : l.length ≤ k
  sort : Hsort l
  lo : ∀ h ∈ l, 0 ≤ h.no
  hi : ∀ h ∈ l, h.no < (k : Int)
  tells : Tells l (allOf (rs.take k))

theorem HdsOk.start (rs : List (List Ent)) : HdsOk rs 0 [] :=
  ⟨⟨by simp, fun _ h => (by cases h), fun _ h => (by cases h)⟩, Nat.le_refl _, fun _ h => (by cases h), fun _ h => (by cases h), fun _ h => (by cases h), ⟨List.Pairwise.nil, fun x => by simp [allOf, Shown]⟩⟩

theorem HdsOk.skip {rs : List (List Ent)} {k : Nat} {l : List Hd} (h : HdsOk rs k l) (hk : k < rs.length) (he : (rs.getD k []).length = 0) : HdsOk rs (k + 1) l := by
  obtain ⟨h1, h2, h3, h4, h5, h6⟩ := h
  refine ⟨h1, by omega, h3, h4, fun x hx => by have := h5 x hx; omega, ?_⟩
  rw [allOf_snoc _ _ hk, List.eq_nil_of_length_eq_zero he, two_none]
  exact h6
theorem HdsOk.more {rs : List (List Ent)} {k : Nat} {l : List Hd} (h : HdsOk rs k l) (hok : ROk rs) (hk : k < rs.length) (he : (rs.getD k []).length ≠ 0) (hr : rowB (rs.getD k []) = true) : HdsOk rs (k + 1) (l ++ [⟨rs.getD k [], (k : Int)⟩]) := by
  obtain ⟨h1, h2, h3, h4, h5, h6⟩ := h
  have hm : rs.getD k [] ∈ rs := by rw [← rat_eq hk]; exact List.getElem_mem hk
  have hfew := hok.few
  refine ⟨⟨?_, fun x hx => ?_, fun x hx => ?_⟩, ?_, fun x hx => ?_, fun x hx => ?_, fun x hx => ?_, ?_⟩
  · rw [List.length_append, List.length_singleton]; omega
  · rcases List.mem_append.1 hx with hx | hx
    · exact h1.ne x hx
    · rw [List.mem_singleton.1 hx]
      intro e
      exact he (by rw [show rs.getD k [] = [] from e]; rfl)
  · rcases List.mem_append.1 hx with hx | hx
    · exact h1.big x hx
    · rw [List.mem_singleton.1 hx]; exact hok.big _ hm
  · rw [List.length_append, List.length_singleton]; omega
  · rcases List.mem_append.1 hx with hx | hx
    · exact h3 x hx
    · rw [List.mem_singleton.1 hx]; exact rowB_sorted.1 hr
  · rcases List.mem_append.1 hx with hx | hx
    · exact h4 x hx
    · rw [List.mem_singleton.1 hx]; show 0 ≤ (k : Int); omega
  · rcases List.mem_append.1 hx with hx | hx
    · have := h5 x hx; omega
    · rw [List.mem_singleton.1 hx]; show (k : Int) < _; omega
  · rw [allOf_snoc _ _ hk]
    exact tells_snoc h6 h4 h5 (rowB_sorted.1 hr)
end Go.Proofs.Ytmpapipobjoboaa

namespace Go.Proofs.Ytmpapipobjoboaa
open Go.RowKit

theorem info_head : (Try.prog.info? 80).map (fun i => (i.zero, i.size, i.bytes)) = some (some (.agg #[.slice none 0 0, .int .i64 0]), headK.sz, 32) := by kernel_rfl

/-- append of one thing, that lies in a block of its own, at a step of a region that draws its order. -/
theorem step_append_elF {α : Type} {K : Kind α} {P : Program} {ops : Array Oper} {w : World} {o : Oper} {a : Act} {C : Act → World → Prop} {Q : Exit → Act → World → Prop} {E : Prop} (t e : TypeId) (z : Value) (bytes : Nat) (ht : P.underlying t = some (.slice e))
    (hinfo : (P.info? e).map (fun i => (i.zero, i.size, i.bytes)) = some (some z, K.sz, bytes)) (hzs : z.cells.size = K.sz)
    (F : Nat → Prop) (base : Nat) (v : Value) (xs : List α) (b : Nat) (T : TypeId) (c : Array Value) (y : α) (hgd : o.guard = none) (s x : Operand)
    (ho : o.op = .call { callee := .builtin .append, args := #[s, x], argTypes := #[t, t] })
    (hs : a.eval s = v) (hx : a.eval x = .slice (some ⟨b, 0, none⟩) 1 1) (hown : ROwnF K F base e w v xs) (hsrc : Blk w b c T)
    (hel : K.R (fun k => F k ∧ v.ownBlock ≠ some k) w c.toList y) (hm : xs.length < 1000000) (hby : bytes ≤ 100000) (hbase : base ≤ w.heap.size)
    (h : ∀ v' w', ROwnF K F base e w' v' (xs ++ [y]) → Grew w w' v v' → C (a.put o.dst v') w') : if Region.wanted o (yielded ops a.tmps) = true then Oper.wp P o a w C Q else E :=
  step_of_wp hgd (wp_append_elF t e z bytes ht hinfo hzs F base v xs b T c y s x ho hs hx hown hsrc hel hm hby hbase h)

theorem new_grown {B m : Nat} {F : Nat → Prop} {w x1 w4 : World} {o : Obj} {v v4 : Value} {l : List Hd} {x : Hd} (h : Hv B F x1 m v l) (hro : ROwnF headK F B 80 w4 v4 (l ++ [x])) (hg : Grew (x1.alloc o) w4 v v4) (hb : Below w.heap.size w x1) (hB : w.heap.size ≤ B) :
    ROwnF headK F B 80 w4 v4 (l ++ [x]) ∧ Blk w4 m #[v, .bool true] 53 ∧ v4.ownBlock ≠ some m ∧ Below w.heap.size w w4 := by
  have h1 : Below w.heap.size w (x1.alloc o) := hb.alloc hb.size _
  refine ⟨hro, (h.blk.alloc o).same (hg.grown.block m (h.blk.alloc o).lt fun e => h.ne e.symm), fun e => ?_, h1.trans ?_⟩
  · rcases hg.own m e with e | e
    · exact h.ne e
    · have := (h.blk.alloc o).lt
      omega
  · exact hg.below h1.size fun k e => Nat.le_trans hB (h.own.lt k e).1

theorem hv_stored {B m : Nat} {F : Nat → Prop} {w w4 : World} {v v4 : Value} {l : List Hd} (h : ROwnF headK F B 80 w4 v4 l ∧ Blk w4 m #[v, .bool true] 53 ∧ v4.ownBlock ≠ some m ∧ Below w.heap.size w w4) (hF : ¬ F m) (hm : w.heap.size ≤ m) :
    Hv B F (w4.setCell ⟨m, 0, none⟩ v4) m v4 l ∧ Below w.heap.size w (w4.setCell ⟨m, 0, none⟩ v4) := by
  obtain ⟨h1, h2, h3, h4⟩ := h
  refine ⟨⟨h2.set 0 v4, h1.keep fun k _ e => heap_setCell_other _ _ _ _ fun e2 => ?_, h3, hF⟩, h4.setCell hm _⟩
  have e2 : k = m := e2
  subst e2
  rcases e with e | e
  · exact h3 e
  · exact hF e.1

def NewPost (_F : Nat → Prop) (rs : List (List Ent)) (w : World) (x : Ending) (w' : World) : Prop :=
  ∃ p, x = .returned (.tuple #[p, .int .i64 (chkR rs)]) ∧ Below w.heap.size w w' ∧ (chkR rs ≠ 0 → p = .pointer none) ∧
    (chkR rs = 0 → p = .pointer (some ⟨w.heap.size, 0, none⟩) ∧ ∃ v l, Hv w.heap.size (fun k => w.heap.size < k) w' w.heap.size v l ∧ HOk l ∧ Hsort l ∧ HeapFrom l l.length 0 ∧ Tells l (allOf rs))

set_option maxRecDepth 100000 in
set_option maxHeartbeats 2000000 in
theorem new_any (F : Nat → Prop) (v : Value) (rs : List (List Ent)) (w : World) (h : Rw (rowK entK) F w v rs) (hok : ROk rs) :
    Calls Try.prog 18 #[v] w (NewPost F rs w) := by
  obtain ⟨xa, ca, rfl⟩ := h.isSlice
  have HA := Lib.hid h
  have HO := Lib.hid hok
  have hfew := hok.few
  clear h hok
  obtain ⟨n, hn⟩ : ∃ n, rs.length = n := ⟨_, rfl⟩
  have HN := Lib.hid hn
  rw [hn] at HA hfew
  rw [hn]
  clear hn
  go_enter Try.func18, Try.ntmps18
  go_upto_block 0 with fail
  refine wp_gen fun w1 hw1 => ?_
  have HW1 : Hid (Below w.heap.size w w1) := by rw [hw1]; exact (Below.refl _ _).alloc (Nat.le_refl _) _
  have HV1 : Hid (Hv w.heap.size (fun k => w.heap.size < k) w1 w.heap.size (.slice none 0 0) []) := by
    rw [hw1]
    exact ⟨Blk.alloc_new _ _ _, ROwnF.nil _ _ _ _ _, (fun e => by cases e), fun e => Nat.lt_irrefl _ e⟩
  clear hw1
  go_wp2_with fail
  go_loopw [12] (fun iv wr => ∃ (j : Nat) (hv : Value) (l : List Hd), iv = .int .i64 (j : Int) ∧ j ≤ n ∧ Hid (RowsTo rs j) ∧ Hid (Hv w.heap.size (fun k => w.heap.size < k) wr w.heap.size hv l) ∧ Hid (HdsOk rs j l) ∧ Hid (Below w.heap.size w wr)) (fun iv _ => n - (intOf iv).toNat)
  case atStart => exact ⟨0, _, [], rfl, by omega, (fun i hi => by omega), HV1.out, HdsOk.start rs, HW1.out⟩
  case round =>
    obtain ⟨j, hv, l, rfl, hj, HR, HV, HH, HB⟩ := hrel
    clear HV1 HW1
    by_cases hlt : j < n
    · have t1 : (j : Int) < (n : Int) := by omega
      have hl1 : j < rs.length := by rw [HN.out]; omega
      obtain ⟨ba, oa, capa, ea, _, hba, hca⟩ := rows_at (HA.out.below HB.out) (by omega)
      obtain ⟨u, hu, hc⟩ := hca j hl1
      injection ea with e1 e2 e3
      subst e1 e3
      clear e2
      have HL := Lib.hid (HO.out.len (List.getElem_mem hl1))
      have HBG := Lib.hid (HO.out.big _ (List.getElem_mem hl1))
      have HM := Lib.hid (List.getElem_mem hl1)
      have HJ := Lib.hid hl1
      rw [rat_eq hl1] at hu HL HM HBG
      obtain ⟨ua, uc, rfl⟩ := hu.isSlice
      have HU := Lib.hid hu
      clear hca hu hba hl1
      generalize hr : rs.getD j [] = r at *
      have HRR := Lib.hid hr
      clear hr
      generalize hq : r.length = q at *
      have HQ := Lib.hid hq
      clear hq
      go_wp2_with fail
      refine Calls.mono (mcheck_any _ _ _ _ (by have h := HU.out; rw [← HQ.out] at h; rw [← HQ.out]; exact h) (by have := HL.out; rw [HQ.out]; omega)) ?_
      rintro _ w2 ⟨rfl, hb1⟩
      have HW : Hid (Below w.heap.size w w2) := HB.out.trans (hb1.mono HB.out.size)
      have HV2 := Lib.hid (HV.out.below hb1)
      have HU2 := Lib.hid (HU.out.below hb1)
      clear hb1 hc HU HV
      unfold chkE
      cases hc : rowB r with
      | true =>
        rw [if_pos rfl]
        have HC := Lib.hid hc
        clear hc
        by_cases hq0 : q = 0
        · subst hq0
          go_wp2_with fail
          go_roundw
          · exact ⟨j + 1, _, _, by go_num, by omega, (fun i hi => by
              by_cases e : i = j
              · rw [e, HRR.out]; exact HC.out
              · exact HR.out i (by omega)), HV2.out, HH.out.skip HJ.out (by rw [HRR.out, HQ.out]), HW.out⟩
          · simp only [intOf]; omega
        · have t2 : (0 : Int) < (q : Int) := by omega
          have k0 : w2.cell? ⟨w.heap.size, 0, none⟩ = some hv := HV2.out.cell
          obtain ⟨ha, hc', rfl⟩ := HV2.out.own.isSlice
          go_wp2_with fail
          have HUd := Lib.hid (HU2.out.below (below_drew (Below.refl _ _)))
          have HVd : Hid (Hv w.heap.size (fun k => w.heap.size < k) w2.drew w.heap.size (.slice ha l.length hc') l) := HV2.out.below (below_drew (Below.refl _ _))
          have HLm : Hid (l.length < 1000000) := by have := HH.out.len; show _ < _; omega
          have HEL : Hid (∀ k, w2.drew.heap.size ≤ k → w.heap.size < k ∧ (Value.slice ha l.length hc').ownBlock ≠ some k) := fun k hk => ⟨Nat.lt_of_lt_of_le HVd.out.blk.lt hk, fun e => by have := (HVd.out.own.lt k e).2; omega⟩
          go_region_law (first
            | (refine step_append_elF (K := headK) 51 80 _ 32 Try.underlying51 info_head rfl (fun k => w.heap.size < k) w.heap.size (Value.slice ha l.length hc') l x1.heap.size 80 _ ⟨r, (j : Int)⟩ rfl _ _ rfl rfl rfl ((HVd.out.own.below hb1).below ((Below.refl _ _).alloc (Nat.le_refl _) _)) (Blk.at_new rfl rfl) ⟨_, rfl, (hr1.below ((Below.refl _ _).alloc (Nat.le_refl _) _)).mono fun k _ hk => HEL.out k hk⟩ HLm.out (by decide) (HB1.out.alloc HB1.out.size _).size ?_; intro v4 w4 hro hg; obtain ⟨a4, c4, rfl⟩ := hro.isSlice; have HN4 := Lib.hid (new_grown (HVd.out.below hb1) hro hg HB1.out (Nat.le_refl _)); clear hro hg; have k4 : w4.cell? ⟨w.heap.size, 0, none⟩ = some (Value.slice ha l.length hc') := HN4.out.2.1.cell rfl; have f4 := HN4.out.2.1.free 0)
            | (go_simp; go_at_call 55; refine Calls.mono (mown_any F _ r _ (by have h := HUd.out; rw [← HQ.out] at h; rw [← HQ.out]; exact h) (by have := HL.out; rw [HQ.out]; omega) HBG.out) ?_; rintro _ x1 ⟨v1, rfl, hr1, hb1⟩; obtain ⟨va1, vc1, rfl⟩ := hr1.isSlice; have HB1 := Lib.hid (HW.out.trans ((below_of_drew hb1).mono HW.out.size)); have kx : x1.cell? ⟨w.heap.size, 0, none⟩ = some (Value.slice ha l.length hc') := (HVd.out.below hb1).cell; have ky : ∀ o, (x1.alloc o).cell? ⟨w.heap.size, 0, none⟩ = some (Value.slice ha l.length hc') := fun o => ((HVd.out.below hb1).blk.alloc o).cell rfl))
          all_goals
            clear k0 kx ky k4 f4 hr1 hb1 t2
            go_upto_region 10 with fail
            refine wp_gen fun w5 hw5 => ?_
            have HN5 : Hid (Hv w.heap.size (fun k => w.heap.size < k) w5 w.heap.size (.slice a4 (l ++ [(⟨r, (j : Int)⟩ : Hd)]).length c4) (l ++ [⟨r, (j : Int)⟩]) ∧ Below w.heap.size w w5) := by
              rw [hw5, ← show (l ++ [(⟨r, (j : Int)⟩ : Hd)]).length = l.length + 1 by simp]
              exact hv_stored HN4.out (fun e => Nat.lt_irrefl _ e) (Nat.le_refl _)
            clear hw5 HN4 HVd HUd HEL HB1
            have HH5 : Hid (HdsOk rs (j + 1) (l ++ [⟨r, (j : Int)⟩])) := by
              have h5 := HH.out.more HO.out HJ.out (by rw [HRR.out, HQ.out]; exact hq0) (by rw [HRR.out]; exact HC.out)
              rw [HRR.out] at h5
              exact h5
            go_wp2_with fail
            go_roundw
            · exact ⟨j + 1, _, _, by go_num, by omega, (fun i hi => by
                by_cases e : i = j
                · rw [e, HRR.out]; exact HC.out
                · exact HR.out i (by omega)), HN5.out.1, HH5.out, HN5.out.2⟩
            · simp only [intOf]; omega
      | false =>
        rw [if_neg (by decide)]
        have HC := Lib.hid hc
        clear hc
        go_wp2_with fail
        go_ret2
        refine ⟨.pointer none, ret2_of rfl (int_eq (chkR_bad HM.out HC.out).symm), HW.out, fun _ => rfl, fun e => ?_⟩
        rw [chkR_bad HM.out HC.out] at e
        cases e
    · have t1 : ¬ (j : Int) < (n : Int) := by omega
      have HC : Hid (chkR rs = 0) := RowsTo.all (by rw [HN.out]; exact fun i hi => HR.out i (by omega))
      have HT : Hid (HOk l ∧ Hsort l ∧ Tells l (allOf rs)) := by
        obtain ⟨g1, _, g2, _, _, g3⟩ := HH.out
        rw [List.take_of_length_le (by rw [HN.out]; omega)] at g3
        exact ⟨g1, g2, g3⟩
      go_wp2_with fail
      refine Calls.mono (init_any HV.out HT.out.1.few HT.out.1.ne) ?_
      rintro _ w3 ⟨l3, rfl, g1, g2, g3, g4⟩
      have HP : Hid (NewPost F rs w (.returned (.tuple #[.pointer (some ⟨w.heap.size, 0, none⟩), .int .i64 0])) w3) := by
        refine ⟨_, by rw [HC.out], HB.out.trans (g4.below HB.out.size fun k e => (HV.out.own.lt k e).1), fun e => absurd HC.out e, fun _ => ⟨rfl, hv, l3, g1, ?_, HT.out.2.1.perm g2.symm, g3, HT.out.2.2.perm g2.symm⟩⟩
        exact ⟨by rw [g2.length_eq]; exact HT.out.1.few, fun x hx => HT.out.1.ne x (g2.mem_iff.1 hx), fun x hx => HT.out.1.big x (g2.mem_iff.1 hx)⟩
      clear g1 g2 g3 g4
      go_wp2_with fail
      go_ret2
      exact HP.out
end Go.Proofs.Ytmpapipobjoboaa

namespace Go.Proofs.Ytmpapipobjoboaa
open Go.RowKit

def NoneP (w : World) (x : Ending) (w' : World) : Prop := x = .returned (.tuple #[.agg #[.slice none 0 0, .int .u64 0, .int .i64 0, .slice none 0 0], .bool false]) ∧ Below w.heap.size w w'

/-- A merger without heads. -/
def Bare (w : World) (p : Value) : Prop := p = .pointer none ∨ ∃ m a c, p = .pointer (some ⟨m, 0, none⟩) ∧ w.cell? ⟨m, 0, none⟩ = some (.slice a 0 c)
theorem Bare.below {w w' : World} {p : Value} (h : Bare w p) (hb : Below w.heap.size w w') : Bare w' p := by
  rcases h with h | ⟨m, a, c, h1, h2⟩
  · exact .inl h
  · exact .inr ⟨m, a, c, h1, (hb.cell (p := ⟨m, 0, none⟩) (World.block_lt_of_cell? _ _ h2)).trans h2⟩
theorem Hv.bare {B m : Nat} {F : Nat → Prop} {w : World} {v : Value} (h : Hv B F w m v []) : Bare w (.pointer (some ⟨m, 0, none⟩)) := by
  obtain ⟨a, c, rfl⟩ := h.own.isSlice
  exact .inr ⟨m, a, c, rfl, h.cell⟩

set_option maxRecDepth 100000 in
theorem peek_none {w : World} {p : Value} (h : Bare w p) : Calls Try.prog 20 #[p] w (NoneP w) := by
  rcases h with rfl | ⟨m, a, c, rfl, hc⟩
  · go_enter Try.func20, Try.ntmps20
    go_upto_region 2 with fail
    go_wp2_with fail
    refine bodyPost_ret (results_cell_tmp1 (p := 2) (t := 3) rfl _ _ w.heap.size 29 #[.slice none 0 0, .int .u64 0, .int .i64 0, .slice none 0 0] _ rfl (by exact Blk.alloc_new _ _ _) Try.underlying29 rfl (by kernel_rfl)) rfl ?_
    exact ⟨rfl, (Below.refl _ _).alloc (Nat.le_refl _) _⟩
  · have hm := World.block_lt_of_cell? _ _ hc
    have hc2 : ∀ o, (w.alloc o).cell? ⟨m, 0, none⟩ = some (.slice a 0 c) := fun o => (World.cell?_alloc_lt w o _ hm).trans hc
    go_enter Try.func20, Try.ntmps20
    go_upto_region 2 with fail
    go_wp2_with fail
    refine bodyPost_ret (results_cell_tmp1 (p := 2) (t := 3) rfl _ _ w.heap.size 29 #[.slice none 0 0, .int .u64 0, .int .i64 0, .slice none 0 0] _ rfl (by exact Blk.alloc_new _ _ _) Try.underlying29 rfl (by kernel_rfl)) rfl ?_
    exact ⟨rfl, (Below.refl _ _).alloc (Nat.le_refl _) _⟩

set_option maxRecDepth 100000 in
theorem next_none {w : World} {p : Value} (h : Bare w p) : Calls Try.prog 23 #[p] w (NoneP w) := by
  have HH := Lib.hid h
  clear h
  go_enter Try.func23, Try.ntmps23
  go_upto_region 1 with fail
  refine wp_gen fun w1 hw1 => ?_
  have HW1 : Hid (Below w.heap.size w w1) := by rw [hw1]; exact (Below.refl _ _).alloc (Nat.le_refl _) _
  have HR1 : Hid (Blk w1 w.heap.size #[.slice none 0 0, .int .u64 0, .int .i64 0, .slice none 0 0] 29) := by rw [hw1]; exact Blk.alloc_new _ _ _
  clear hw1
  go_wp2_with fail
  refine Calls.mono (peek_none (HH.out.below HW1.out)) ?_
  rintro _ w2 ⟨rfl, hb2⟩
  have HW2 : Hid (Below w.heap.size w w2) := HW1.out.trans (hb2.mono HW1.out.size)
  have HR2 := Lib.hid (HR1.out.below hb2 HR1.out.lt)
  clear hb2 HR1 HW1
  go_upto_region 3 with fail
  refine wp_gen fun w3 hw3 => ?_
  have HW3 : Hid (Below w.heap.size w w3) := by rw [hw3]; exact HW2.out.alloc HW2.out.size _
  have HR3 : Hid (Blk w3 w.heap.size #[.slice none 0 0, .int .u64 0, .int .i64 0, .slice none 0 0] 29) := by rw [hw3]; exact HR2.out.alloc _
  have HB3 : Hid (Blk w3 w2.heap.size #[.slice none 0 0, .int .u64 0, .int .i64 0, .slice none 0 0] 29) := by rw [hw3]; exact Blk.alloc_new _ _ _
  clear hw3
  have q0 : w3.cell? ⟨w2.heap.size, 0, none⟩ = some (.slice none 0 0) := HB3.out.cell rfl
  have q1 : w3.cell? ⟨w2.heap.size, 1, none⟩ = some (.int .u64 0) := HB3.out.cell rfl
  have q2 : w3.cell? ⟨w2.heap.size, 2, none⟩ = some (.int .i64 0) := HB3.out.cell rfl
  have q3 : w3.cell? ⟨w2.heap.size, 3, none⟩ = some (.slice none 0 0) := HB3.out.cell rfl
  go_wp2_with (with_reducible refine pause_store ?_)
  refine Pause.go (wpList_store_agg rfl _ _ _ rfl w.heap.size 0 rfl _ rfl _ _ HR3.out (by kernel_rfl) (by decide) (fun u hu => by simp at hu; rcases hu with rfl | rfl | rfl | rfl <;> rfl) ?_)
  rw [over_all _ _ (by rfl)]
  refine list_gen fun W4 hW4 => ?_
  have HC4 : Hid (Blk W4 w.heap.size #[.slice none 0 0, .int .u64 0, .int .i64 0, .slice none 0 0] 29) := by rw [hW4]; exact HR3.out.row _
  have HW4 : Hid (Below w.heap.size w W4) := by rw [hW4]; exact below_setRow HW3.out (Nat.le_refl _) _
  clear hW4
  go_wp2_with fail
  refine bodyPost_ret (results_cell_tmp1 (p := 2) (t := 3) rfl _ _ w.heap.size 29 #[.slice none 0 0, .int .u64 0, .int .i64 0, .slice none 0 0] _ rfl HC4.out Try.underlying29 rfl (by kernel_rfl)) rfl ?_
  exact ⟨rfl, HW4.out⟩
end Go.Proofs.Ytmpapipobjoboaa

namespace Go.Proofs.Ytmpapipobjoboaa
open Go.RowKit

section
variable {B m N : Nat} {F : Nat → Prop} {w w' : World} {v : Value} {l : List Hd}

/-- A merger that lies below block N, and what it tells. -/
structure Mg (B N m : Nat) (g : Option Nat) (w : World) (l : List Hd) (out : List Ent) : Prop where
  ex : ∃ v, Hv B (fun k => B < k ∧ k < N) w m v l ∧ v.ownBlock = g
  low : m < N ∧ ∀ k, g = some k → k < N
  ok : HOk l
  sort : Hsort l
  heap : HeapFrom l l.length 0
  tells : Tells l out

theorem Mg.below {g : Option Nat} {out : List Ent} (h : Mg B N m g w l out) (hb : Below N w w') : Mg B N m g w' l out := by
  obtain ⟨⟨v, hv, hg⟩, h2, h3, h4, h5, h6⟩ := h
  refine ⟨⟨v, ⟨hv.blk.below hb h2.1, hv.own.keep fun k _ e => hb.block k ?_, hv.ne, hv.nm⟩, hg⟩, h2, h3, h4, h5, h6⟩
  rcases e with e | e
  · exact h2.2 k (by rw [← hg]; exact e)
  · exact e.1.2

theorem Mg.of_new (h : Hv B (fun k => B < k) w m v l) (hN : w.heap.size ≤ N) (hok : HOk l) (hs : Hsort l) (hp : HeapFrom l l.length 0) {out : List Ent} (ht : Tells l out) : Mg B N m v.ownBlock w l out :=
  ⟨⟨v, ⟨h.blk, h.own.mono fun _k hk hF _ => ⟨hF, Nat.lt_of_lt_of_le hk hN⟩, h.ne, fun e => h.nm e.1⟩, rfl⟩, ⟨Nat.lt_of_lt_of_le h.blk.lt hN, fun k e => Nat.lt_of_lt_of_le (h.own.lt k e).2 hN⟩, hok, hs, hp, ht⟩

def MNextPost (B N m : Nat) (g : Option Nat) (e : Ent) (out : List Ent) (w : World) (x : Ending) (w' : World) : Prop :=
  ∃ k y l', x = .returned (.tuple #[.agg (entCells e k y).toArray, .bool true]) ∧ Bytes (fun j => w.heap.size ≤ j) w' k e.key ∧ Bytes (fun j => w.heap.size ≤ j) w' y e.value ∧
    Mg B N m g w' l' out ∧ Wrote (fun k => k = m ∨ g = some k) w w'

theorem mnext_any {g : Option Nat} {e : Ent} {out : List Ent} (h : Mg B N m g w l (e :: out)) :
    Calls Try.prog 23 #[.pointer (some ⟨m, 0, none⟩)] w (MNextPost B N m g e out w) := by
  obtain ⟨⟨v, hv, hg⟩, h2, h3, h4, h5, h6⟩ := h
  have h0 : 0 < l.length := by
    cases l with
    | nil => have := h6.none; cases this
    | cons x r => simp
  refine (next_any hv h3 h5 h0).mono fun x w' ⟨k, y, v', l', g1, g2, g3, g4, g5, g6, g7, g8, g9, g10⟩ => ?_
  obtain ⟨out', e1, e2, e3⟩ := h6.next h4 h3 h5 h0 g8 g7 g9
  injection e1 with e1 e4
  subst e4
  rw [← e1] at g1 g2 g3
  exact ⟨k, y, l', g1, g2, g3, ⟨⟨v', g4, g5.trans hg⟩, h2, g6, e3, g7, e2⟩, by rw [hg] at g10; exact g10⟩

theorem mpeek_any {g : Option Nat} {e : Ent} {out : List Ent} (h : Mg B N m g w l (e :: out)) :
    Calls Try.prog 20 #[.pointer (some ⟨m, 0, none⟩)] w (PeekPost e w) := by
  obtain ⟨⟨v, hv, hg⟩, h2, h3, h4, h5, h6⟩ := h
  have h0 : 0 < l.length := by
    cases l with
    | nil => have := h6.none; cases this
    | cons x r => simp
  have h7 := h6.next h4 h3 h5 h0 .refl h5
  have h8 : (hat l 0).first = e := by
    have hs := top_shown h4 h3 h5 h0
    have hm := (h6.mem _).2 hs
    rcases List.mem_cons.1 hm with h9 | h9
    · exact h9
    · exfalso
      have h10 := (List.pairwise_cons.1 h6.sort).1 _ h9
      obtain ⟨a, k1, k2, _⟩ := (h6.mem e).1 (List.mem_cons_self ..)
      have h11 := top_least h4 h5 k1 k2
      have := ecmp_anti e (hat l 0).first
      omega
  rw [← h8]
  exact peek_any hv h3 h0

theorem Mg.bare {g : Option Nat} (h : Mg B N m g w l []) : Bare w (.pointer (some ⟨m, 0, none⟩)) := by
  obtain ⟨⟨v, hv, hg⟩, h2, h3, h4, h5, h6⟩ := h
  have h0 : l = [] := by
    cases l with
    | nil => rfl
    | cons x r => have := (h6.mem _).2 (top_shown h4 h3 h5 (by simp)); cases this
  subst h0
  exact hv.bare
end

set_option maxRecDepth 100000 in
set_option maxHeartbeats 1000000 in
theorem mall_any (F : Nat → Prop) (v : Value) (rs : List (List Ent)) (w : World) (h : Rw (rowK entK) F w v rs) (hok : ROk rs) :
    Calls Try.prog 26 #[v] w (AllPost (fun _ => False) rs w) := by
  obtain ⟨xa, ca, rfl⟩ := h.isSlice
  have HA := Lib.hid h
  have HO := Lib.hid hok
  clear h hok
  go_enter Try.func26, Try.ntmps26
  go_wp2_with fail
  refine Calls.mono (new_any F _ rs _ HA.out HO.out) ?_
  rintro _ w1 ⟨p, rfl, hb1, hbad, hgood⟩
  have HW1 := Lib.hid hb1
  clear hb1
  rcases chkR_or rs with hc | hc
  · obtain ⟨rfl, hv, l, g1, g2, g3, g4, g5⟩ := hgood hc
    have HC := Lib.hid hc
    rw [hc]
    have HM : Hid (Mg w.heap.size w1.heap.size w.heap.size hv.ownBlock w1 l (allOf rs)) := Mg.of_new g1 (Nat.le_refl _) g2 g3 g4 g5
    have HLA : Hid ((allOf rs).length ≤ 100000) := Nat.le_trans (allOf_len rs) HO.out.sum
    have HR : Hid (refAll rs = allOf rs) := by show _ = _; unfold refAll; rw [if_pos HC.out]
    clear hc g1 g2 g3 g4 g5 hbad hgood
    generalize hv.ownBlock = g at *
    go_wp2_with fail
    go_loopg [6] (allOf rs).length (fun n ov wr => ∃ (out rest : List Ent) (l1 : List Hd), n = rest.length ∧ Hid (allOf rs = out ++ rest) ∧ Hid (Mg w.heap.size w1.heap.size w.heap.size g wr l1 rest) ∧ Hid (ROwnF entK (fun k => w1.heap.size ≤ k) w1.heap.size 29 wr ov out) ∧ Hid (Below w.heap.size w wr ∧ w1.heap.size ≤ wr.heap.size))
    case atStart => exact ⟨[], allOf rs, l, rfl, rfl, HM.out, ROwnF.nil _ _ _ _ _, HW1.out, Nat.le_refl _⟩
    case round =>
      obtain ⟨out, rest, l1, hn, HE, HM1, HRO, HWr⟩ := hrel
      have HNN := Lib.hid hn
      clear hn HM
      obtain ⟨oa, oc, rfl⟩ := HRO.out.isSlice
      cases rest with
      | nil =>
        go_wp2_with fail
        refine Calls.mono (next_none HM1.out.bare) ?_
        rintro _ w2 ⟨rfl, hb2⟩
        have HF : Hid (Rw entK (fun k => False ∨ w.heap.size ≤ k) (w2.alloc (.cells #[.slice none 0 0, .int .u64 0, .int .i64 0, .slice none 0 0] 29)) (.slice oa out.length oc) (refAll rs)) := by
          rw [HR.out, HE.out, List.append_nil]
          have h5 := ((HRO.out.below hb2).below ((Below.refl _ _).alloc (Nat.le_refl _) (.cells #[.slice none 0 0, .int .u64 0, .int .i64 0, .slice none 0 0] 29))).rows
          refine h5.mono fun k _ hk => .inr ?_
          have := HW1.out.size
          rcases hk with hk | hk
          · have := (HRO.out.lt k hk).1; omega
          · have := hk.1; omega
        have HW2 : Hid (Below w.heap.size w w2) := HWr.out.1.trans (hb2.mono HWr.out.1.size)
        clear hb2 HRO
        generalize out.length = q at *
        go_wp2_with fail
        go_ret2
        exact ⟨_, ret2_of rfl (int_eq HC.out.symm), HF.out, HW2.out.alloc HW2.out.size _⟩
      | cons e rest =>
        go_wp2_with fail
        refine Calls.mono (mnext_any HM1.out) ?_
        rintro _ w2 ⟨k, y, l2, rfl, hk, hy, hm2, hw2⟩
        obtain ⟨ka, kc, rfl⟩ := hk.isSlice
        obtain ⟨ya, yc, rfl⟩ := hy.isSlice
        have hlow := HM1.out.low
        have hsz := HWr.out.2
        have HM2 := Lib.hid hm2
        have HK2 := Lib.hid hk
        have HY2 := Lib.hid hy
        have HRO2 : Hid (ROwnF entK (fun k => w1.heap.size ≤ k) w1.heap.size 29 w2 (.slice oa out.length oc) out) := HRO.out.keep fun j hj e => hw2.block j hj fun e2 => by
          have hlo : w1.heap.size ≤ j := by
            rcases e with e | e
            · exact (HRO.out.lt j e).1
            · exact e.1
          rcases e2 with e2 | e2
          · omega
          · have := hlow.2 j e2; omega
        have HLT : Hid (∀ j, (Value.slice oa out.length oc).ownBlock = some j → j < wr.heap.size) := fun j e => (HRO.out.lt j e).2
        have HB2 : Hid (Below w.heap.size w w2 ∧ w1.heap.size ≤ w2.heap.size) := ⟨HWr.out.1.trans (hw2.below HWr.out.1.size fun j e => by
          rcases e with e | e
          · omega
          · obtain ⟨⟨v1, hv1, hg1⟩, _⟩ := HM1.out
            exact (hv1.own.lt j (by rw [hg1]; exact e)).1), Nat.le_trans hsz hw2.size⟩
        have HLen : Hid (out.length < 1000000) := by
          have h5 := congrArg List.length HE.out
          rw [List.length_append] at h5
          have := HLA.out
          show _ < _
          omega
        clear hk hy hm2 hw2 HRO hlow
        unfold entCells
        go_upto_region 6 with fail
        refine wp_gen fun w3 hw3 => ?_
        have HB3 : Hid (Below w2.heap.size w2 w3) := by rw [hw3]; exact (Below.refl _ _).alloc (Nat.le_refl _) _
        have HS3 : Hid (Blk w3 w2.heap.size (entCells e (.slice ka e.key.length kc) (.slice ya e.value.length yc)).toArray 29) := by rw [hw3]; exact Blk.at_new rfl rfl
        clear hw3
        have q0 : w3.cell? ⟨w2.heap.size, 0, none⟩ = some (.slice ka e.key.length kc) := HS3.out.cell rfl
        have q1 : w3.cell? ⟨w2.heap.size, 1, none⟩ = some (.int .u64 e.seq) := HS3.out.cell rfl
        have q2 : w3.cell? ⟨w2.heap.size, 2, none⟩ = some (.int .i64 e.kind) := HS3.out.cell rfl
        have q3 : w3.cell? ⟨w2.heap.size, 3, none⟩ = some (.slice ya e.value.length yc) := HS3.out.cell rfl
        go_wp2_with (with_reducible refine pause_append ?_)
        refine list_gen fun w4 hw4 => ?_
        have HB4 : Hid (Below w3.heap.size w3 w4) := by rw [hw4]; exact (Below.refl _ _).alloc (Nat.le_refl _) _
        have HS4 : Hid (Blk w4 w3.heap.size (entCells e (.slice ka e.key.length kc) (.slice ya e.value.length yc)).toArray 29) := by rw [hw4]; exact Blk.at_new rfl rfl
        clear hw4 q0 q1 q2 q3
        have HB24 : Hid (Below w2.heap.size w2 w4) := HB3.out.trans (HB4.out.mono HB3.out.size)
        have HRO4 := Lib.hid (HRO2.out.below HB24.out)
        have HN4 : Hid (w1.heap.size ≤ w4.heap.size) := Nat.le_trans HB2.out.2 HB24.out.size
        refine Pause.go (wpList_append_elF (K := entK) 31 29 _ 64 Try.underlying31 info_entO rfl (fun k => w1.heap.size ≤ k) w1.heap.size (.slice oa out.length oc) out w3.heap.size 29 _ e rfl _ _ rfl rfl rfl HRO4.out HS4.out
          ⟨_, _, rfl, (HK2.out.below HB24.out).mono fun j _ hj => ⟨Nat.le_trans HWr.out.2 hj, fun e1 => by have := HLT.out j e1; omega⟩, (HY2.out.below HB24.out).mono fun j _ hj => ⟨Nat.le_trans HWr.out.2 hj, fun e1 => by have := HLT.out j e1; omega⟩⟩ HLen.out (by decide) HN4.out ?_)
        intro v5 w5 hro hg
        have HB5 : Hid (Below w1.heap.size w2 w5) := (HB24.out.mono HB2.out.2).trans (hg.below HN4.out fun k e0 => (HRO4.out.lt k e0).1)
        have HRO5 := Lib.hid hro
        have HM5 := Lib.hid (HM2.out.below HB5.out)
        have HW5 : Hid (Below w.heap.size w w5 ∧ w1.heap.size ≤ w5.heap.size) := ⟨HB2.out.1.trans (HB5.out.mono HW1.out.size), Nat.le_trans HB2.out.2 HB5.out.size⟩
        have HE5 : Hid (allOf rs = (out ++ [e]) ++ rest) := by show _ = _; rw [HE.out, List.append_assoc]; rfl
        clear hro hg HRO4 HRO2 HM2 HS4 HS3 HK2 HY2
        go_wp2_with fail
        go_roundg rest.length
        case measure => rw [HNN.out]; exact Nat.lt_succ_self _
        case rel => exact ⟨out ++ [e], rest, l2, rfl, HE5.out, HM5.out, HRO5.out, HW5.out⟩
  · have HC := Lib.hid hc
    have hp := hbad (by rw [hc]; decide)
    subst hp
    rw [hc]
    clear hc hgood hbad
    go_wp2_with fail
    go_ret2
    exact ⟨_, ret2_of rfl (int_eq HC.out.symm), by unfold refAll; rw [if_neg (by rw [HC.out]; decide)]; exact Rw.nil _ _ _, HW1.out⟩
end Go.Proofs.Ytmpapipobjoboaa
