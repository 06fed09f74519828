/- Chapter 12's document: put. -/
import Derived.Test.YtkcohhldmhdcfaaVgC
import Derived.Test.YtkcohhldmhdcfaaVfK
namespace Go.Proofs.Ytkcohhldmhdcfaa
open Go.RowKit

theorem rbefore_at {b : Bool} (F G : Nat → Prop) (va : Value) (xs : List UInt8) (vb : Value) (ys : List UInt8) (w : World) (ha : Bytes F w va xs) (hb : Bytes G w vb ys) (h : Op.bytesLess xs ys = b) :
    Calls Try.prog 87 #[va, vb] w fun e w' => e = .returned (.bool b) ∧ ∃ n, w' = w.drewN n := by subst h; exact rbefore_any F G va xs vb ys w ha hb
theorem Blk.grown {W w' : World} {k : Nat} {c : Array Value} {T : TypeId} {v : Value} (h : Blk W k c T) (hsm : ∀ k, k < W.heap.size → v.ownBlock ≠ some k → w'.heap[k]? = W.heap[k]?) (hne : v.ownBlock ≠ some k) : Blk w' k c T := h.same (hsm k h.lt hne)
theorem low_num {f x : Fil} : lowB 0 f x = decide (x.num < f.num) := by unfold lowB; rw [if_pos rfl]
theorem low_key {lev : Int} {f x : Fil} (h : lev ≠ 0) : lowB lev f x = Op.bytesLess x.least f.least := by unfold lowB; rw [if_neg h, rbef_bcmp]
set_option maxRecDepth 100000 in
set_option maxHeartbeats 1000000 in
theorem rputF_any (F G : Nat → Prop) (v vk vv : Value) (l : List Fil) (lev : Int) (f : Fil) (w : World) (h : Rw filK F w v l) (hk : Bytes G w vk f.least) (hv : Bytes G w vv f.most) (hwf : f.wf) (hfew : l.length ≤ 400000) (hlev : 0 ≤ lev) :
    Calls Try.prog 81 #[v, .agg (filCells f vk vv).toArray, .int .i64 lev] w fun e w' => ∃ r, e = .returned r ∧ Rw filK (fun k => w.heap.size ≤ k ∨ (F k ∨ G k)) w' r (putTo l lev f) ∧ Below w.heap.size w w' := by
  obtain ⟨xa, ca, rfl⟩ := h.isSlice
  obtain ⟨ka, kc, rfl⟩ := hk.isSlice
  obtain ⟨va, vc, rfl⟩ := hv.isSlice
  have HA := Lib.hid h
  have HK := Lib.hid hk
  have HV := Lib.hid hv
  have HWF := Lib.hid hwf
  clear h hk hv hwf
  obtain ⟨n, hn⟩ : ∃ n, l.length = n := ⟨_, rfl⟩
  have HN := Lib.hid hn
  rw [hn] at HA hfew
  rw [hn]
  clear hn
  unfold filCells
  go_enter Try.func81, Try.ntmps81
  go_upto_region 1 with fail
  refine wp_gen fun w1 hw1 => ?_
  have HW1 : Hid (Below w.heap.size w w1) := by rw [hw1]; exact (Below.refl _ _).alloc (Nat.le_refl _) _
  have HE1 : Hid (Blk w1 w.heap.size (filCells f (.slice ka f.least.length kc) (.slice va f.most.length vc)).toArray 42) := by rw [hw1]; exact Blk.at_new rfl rfl
  clear hw1
  go_upto_block 0 with fail
  go_cut [7] from 8 to 41 (fun iv wx => ∃ i : Nat, iv = .int .i64 (i : Int) ∧ Hid (FirstF (fun x => !lowB lev f x) l i) ∧ Hid (Below w.heap.size w wx) ∧ Hid (Blk wx w.heap.size (filCells f (.slice ka f.least.length kc) (.slice va f.most.length vc)).toArray 42))
  case first =>
    go_wp2_with fail
    go_loopw [7] (fun iv wr => ∃ i : Nat, iv = .int .i64 (i : Int) ∧ i ≤ n ∧ Hid (∀ j, j < i → (!lowB lev f (fat l j)) = false) ∧ Hid (Below w.heap.size w wr) ∧ Hid (Blk wr w.heap.size (filCells f (.slice ka f.least.length kc) (.slice va f.most.length vc)).toArray 42)) (fun iv _ => n - (intOf iv).toNat)
    case atStart => exact ⟨0, rfl, by omega, (fun j hj => absurd hj (by omega)), HW1.out, HE1.out⟩
    case round =>
      obtain ⟨i, rfl, hi, HL, HB, HE⟩ := hrel
      clear HW1 HE1
      by_cases hlt : i < n
      · have t1 : (i : Int) < (n : Int) := by omega
        have t3 : 0 ≤ (i : Int) := by omega
        have hl1 : i < l.length := by rw [HN.out]; omega
        obtain ⟨bf, of, rfl, fa, fc, ga, gc, hp1, hp2, hp6⟩ := file_at (HA.out.below HB.out) HN.out hlt
        obtain ⟨g, hg⟩ : ∃ g, fat l i = g := ⟨_, rfl⟩
        have HG := Lib.hid hg
        have HIL := Lib.hid hl1
        rw [hg] at hp1 hp2 hp6
        have HP1 := Lib.hid hp1
        have HK2 := Lib.hid (HK.out.below HB.out)
        obtain ⟨d0, d1, d2, d3, d4, d5⟩ := hp6
        obtain ⟨e0, e1, e2, e3, e4, e5⟩ := C6.blk HE.out
        clear hp1 hp2 hg hl1
        have HNX : Hid (lowB lev f g = true → ∀ j, j < i + 1 → (!lowB lev f (fat l j)) = false) := fun hb j hj => by
          by_cases e : j = i
          · rw [e, HG.out, hb]; rfl
          · exact HL.out j (by omega)
        have HFF : Hid (lowB lev f g = false → FirstF (fun x => !lowB lev f x) l i) := fun hb => ⟨Nat.le_of_lt HIL.out, HL.out, fun _ => by rw [HG.out, hb]; rfl⟩
        by_cases h0 : lev = 0
        · have g0 : (lev == 0) = true := by simpa using h0
          have g1 : decide (0 < lev) = false := by simp; omega
          have HLW : Hid (lowB lev f g = decide (g.num < f.num)) := by show _ = _; rw [h0, low_num]
          clear h0 hlev
          by_cases hc : g.num < f.num
          · have HS2 := Lib.hid (HNX.out (by rw [HLW.out]; exact decide_eq_true hc))
            clear HNX HFF
            go_wp2_with fail
            go_quiet (fail)
            all_goals
              go_wp2_with fail
              go_roundw
              · exact ⟨i + 1, by go_num, by omega, HS2.out, below_dn HB.out _, HE.out⟩
              · simp only [intOf]; omega
          · have HP := Lib.hid (HFF.out (by rw [HLW.out]; exact decide_eq_false hc))
            have g2 : decide (g.num < f.num) = false := decide_eq_false hc
            clear HNX HFF hc
            go_wp2_with fail
            go_quiet (fail)
            all_goals
              go_wp2_with fail
              go_meet
              exact ⟨i, rfl, HP.out, below_dn HB.out _, HE.out⟩
        · have g0 : (lev == 0) = false := by simpa using h0
          have g1 : 0 < lev := by omega
          rw [low_key h0] at HNX HFF
          obtain ⟨b, hb⟩ : ∃ b, Op.bytesLess g.least f.least = b := ⟨_, rfl⟩
          have HBL := Lib.hid hb
          rw [hb] at HNX HFF
          clear hb h0
          cases b with
          | true =>
            have HS2 := Lib.hid (HNX.out rfl)
            clear HNX HFF
            go_wp2_with fail
            go_quiet ((go_at_call 87; refine Calls.quiet_of (rbefore_at (b := true) _ _ _ _ _ _ _ (HP1.out.keep (fun _ _ _ => rfl)) (HK2.out.keep (fun _ _ _ => rfl)) HBL.out)))
            all_goals
              go_wp2_with fail
              go_roundw
              · exact ⟨i + 1, by go_num, by omega, HS2.out, below_dn HB.out _, HE.out⟩
              · simp only [intOf]; omega
          | false =>
            have HP := Lib.hid (HFF.out rfl)
            clear HNX HFF
            go_wp2_with fail
            go_quiet ((go_at_call 87; refine Calls.quiet_of (rbefore_at (b := false) _ _ _ _ _ _ _ (HP1.out.keep (fun _ _ _ => rfl)) (HK2.out.keep (fun _ _ _ => rfl)) HBL.out)))
            all_goals
              go_wp2_with fail
              go_meet
              exact ⟨i, rfl, HP.out, below_dn HB.out _, HE.out⟩
      · have t1 : decide ((i : Int) < (n : Int)) = false := by simp; omega
        have t2 : ¬ i < n := hlt
        have HP : Hid (FirstF (fun x => !lowB lev f x) l i) := ⟨by rw [HN.out]; exact hi, HL.out, fun h => absurd h (by rw [HN.out]; exact hlt)⟩
        go_wp2_with fail
        go_quiet (fail)
        all_goals
          go_wp2_with fail
          go_meet
          exact ⟨i, rfl, HP.out, below_dn HB.out _, HE.out⟩
  case rest =>
    obtain ⟨i, rfl, HP, HB, HE⟩ := hcut
    clear HW1 HE1
    have HPT : Hid (putTo l lev f = insAt l i f) := by show _ = _; unfold putTo; rw [FirstF.idx HP.out]
    have hin : i ≤ n := by rw [← HN.out]; exact HP.out.le
    have hil : i ≤ l.length := HP.out.le
    have hA : Rw filK (fun k => (F k ∨ G k) ∧ k < wc.heap.size) wc (.slice xa n ca) l := (HA.out.below HB.out).mono fun k hk h => ⟨.inl h, hk⟩
    obtain ⟨s1, hs1, hw1⟩ := hA.slice_h under_filsP size_filsP i hil
    obtain ⟨s2, hs2, hw2⟩ := hA.slice_l under_filsP size_filsP i hil
    obtain ⟨p1, q1, hv1⟩ := hw1.isSlice
    obtain ⟨p2, q2, hv2⟩ := hw2.isSlice
    rw [List.length_take, Nat.min_eq_left hil] at hv1
    rw [List.length_drop, HN.out] at hv2
    subst hv1 hv2
    obtain ⟨cs1, hsl1, hel1⟩ := hw1
    obtain ⟨cs2, hsl2, hel2⟩ := hw2
    have HSL1 := Lib.hid hsl1
    have HEL1 := Lib.hid hel1
    have HSL2 := Lib.hid hsl2
    have HEL2 := Lib.hid hel2
    have HTK : Hid ((l.take i).length = i) := by show _ = _; rw [List.length_take, Nat.min_eq_left hil]
    have HTK7 : Hid ((l.take i ++ [f]).length = i + 1) := by show _ = _; rw [List.length_append, HTK.out, List.length_singleton]
    have HTK11 : Hid ((l.take i ++ [f] ++ l.drop i).length = n + 1) := by show _ = _; rw [List.length_append, HTK7.out, List.length_drop, HN.out]; omega
    have HLM1 : Hid (([] : List Fil).length + (l.take i).length ≤ 1000000) := by show _ ≤ _; rw [List.length_nil, List.length_take]; omega
    have HLM2 : Hid ((l.take i).length < 1000000) := by show _ < _; rw [List.length_take]; omega
    have HLM3 : Hid ((l.take i ++ [f]).length + (l.drop i).length ≤ 1000000) := by show _ ≤ _; rw [List.length_append, List.length_take, List.length_drop, List.length_singleton, HN.out]; omega
    have HKC : Hid (Bytes (fun k => (F k ∨ G k) ∧ k < wc.heap.size) wc (.slice ka f.least.length kc) f.least) := (HK.out.below HB.out).mono fun k hk h => ⟨.inr h, hk⟩
    have HVC : Hid (Bytes (fun k => (F k ∨ G k) ∧ k < wc.heap.size) wc (.slice va f.most.length vc) f.most) := (HV.out.below HB.out).mono fun k hk h => ⟨.inr h, hk⟩
    have HZB : Hid (w.heap.size < wc.heap.size) := HE.out.lt
    have k0 : wc.cell? ⟨w.heap.size, 0, none⟩ = some (.int .u64 f.num) := HE.out.cell rfl
    have k1 : wc.cell? ⟨w.heap.size, 1, none⟩ = some (.int .i64 f.size) := HE.out.cell rfl
    have k2 : wc.cell? ⟨w.heap.size, 2, none⟩ = some (.slice ka f.least.length kc) := HE.out.cell rfl
    have k3 : wc.cell? ⟨w.heap.size, 3, none⟩ = some (.slice va f.most.length vc) := HE.out.cell rfl
    have k4 : wc.cell? ⟨w.heap.size, 4, none⟩ = some (.int .i64 f.ents) := HE.out.cell rfl
    have k5 : wc.cell? ⟨w.heap.size, 5, none⟩ = some (.int .u64 f.mseq) := HE.out.cell rfl
    have z0 : ∀ o, (wc.alloc o).cell? ⟨w.heap.size, 0, none⟩ = some (.int .u64 f.num) := fun o => (HE.out.alloc o).cell rfl
    have z1 : ∀ o, (wc.alloc o).cell? ⟨w.heap.size, 1, none⟩ = some (.int .i64 f.size) := fun o => (HE.out.alloc o).cell rfl
    have z2 : ∀ o, (wc.alloc o).cell? ⟨w.heap.size, 2, none⟩ = some (.slice ka f.least.length kc) := fun o => (HE.out.alloc o).cell rfl
    have z3 : ∀ o, (wc.alloc o).cell? ⟨w.heap.size, 3, none⟩ = some (.slice va f.most.length vc) := fun o => (HE.out.alloc o).cell rfl
    have z4 : ∀ o, (wc.alloc o).cell? ⟨w.heap.size, 4, none⟩ = some (.int .i64 f.ents) := fun o => (HE.out.alloc o).cell rfl
    have z5 : ∀ o, (wc.alloc o).cell? ⟨w.heap.size, 5, none⟩ = some (.int .u64 f.mseq) := fun o => (HE.out.alloc o).cell rfl
    generalize w.heap.size = zb at HZB k0 k1 k2 k3 k4 k5 z0 z1 z2 z3 z4 z5 ⊢
    have t4 : (i : Int) ≤ (n : Int) := by omega
    have t5 : 0 ≤ (i : Int) := by omega
    clear hsl1 hel1 hsl2 hel2 hA hil hin
    go_wp2_with fail
    go_region_law (first
      | (refine step_append_at (K := filK) rfl 33 42 _ 80 under_fils info_filO rfl (fun k => (F k ∨ G k) ∧ k < wc.heap.size) wc _ _ (l.take i ++ [f]) (.slice p2 (n - i) q2) (l.drop i) (.tmp 49) (.tmp 52) rfl (by rfl) (by rfl) h71 h72 cs2 _ _ HSL2.out HEL2.out (fun _ _ h => h) (fun _ h => h.2) HLM3.out (by decide) ?_; intro v11 w11 h111 h112 _; obtain ⟨a11, c11, e11⟩ := h111.isSlice; rw [HTK11.out] at e11; subst e11)
      | (refine step_append_one_at (K := filK) rfl 33 42 _ 80 under_fils info_filO rfl (fun k => (F k ∨ G k) ∧ k < wc.heap.size) wc (w4.alloc (.cells #[.int .u64 f.num, .int .i64 f.size, .slice ka f.least.length kc, .slice va f.most.length vc, .int .i64 f.ents, .int .u64 f.mseq] 42)) _ (l.take i) w4.heap.size #[.int .u64 f.num, .int .i64 f.size, .slice ka f.least.length kc, .slice va f.most.length vc, .int .i64 f.ents, .int .u64 f.mseq] f (.tmp 46) (.tmp 48) rfl (by rfl) (by rfl) (h41.below ((Below.refl _ _).alloc (Nat.le_refl _) _)) (below_al h42 _) (Blk.at_new rfl rfl) _ ⟨_, _, rfl, HKC.out, HVC.out, HWF.out⟩ (fun _ _ h => h) (fun _ h => h.2) HLM2.out (by decide) ?_; intro v7 w7 h71 h72; obtain ⟨a7, c7, e7⟩ := h71.isSlice; rw [HTK7.out] at e7; subst e7)
      | (refine step_append_one_at (K := filK) rfl 33 42 _ 80 under_fils info_filO rfl (fun k => (F k ∨ G k) ∧ k < wc.heap.size) wc w4 _ (l.take i) _ #[.int .u64 f.num, .int .i64 f.size, .slice ka f.least.length kc, .slice va f.most.length vc, .int .i64 f.ents, .int .u64 f.mseq] f (.tmp 46) (.tmp 48) rfl (by rfl) (by rfl) h41 h42 hE4 _ ⟨_, _, rfl, HKC.out, HVC.out, HWF.out⟩ (fun _ _ h => h) (fun _ h => h.2) HLM2.out (by decide) ?_; intro v7 w7 h71 h72; obtain ⟨a7, c7, e7⟩ := h71.isSlice; rw [HTK7.out] at e7; subst e7)
      | (refine step_append_at (K := filK) rfl 33 42 _ 80 under_fils info_filO rfl (fun k => (F k ∨ G k) ∧ k < wc.heap.size) wc (wc.alloc (.cells #[] 42)).drew (.slice (some ⟨wc.heap.size, 0, none⟩) 0 0) [] (.slice p1 i q1) (l.take i) (.tmp 42) (.tmp 45) rfl (by rfl) (by rfl) (RO.newP (Nat.le_refl _)) (below_drew (below_al (Below.refl _ _) _)) cs1 _ _ HSL1.out HEL1.out (fun _ _ h => h) (fun _ h => h.2) HLM1.out (by decide) ?_; intro v4 w4 h41 h42 h43; rw [List.nil_append] at h41; obtain ⟨a4, c4, e4⟩ := h41.isSlice; rw [HTK.out] at e4; subst e4; have y0 := (h42.cell (p := ⟨zb, 0, none⟩) HZB.out).trans k0; have y1 := (h42.cell (p := ⟨zb, 1, none⟩) HZB.out).trans k1; have y2 := (h42.cell (p := ⟨zb, 2, none⟩) HZB.out).trans k2; have y3 := (h42.cell (p := ⟨zb, 3, none⟩) HZB.out).trans k3; have y4 := (h42.cell (p := ⟨zb, 4, none⟩) HZB.out).trans k4; have y5 := (h42.cell (p := ⟨zb, 5, none⟩) HZB.out).trans k5; skip)
      | (refine step_append_at (K := filK) rfl 33 42 _ 80 under_fils info_filO rfl (fun k => (F k ∨ G k) ∧ k < wc.heap.size) wc ((wc.alloc (.cells #[] 42)).alloc (.cells #[.int .u64 f.num, .int .i64 f.size, .slice ka f.least.length kc, .slice va f.most.length vc, .int .i64 f.ents, .int .u64 f.mseq] 42)).drew (.slice (some ⟨wc.heap.size, 0, none⟩) 0 0) [] (.slice p1 i q1) (l.take i) (.tmp 42) (.tmp 45) rfl (by rfl) (by rfl) (RO.newP (Nat.le_refl _)) (below_drew (below_al (below_al (Below.refl _ _) _) _)) cs1 _ _ HSL1.out HEL1.out (fun _ _ h => h) (fun _ h => h.2) HLM1.out (by decide) ?_; intro v4 w4 h41 h42 h43; rw [List.nil_append] at h41; obtain ⟨a4, c4, e4⟩ := h41.isSlice; rw [HTK.out] at e4; subst e4; have y0 := (h42.cell (p := ⟨zb, 0, none⟩) HZB.out).trans k0; have y1 := (h42.cell (p := ⟨zb, 1, none⟩) HZB.out).trans k1; have y2 := (h42.cell (p := ⟨zb, 2, none⟩) HZB.out).trans k2; have y3 := (h42.cell (p := ⟨zb, 3, none⟩) HZB.out).trans k3; have y4 := (h42.cell (p := ⟨zb, 4, none⟩) HZB.out).trans k4; have y5 := (h42.cell (p := ⟨zb, 5, none⟩) HZB.out).trans k5; have hE4 : Blk w4 (wc.heap.size + 1) #[.int .u64 f.num, .int .i64 f.size, .slice ka f.least.length kc, .slice va f.most.length vc, .int .i64 f.ents, .int .u64 f.mseq] 42 := Blk.grown (Blk.drewP (Blk.at_new (World.size_alloc _ _).symm rfl)) h43 (fun e0 => absurd (show wc.heap.size = wc.heap.size + 1 from Option.some.inj e0) (by omega)))
      | (refine step_append_at (K := filK) rfl 33 42 _ 80 under_fils info_filO rfl (fun k => (F k ∨ G k) ∧ k < wc.heap.size) wc ((wc.alloc (.cells #[.int .u64 f.num, .int .i64 f.size, .slice ka f.least.length kc, .slice va f.most.length vc, .int .i64 f.ents, .int .u64 f.mseq] 42)).alloc (.cells #[] 42)).drew (.slice (some ⟨wc.heap.size + 1, 0, none⟩) 0 0) [] (.slice p1 i q1) (l.take i) (.tmp 42) (.tmp 45) rfl (by rfl) (by rfl) (RO.newP (Nat.le_succ _)) (below_drew (below_al (below_al (Below.refl _ _) _) _)) cs1 _ _ HSL1.out HEL1.out (fun _ _ h => h) (fun _ h => h.2) HLM1.out (by decide) ?_; intro v4 w4 h41 h42 h43; rw [List.nil_append] at h41; obtain ⟨a4, c4, e4⟩ := h41.isSlice; rw [HTK.out] at e4; subst e4; have y0 := (h42.cell (p := ⟨zb, 0, none⟩) HZB.out).trans k0; have y1 := (h42.cell (p := ⟨zb, 1, none⟩) HZB.out).trans k1; have y2 := (h42.cell (p := ⟨zb, 2, none⟩) HZB.out).trans k2; have y3 := (h42.cell (p := ⟨zb, 3, none⟩) HZB.out).trans k3; have y4 := (h42.cell (p := ⟨zb, 4, none⟩) HZB.out).trans k4; have y5 := (h42.cell (p := ⟨zb, 5, none⟩) HZB.out).trans k5; have hE4 : Blk w4 wc.heap.size #[.int .u64 f.num, .int .i64 f.size, .slice ka f.least.length kc, .slice va f.most.length vc, .int .i64 f.ents, .int .u64 f.mseq] 42 := Blk.grown (Blk.drewP ((Blk.at_new rfl rfl).alloc _)) h43 (fun e0 => absurd (show wc.heap.size + 1 = wc.heap.size from Option.some.inj e0) (by omega))))
    all_goals
      go_wp2_with fail
      go_ret
      exact ⟨_, rfl, by rw [HPT.out]; show Rw _ _ _ _ _; rw [show insAt l i f = l.take i ++ [f] ++ l.drop i by unfold insAt; simp]; exact h111.rows.mono fun k _ h => h.elim (fun e0 => .inl (Nat.le_trans HB.out.size (h111.base_le k e0))) (fun h => .inr h.1.1), (HB.out.trans (h112.mono HB.out.size))⟩
end Go.Proofs.Ytkcohhldmhdcfaa
