/- The law PickSound: its walk. -/
import Derived.Test.YtkcohhldmhdcfaaPkO
namespace Go.Proofs.Ytkcohhldmhdcfaa
open Go.RowKit

/-- What lies in memory while the job is looked at. -/
structure SAt (b1 b2 jb : Nat) (v : Ver) (lv : Value) (s : Stp) (jc : List Value) (w0 w : World) : Prop where
  bx : Boxed w b1 b2 v lv s
  j : Blk w jb jc.toArray 36
  bel : Below w0.heap.size w0 w
theorem SAt.below {b1 b2 jb : Nat} {v : Ver} {lv : Value} {s : Stp} {jc : List Value} {w0 w w' : World} (h : SAt b1 b2 jb v lv s jc w0 w) (hb : Below w.heap.size w w') : SAt b1 b2 jb v lv s jc w0 w' :=
  ⟨h.bx.below hb, h.j.below hb h.j.lt, h.bel.trans (hb.mono h.bel.size)⟩
theorem bool_f {p x y : Bool} (h : false = (p && !x)) : false = (p && !(x || y)) := by cases p <;> cases x <;> cases y <;> first | rfl | exact h
theorem bool_t {p x r : Bool} (h : true = (p && !x)) : (!r) = (p && !(x || r)) := by cases p <;> cases x <;> cases r <;> first | rfl | exact absurd h (by decide)
/-- A file at its place, in any later memory. -/
theorem fil_at {F : Nat → Prop} {w : World} {a : Option Addr} {n c : Nat} {l : List Fil} (h : Rw filK F w (.slice a n c) l) (hn : l.length = n) {k : Nat} (hk : k < n) :
    ∃ b o, a = some ⟨b, o, none⟩ ∧ ∃ la lc ma mc, Bytes F w (.slice la (fat l k).least.length lc) (fat l k).least ∧ Bytes F w (.slice ma (fat l k).most.length mc) (fat l k).most ∧ C6 b (o + k * 6) (fat l k) (.slice la (fat l k).least.length lc) (.slice ma (fat l k).most.length mc) w := by
  obtain ⟨b, o, cap, e, _, _, hc⟩ := fils_at h (by omega)
  obtain ⟨vl, vm, h1, h2, _, h6⟩ := hc k (by omega)
  injection e with e1 e2 e3
  obtain ⟨la, lc, rfl⟩ := h1.isSlice
  obtain ⟨ma, mc, rfl⟩ := h2.isSlice
  exact ⟨b, o, e1, la, lc, ma, mc, h1, h2, h6⟩

theorem overlaps_at {r : Bool} (F G F' G' : Nat → Prop) (a b : Fil) (al am bl bm : Value) (w : World) (h1 : Bytes F w al a.least) (h2 : Bytes G w am a.most) (h3 : Bytes F' w bl b.least) (h4 : Bytes G' w bm b.most) (hr : ovl a b = r) :
    Calls Try.prog 16 #[.agg (filCells a al am).toArray, .agg (filCells b bl bm).toArray] w fun e w' => e = .returned (.bool r) ∧ Below w.heap.size w w' := by subst hr; exact overlaps_any F G F' G' a b al am bl bm w h1 h2 h3 h4
theorem among_yes (F : Nat → Prop) (v : Value) (l : List Fil) (f : Fil) (vl vm : Value) (w : World) (h : Rw filK F w v l) (hfew : l.length ≤ 1000000) (hf : f ∈ l) :
    Calls Try.prog 15 #[v, .agg (filCells f vl vm).toArray] w fun e w' => e = .returned (.bool true) ∧ Below w.heap.size w w' := by
  have := among_any F v l f vl vm w h hfew
  rw [amg_of hf] at this
  exact this
set_option maxRecDepth 100000 in
set_option maxHeartbeats 16000000 in
theorem pickSound_any (F : Nat → Prop) (v : Ver) (s : Stp) (lv : Value) (w : World) (h : Rw (rowK filK) F w lv v.levels) (hw : v.wf) (hle : v.levels.length ≤ 140737488355328) (hn : ∀ i, i < v.levels.length → (lat v.levels i).length ≤ 140737488355328) :
    Calls Try.prog 3 #[.agg (verCells v lv).toArray, .agg (stpCells s).toArray] w fun e w' => e = .returned (.bool true) ∧ Below w.heap.size w w' := by
  have HSM := Lib.hid (fun w' (hb : Below w.heap.size w w') => psmall_any F v lv w' (h.below hb) hle hn)
  have HCK := Lib.hid (fun (hc : cntTo v.levels v.levels.length ≤ 100) w' (hb : Below w.heap.size w w') => rcheck_any F v lv w' (h.below hb) hw (by omega))
  have HNX := Lib.hid (fun (hc : cntTo v.levels v.levels.length ≤ 100) w' (hb : Below w.heap.size w w') => next_any F v s lv w' (h.below hb) hw (by omega))
  have HRE := Lib.hid (fun (hc : cntTo v.levels v.levels.length ≤ 100) w' (hb : Below w.heap.size w w') => rest_any F v s lv w' (h.below hb) hw (by omega))
  have HST := Lib.hid (fun w' => setup_any s w')
  have HA := Lib.hid h
  obtain ⟨xa, ca, rfl⟩ := h.isSlice
  clear h hw hle hn
  obtain ⟨m, hm⟩ : ∃ m, v.levels.length = m := ⟨_, rfl⟩
  have HM := Lib.hid hm
  rw [hm] at HSM HCK HNX HRE HA ⊢
  clear hm
  unfold verCells at HSM HCK HNX HRE ⊢
  unfold stpCells at HNX HRE HST ⊢
  go_enter Try.func3, Try.ntmps3
  go_upto_region 1 with fail
  refine wp_gen fun w1 hw1 => ?_
  have HX1 : Hid (Boxed w1 w.heap.size (w.heap.size + 1) v (.slice xa m ca) s) := by rw [hw1]; exact boxed_two _ _ _ _
  have HW1 : Hid (Below w.heap.size w w1) := by rw [hw1]; exact below_two _ _ _
  clear hw1
  obtain ⟨b1, hb1⟩ : ∃ b, w.heap.size = b := ⟨_, rfl⟩
  obtain ⟨b2, hb2⟩ : ∃ b, w.heap.size + 1 = b := ⟨_, rfl⟩
  rw [hb2, hb1] at HX1 ⊢
  clear hb1 hb2
  go_wp2_with fail
  refine Calls.mono (plives_any w1) ?_
  rintro _ w2 ⟨rfl, hb⟩
  have HX2 := Lib.hid (HX1.out.below hb)
  have HW2 : Hid (Below w.heap.size w w2) := HW1.out.trans (hb.mono HW1.out.size)
  clear hb HX1 HW1
  obtain ⟨x0, x1, x2, x3, -, -, -⟩ := HX2.out.cells
  go_wp2_with fail
  clear x0 x1 x2 x3
  refine Calls.mono (HSM.out _ HW2.out) ?_
  rintro _ w3 ⟨sm, rfl, hsm, hb⟩
  have HX3 := Lib.hid (HX2.out.below hb)
  have HW3 : Hid (Below w.heap.size w w3) := HW2.out.trans (hb.mono HW2.out.size)
  clear hb HX2 HW2 HSM
  cases sm with
  | false =>
    clear hsm
    go_wp2_with fail
    go_ret
    exact ⟨rfl, HW3.out⟩
  | true =>
  obtain ⟨-, hcn⟩ := hsm rfl
  rw [HM.out] at hcn
  have HCK := Lib.hid (HCK.out hcn)
  have HNX := Lib.hid (HNX.out hcn)
  have HRE := Lib.hid (HRE.out hcn)
  clear hsm hcn
  obtain ⟨x0, x1, x2, x3, -, -, -⟩ := HX3.out.cells
  go_wp2_with fail
  clear x0 x1 x2 x3
  refine Calls.mono (HCK.out _ HW3.out) ?_
  rintro _ w4 ⟨rfl, hb⟩
  have HX4 := Lib.hid (HX3.out.below hb)
  have HW4 : Hid (Below w.heap.size w w4) := HW3.out.trans (hb.mono HW3.out.size)
  clear hb HX3 HW3 HCK
  obtain ⟨ck, hck⟩ : ∃ c, chkW v = c := ⟨_, rfl⟩
  have HC := Lib.hid hck
  rw [hck]
  clear hck
  by_cases hc0 : ck = 0
  case neg =>
    have g0 : (ck == 0) = false := by simpa using hc0
    have g1 : (ck != 0) = true := by simpa using hc0
    go_wp2_with fail
    go_ret
    exact ⟨rfl, HW4.out⟩
  subst hc0
  obtain ⟨-, -, -, -, x4, x5, x6⟩ := HX4.out.cells
  go_wp2_with fail
  clear x4 x5 x6
  refine Calls.mono (HST.out _) ?_
  rintro _ w5 ⟨rfl, hb⟩
  have HX5 := Lib.hid (HX4.out.below hb)
  have HW5 : Hid (Below w.heap.size w w5) := HW4.out.trans (hb.mono HW4.out.size)
  clear hb HX4 HW4 HST
  obtain ⟨ck, hck⟩ : ∃ c, stpW s = c := ⟨_, rfl⟩
  have HS := Lib.hid hck
  rw [hck]
  clear hck
  by_cases hc0 : ck = 0
  case neg =>
    have g0 : (ck == 0) = false := by simpa using hc0
    have g1 : (ck != 0) = true := by simpa using hc0
    go_wp2_with fail
    go_ret
    exact ⟨rfl, HW5.out⟩
  subst hc0
  have HMY : Hid (mayW v s = 0) := mayW_of HC.out HS.out
  obtain ⟨x0, x1, x2, x3, x4, x5, x6⟩ := HX5.out.cells
  go_wp2_with fail
  clear x0 x1 x2 x3 x4 x5 x6
  refine Calls.mono (HNX.out _ HW5.out) ?_
  rintro _ w6 ⟨hno, hyes, hb⟩
  have HX6 := Lib.hid (HX5.out.below hb)
  have HW6 : Hid (Below w.heap.size w w6) := HW5.out.trans (hb.mono HW5.out.size)
  clear hb HX5 HW5 HNX
  by_cases hnx : nextW v s = 0
  case neg =>
    obtain ⟨e6, hrs⟩ := next_rest HMY.out hnx
    obtain rfl := hno hnx
    rw [e6]
    have HRS := Lib.hid hrs
    clear hno hyes hnx e6 hrs
    unfold job0 jobC
    go_upto_region 6 with fail
    refine wp_gen fun w7 hw7 => ?_
    have hb7 : Below w6.heap.size w6 w7 := by rw [hw7]; exact (Below.refl _ _).alloc (Nat.le_refl _) _
    clear hw7
    have HX7 := Lib.hid (HX6.out.below hb7)
    have HW7 : Hid (Below w.heap.size w w7) := HW6.out.trans (hb7.mono HW6.out.size)
    clear hb7
    obtain ⟨x0, x1, x2, x3, x4, x5, x6⟩ := HX7.out.cells
    go_wp2_with fail
    clear x0 x1 x2 x3 x4 x5 x6
    refine Calls.mono (HRE.out _ HW7.out) ?_
    rintro _ w8 ⟨rfl, hb⟩
    have HW8 : Hid (Below w.heap.size w w8) := HW7.out.trans (hb.mono HW7.out.size)
    rw [HRS.out]
    clear hb
    go_wp2_with fail
    go_ret
    exact ⟨rfl, HW8.out⟩
  obtain ⟨u, lo, le, mo, rfl, hu, hlo, hl, hmo⟩ := hyes hnx
  obtain ⟨hp, hi4, -, -⟩ := jLev_ok hnx
  have HRS : Hid (restB v s = false) := next_job hnx
  obtain ⟨i, hi⟩ : ∃ i, jLev v s = i := ⟨_, rfl⟩
  rw [hi] at hu hlo hl hmo hp hi4 ⊢
  have HP := Lib.hid hp
  clear hno hyes hnx hi hp
  have HUP : Hid (0 < (jUp v i).length) := jUp_pos HC.out HP.out
  have HUF : Hid ((jUp v i).length ≤ 10001) := Nat.le_trans (jUp_le v i) (by
    have h5 := (good_small HC.out).1
    have := Nat.le_trans (lev_le_cnt (ls := v.levels) (i := 0) (by omega)) (chkW_good HC.out).2.2
    omega)
  have HLF : Hid ((jLo v i).length ≤ 10000) := over_le v _ _ _ HC.out
  have HMS : Hid (1 ≤ (mostOf (jAll v i)).length) := mostOf_some HC.out HP.out (by omega)
  have HSH : Hid (∀ f ∈ lat v.levels i, ∀ g ∈ jUp v i, ovl f g = true → f ∈ jUp v i) := fun f hf g hg => sound_here HC.out HP.out (by omega) hf hg
  have HSN : Hid (∀ f ∈ lat v.levels (i + 1), ∀ g ∈ jUp v i, ovl f g = true → f ∈ jLo v i) := fun f hf g hg => sound_next HC.out (by omega) hf hg
  have HUM : Hid (∀ g ∈ jUp v i, g ∈ lat v.levels i) := jUp_mem HP.out
  have HBE : Hid (jBot v i = clearFrom (leastOf (jAll v i)) (mostOf (jAll v i)) v.levels (i + 2)) := jBot_eq HC.out
  have h5 := (good_small HC.out).1
  have HSZ : Hid (∀ q, q < 5 → (lat v.levels q).length ≤ 10000) := fun q hq => (good_small HC.out).2.1 q (by omega)
  rw [HM.out] at h5
  subst h5
  obtain ⟨U, hU⟩ : ∃ x, jUp v i = x := ⟨_, rfl⟩
  obtain ⟨Lo, hLo⟩ : ∃ x, jLo v i = x := ⟨_, rfl⟩
  obtain ⟨ls, hls⟩ : ∃ x, leastOf (jAll v i) = x := ⟨_, rfl⟩
  obtain ⟨ms, hms⟩ : ∃ x, mostOf (jAll v i) = x := ⟨_, rfl⟩
  obtain ⟨bt, hbt⟩ : ∃ x, jBot v i = x := ⟨_, rfl⟩
  rw [hU] at hu HUP HUF HSH HSN HUM
  rw [hLo] at hlo HLF HSN
  rw [hls] at hl HBE
  rw [hms] at hmo HMS HBE
  rw [hbt] at HBE ⊢
  clear hU hLo hls hms hbt
  obtain ⟨ua, uc, rfl⟩ := hu.isSlice
  obtain ⟨oa, oc, rfl⟩ := hlo.isSlice
  obtain ⟨la, lc, rfl⟩ := hl.isSlice
  obtain ⟨ma, mc, rfl⟩ := hmo.isSlice
  unfold jobC
  go_upto_region 8 with fail
  refine wp_gen fun w7 hw7 => ?_
  have hb7 : Below w6.heap.size w6 w7 := by rw [hw7]; exact (Below.refl _ _).alloc (Nat.le_refl _) _
  have HS7 : Hid (SAt b1 b2 w6.heap.size v (.slice xa 5 ca) s (jobC (i : Int) (.slice ua U.length uc) (.slice oa Lo.length oc) (.slice la ls.length lc) (.slice ma ms.length mc) bt) w w7) := ⟨HX6.out.below hb7, by rw [hw7]; exact Blk.at_new rfl rfl, HW6.out.trans (hb7.mono HW6.out.size)⟩
  have HU7 : Hid (Rw filK Any w7 (.slice ua U.length uc) U) := hu.any.below hb7
  have HO7 : Hid (Rw filK Any w7 (.slice oa Lo.length oc) Lo) := hlo.any.below hb7
  have HL7 : Hid (Bytes Any w7 (.slice la ls.length lc) ls) := hl.any.below hb7
  have HM7 : Hid (Bytes Any w7 (.slice ma ms.length mc) ms) := hmo.any.below hb7
  clear hw7 hb7 hu hlo hl hmo HX6 HW6
  generalize w6.heap.size = jb at *
  obtain ⟨nu, hnu⟩ : ∃ n, U.length = n := ⟨_, rfl⟩
  have HNU := Lib.hid hnu
  rw [hnu] at HS7 HU7 HUP HUF
  have hup := HUP.out
  obtain ⟨x0, x1, x2, x3, x4, x5, x6⟩ := HS7.out.bx.cells
  have j0 : w7.cell? ⟨jb, 0, none⟩ = some (.int .i64 (i : Int)) := HS7.out.j.cell rfl
  have j1 : w7.cell? ⟨jb, 1, none⟩ = some (.slice ua nu uc) := HS7.out.j.cell rfl
  go_wp2_with fail
  clear x0 x1 x2 x3 x4 x5 x6 j0 j1
  refine Calls.mono (HRE.out _ HS7.out.bel) ?_
  rintro _ w8 ⟨rfl, hb⟩
  rw [HRS.out]
  have HS8 := Lib.hid (HS7.out.below hb)
  have HU8 := Lib.hid (HU7.out.below hb)
  have HO8 := Lib.hid (HO7.out.below hb)
  have HL8 := Lib.hid (HL7.out.below hb)
  have HM8 := Lib.hid (HM7.out.below hb)
  clear hb HS7 HU7 HO7 HL7 HM7 HRE
  have j0 : w8.cell? ⟨jb, 0, none⟩ = some (.int .i64 (i : Int)) := HS8.out.j.cell rfl
  have j1 : w8.cell? ⟨jb, 1, none⟩ = some (.slice ua nu uc) := HS8.out.j.cell rfl
  obtain ⟨x0, -⟩ := HS8.out.bx.cells
  have t1 : ¬ (i : Int) < 0 := by omega
  have t2 : ¬ (4 : Int) ≤ (i : Int) := by omega
  have t3 : ((nu : Int) == 0) = false := by simp; omega
  obtain ⟨bl, ol, capl, el, _, hbl, hcl⟩ := levs_at HA.out (by rw [HM.out]; omega)
  obtain ⟨hv, hhv, hc1⟩ := hcl i (by rw [HM.out]; omega)
  obtain ⟨nv, hnv, hc2⟩ := hcl (i + 1) (by rw [HM.out]; omega)
  rw [HM.out] at el
  injection el with e1 e2 e3
  subst e1 e3
  obtain ⟨ha, hc, rfl⟩ := hhv.isSlice
  obtain ⟨na, nc, rfl⟩ := hnv.isSlice
  have HHE := Lib.hid (hhv.below HS8.out.bel)
  have HNE := Lib.hid (hnv.below HS8.out.bel)
  have d1 : w8.drew.cell? ⟨bl, ol + i, none⟩ = some (.slice ha (lat v.levels i).length hc) := (HS8.out.bel.cell (p := ⟨bl, ol + i, none⟩) hbl).trans hc1
  have d2 : w8.drew.cell? ⟨bl, ol + (i + 1), none⟩ = some (.slice na (lat v.levels (i + 1)).length nc) := (HS8.out.bel.cell (p := ⟨bl, ol + (i + 1), none⟩) hbl).trans hc2
  have HBL : Hid (∀ q, q < 5 → ∃ a c, (∀ W, Below w.heap.size w W → W.cell? ⟨bl, ol + q, none⟩ = some (.slice a (lat v.levels q).length c)) ∧ Rw filK Any w8 (.slice a (lat v.levels q).length c) (lat v.levels q)) := fun q hq => by
    obtain ⟨u, hu, hcq⟩ := hcl q (by rw [HM.out]; omega)
    obtain ⟨a, c, rfl⟩ := hu.isSlice
    exact ⟨a, c, fun W hW => (hW.cell (p := ⟨bl, ol + q, none⟩) hbl).trans hcq, (hu.below HS8.out.bel).any⟩
  have HLM1 := Lib.hid (HSZ.out i (by omega))
  have HLM2 := Lib.hid (HSZ.out (i + 1) (by omega))
  obtain ⟨here, hhere⟩ : ∃ l, lat v.levels i = l := ⟨_, rfl⟩
  obtain ⟨next, hnext⟩ : ∃ l, lat v.levels (i + 1) = l := ⟨_, rfl⟩
  rw [hhere] at HHE d1 HSH HUM HLM1
  rw [hnext] at HNE d2 HSN HLM2
  obtain ⟨nh, hnh⟩ : ∃ n, here.length = n := ⟨_, rfl⟩
  obtain ⟨nn, hnn⟩ : ∃ n, next.length = n := ⟨_, rfl⟩
  have HNH := Lib.hid hnh
  have HNN := Lib.hid hnn
  rw [hnh] at HHE d1 HLM1
  rw [hnn] at HNE d2 HLM2
  clear e2 hcl hhv hnv hc1 hc2 hhere hnext hnh hnn
  go_upto_region 10 with fail
  clear x0 j0 j1
  have t4 : (i : Int) < 5 := by omega
  have t5 : 0 ≤ (i : Int) := by omega
  obtain ⟨i1, hi1⟩ : ∃ q, i + 1 = q := ⟨_, rfl⟩
  have HI1 := Lib.hid hi1
  have t6 : RowKit.wrap64 ((i : Int) + 1) = (i1 : Int) := by unfold RowKit.wrap64; omega
  have t66 : IntKind.i64.wrap ((i : Int) + 1) = (i1 : Int) := by rw [wrap_small (by omega) (by omega)]; omega
  have t7 : (i1 : Int) < 5 := by omega
  have t8 : 0 ≤ (i1 : Int) := by omega
  rw [hi1] at d2
  clear hi1
  have HD : Hid (w8.drew.cell? ⟨b1, 0, none⟩ = some (.slice (some ⟨bl, ol, none⟩) 5 ca) ∧ w8.drew.cell? ⟨jb, 0, none⟩ = some (.int .i64 (i : Int)) ∧ w8.drew.cell? ⟨bl, ol + i, none⟩ = some (.slice ha nh hc) ∧ w8.drew.cell? ⟨bl, ol + i1, none⟩ = some (.slice na nn nc)) := ⟨HS8.out.bx.cells.1, HS8.out.j.cell rfl, d1, d2⟩
  clear d1 d2
  refine wp_region_held_drew (S := fun w' => (w'.cell? ⟨b1, 0, none⟩ = some (.slice (some ⟨bl, ol, none⟩) 5 ca) ∧ w'.cell? ⟨jb, 0, none⟩ = some (.int .i64 (i : Int)) ∧ w'.cell? ⟨bl, ol + i, none⟩ = some (.slice ha nh hc) ∧ w'.cell? ⟨bl, ol + i1, none⟩ = some (.slice na nn nc))) (by kernel_rfl) (HD.out) (fun hHeld => ?_)
  refine wpAnyH_take (i := 0) (oi := ?oA_1_0) (v := ?vA_1_0) ?eA_1_0 (by kernel_rfl) (by kernel_rfl) (by kernel_rfl) ?qA_1_0 (Or.inl ⟨?wA_1_0, ?yA_1_0⟩) (by assumption) ?rA_1_0
  case eA_1_0 => simp only [List.getElem?_toArray, List.getElem?_cons_zero]; rfl
  case wA_1_0 => rfl
  case qA_1_0 => exact fun _ _ _ h => h
  case yA_1_0 => (intro w hSw; (try dsimp only at hSw); go_simp; try with_reducible rfl)
  try simp only [Act.put, List.setIfInBounds_toArray, List.set_cons_zero, List.set_cons_succ]
  refine wpAnyH_take (i := 1) (oi := ?oA_2_1) (v := ?vA_2_1) ?eA_2_1 (by kernel_rfl) (by kernel_rfl) (by kernel_rfl) ?qA_2_1 (Or.inl ⟨?wA_2_1, ?yA_2_1⟩) (by assumption) ?rA_2_1
  case eA_2_1 => simp only [List.getElem?_toArray, List.getElem?_cons_succ, List.getElem?_cons_zero]; rfl
  case wA_2_1 => rfl
  case qA_2_1 => exact fun _ _ _ h => h
  case yA_2_1 => (intro w hSw; (try dsimp only at hSw); go_simp; try with_reducible rfl)
  try simp only [Act.put, List.setIfInBounds_toArray, List.set_cons_zero, List.set_cons_succ]
  refine wpAnyH_take (i := 2) (oi := ?oA_3_2) (v := ?vA_3_2) ?eA_3_2 (by kernel_rfl) (by kernel_rfl) (by kernel_rfl) ?qA_3_2 (Or.inl ⟨?wA_3_2, ?yA_3_2⟩) (by assumption) ?rA_3_2
  case eA_3_2 => simp only [List.getElem?_toArray, List.getElem?_cons_succ, List.getElem?_cons_zero]; rfl
  case wA_3_2 => rfl
  case qA_3_2 => exact fun _ _ _ h => h
  case yA_3_2 => (intro w hSw; (try dsimp only at hSw); go_simp; try with_reducible rfl)
  try simp only [Act.put, List.setIfInBounds_toArray, List.set_cons_zero, List.set_cons_succ]
  refine wpAnyH_take (i := 3) (oi := ?oA_4_3) (v := ?vA_4_3) ?eA_4_3 (by kernel_rfl) (by kernel_rfl) (by kernel_rfl) ?qA_4_3 (Or.inl ⟨?wA_4_3, ?yA_4_3⟩) (by assumption) ?rA_4_3
  case eA_4_3 => simp only [List.getElem?_toArray, List.getElem?_cons_succ, List.getElem?_cons_zero]; rfl
  case wA_4_3 => rfl
  case qA_4_3 => exact fun _ _ _ h => h
  case yA_4_3 => (intro w hSw; (try dsimp only at hSw); go_simp; try with_reducible rfl)
  try simp only [Act.put, List.setIfInBounds_toArray, List.set_cons_zero, List.set_cons_succ]
  refine wpAnyH_take (i := 4) (oi := ?oA_5_4) (v := ?vA_5_4) ?eA_5_4 (by kernel_rfl) (by kernel_rfl) (by kernel_rfl) ?qA_5_4 (Or.inl ⟨?wA_5_4, ?yA_5_4⟩) (by assumption) ?rA_5_4
  case eA_5_4 => simp only [List.getElem?_toArray, List.getElem?_cons_succ, List.getElem?_cons_zero]; rfl
  case wA_5_4 => rfl
  case qA_5_4 => exact fun _ _ _ h => h
  case yA_5_4 => (intro w hSw; (try dsimp only at hSw); go_simp; try with_reducible rfl)
  try simp only [Act.put, List.setIfInBounds_toArray, List.set_cons_zero, List.set_cons_succ]
  refine wpAnyH_take (i := 5) (oi := ?oA_6_5) (v := ?vA_6_5) ?eA_6_5 (by kernel_rfl) (by kernel_rfl) (by kernel_rfl) ?qA_6_5 (Or.inl ⟨?wA_6_5, ?yA_6_5⟩) (by assumption) ?rA_6_5
  case eA_6_5 => simp only [List.getElem?_toArray, List.getElem?_cons_succ, List.getElem?_cons_zero]; rfl
  case wA_6_5 => rfl
  case qA_6_5 => exact fun _ _ _ h => h
  case yA_6_5 => (intro w hSw; (try dsimp only at hSw); go_simp; try with_reducible rfl)
  try simp only [Act.put, List.setIfInBounds_toArray, List.set_cons_zero, List.set_cons_succ]
  refine wpAnyH_take (i := 6) (oi := ?oA_7_6) (v := ?vA_7_6) ?eA_7_6 (by kernel_rfl) (by kernel_rfl) (by kernel_rfl) ?qA_7_6 (Or.inl ⟨?wA_7_6, ?yA_7_6⟩) (by assumption) ?rA_7_6
  case eA_7_6 => simp only [List.getElem?_toArray, List.getElem?_cons_succ, List.getElem?_cons_zero]; rfl
  case wA_7_6 => rfl
  case qA_7_6 => exact fun _ _ _ h => h
  case yA_7_6 => (intro w hSw; (try dsimp only at hSw); go_simp; try with_reducible rfl)
  try simp only [Act.put, List.setIfInBounds_toArray, List.set_cons_zero, List.set_cons_succ]
  refine wpAnyH_take (i := 7) (oi := ?oA_8_7) (v := ?vA_8_7) ?eA_8_7 (by kernel_rfl) (by kernel_rfl) (by kernel_rfl) ?qA_8_7 (Or.inl ⟨?wA_8_7, ?yA_8_7⟩) (by assumption) ?rA_8_7
  case eA_8_7 => simp only [List.getElem?_toArray, List.getElem?_cons_succ, List.getElem?_cons_zero]; rfl
  case wA_8_7 => rfl
  case qA_8_7 => exact fun _ _ _ h => h
  case yA_8_7 => (intro w hSw; (try dsimp only at hSw); go_simp; try with_reducible rfl)
  try simp only [Act.put, List.setIfInBounds_toArray, List.set_cons_zero, List.set_cons_succ]
  refine wpAnyH_take (i := 8) (oi := ?oA_9_8) (v := ?vA_9_8) ?eA_9_8 (by kernel_rfl) (by kernel_rfl) (by kernel_rfl) ?qA_9_8 (Or.inl ⟨?wA_9_8, ?yA_9_8⟩) (by assumption) ?rA_9_8
  case eA_9_8 => simp only [List.getElem?_toArray, List.getElem?_cons_succ, List.getElem?_cons_zero]; rfl
  case wA_9_8 => rfl
  case qA_9_8 => exact fun _ _ _ h => h
  case yA_9_8 => (intro w hSw; (try dsimp only at hSw); go_simp; try with_reducible rfl)
  try simp only [Act.put, List.setIfInBounds_toArray, List.set_cons_zero, List.set_cons_succ]
  refine wpAnyH_take (i := 9) (oi := ?oA_10_9) (v := ?vA_10_9) ?eA_10_9 (by kernel_rfl) (by kernel_rfl) (by kernel_rfl) ?qA_10_9 (Or.inl ⟨?wA_10_9, ?yA_10_9⟩) (by assumption) ?rA_10_9
  case eA_10_9 => simp only [List.getElem?_toArray, List.getElem?_cons_succ, List.getElem?_cons_zero]; rfl
  case wA_10_9 => rfl
  case qA_10_9 => exact fun _ _ _ h => h
  case yA_10_9 => (intro w hSw; (try dsimp only at hSw); go_simp; try with_reducible rfl)
  try simp only [Act.put, List.setIfInBounds_toArray, List.set_cons_zero, List.set_cons_succ]
  refine wpAnyH_take (i := 10) (oi := ?oA_11_10) (v := ?vA_11_10) ?eA_11_10 (by kernel_rfl) (by kernel_rfl) (by kernel_rfl) ?qA_11_10 (Or.inl ⟨?wA_11_10, ?yA_11_10⟩) (by assumption) ?rA_11_10
  case eA_11_10 => simp only [List.getElem?_toArray, List.getElem?_cons_succ, List.getElem?_cons_zero]; rfl
  case wA_11_10 => rfl
  case qA_11_10 => exact fun _ _ _ h => h
  case yA_11_10 => (intro w hSw; (try dsimp only at hSw); go_simp; try with_reducible rfl)
  try simp only [Act.put, List.setIfInBounds_toArray, List.set_cons_zero, List.set_cons_succ]
  refine wpAnyH_take (i := 11) (oi := ?oA_12_11) (v := ?vA_12_11) ?eA_12_11 (by kernel_rfl) (by kernel_rfl) (by kernel_rfl) ?qA_12_11 (Or.inl ⟨?wA_12_11, ?yA_12_11⟩) (by assumption) ?rA_12_11
  case eA_12_11 => simp only [List.getElem?_toArray, List.getElem?_cons_succ, List.getElem?_cons_zero]; rfl
  case wA_12_11 => rfl
  case qA_12_11 => exact fun _ _ _ h => h
  case yA_12_11 => (intro w hSw; (try dsimp only at hSw); go_simp; try with_reducible rfl)
  try simp only [Act.put, List.setIfInBounds_toArray, List.set_cons_zero, List.set_cons_succ]
  refine wpAnyH_take (i := 12) (oi := ?oA_13_12) (v := ?vA_13_12) ?eA_13_12 (by kernel_rfl) (by kernel_rfl) (by kernel_rfl) ?qA_13_12 (Or.inl ⟨?wA_13_12, ?yA_13_12⟩) (by assumption) ?rA_13_12
  case eA_13_12 => simp only [List.getElem?_toArray, List.getElem?_cons_succ, List.getElem?_cons_zero]; rfl
  case wA_13_12 => rfl
  case qA_13_12 => exact fun _ _ _ h => h
  case yA_13_12 => (intro w hSw; (try dsimp only at hSw); go_simp; try with_reducible rfl)
  try simp only [Act.put, List.setIfInBounds_toArray, List.set_cons_zero, List.set_cons_succ]
  refine wpAnyH_take (i := 13) (oi := ?oA_14_13) (v := ?vA_14_13) ?eA_14_13 (by kernel_rfl) (by kernel_rfl) (by kernel_rfl) ?qA_14_13 (Or.inl ⟨?wA_14_13, ?yA_14_13⟩) (by assumption) ?rA_14_13
  case eA_14_13 => simp only [List.getElem?_toArray, List.getElem?_cons_succ, List.getElem?_cons_zero]; rfl
  case wA_14_13 => rfl
  case qA_14_13 => exact fun _ _ _ h => h
  case yA_14_13 => (intro w hSw; (try dsimp only at hSw); go_simp; try with_reducible rfl)
  try simp only [Act.put, List.setIfInBounds_toArray, List.set_cons_zero, List.set_cons_succ]
  refine wpAnyH_take (i := 14) (oi := ?oA_15_14) (v := ?vA_15_14) ?eA_15_14 (by kernel_rfl) (by kernel_rfl) (by kernel_rfl) ?qA_15_14 (Or.inl ⟨?wA_15_14, ?yA_15_14⟩) (by assumption) ?rA_15_14
  case eA_15_14 => simp only [List.getElem?_toArray, List.getElem?_cons_succ, List.getElem?_cons_zero]; rfl
  case wA_15_14 => rfl
  case qA_15_14 => exact fun _ _ _ h => h
  case yA_15_14 => (intro w hSw; (try dsimp only at hSw); go_simp; try with_reducible rfl)
  try simp only [Act.put, List.setIfInBounds_toArray, List.set_cons_zero, List.set_cons_succ]
  refine wpAnyH_done (by kernel_rfl) ?_ _
  obtain ⟨w9, hw9⟩ : ∃ x, w8.drew = x := ⟨_, rfl⟩
  have hb9 : Below w8.heap.size w8 w9 := by rw [← hw9]; exact below_drew (Below.refl _ _)
  have HS9 := Lib.hid (HS8.out.below hb9)
  have HU9 := Lib.hid (HU8.out.below hb9)
  have HO9 := Lib.hid (HO8.out.below hb9)
  have HL9 := Lib.hid (HL8.out.below hb9)
  have HM9 := Lib.hid (HM8.out.below hb9)
  have HHE9 := Lib.hid (HHE.out.below hb9)
  have HNE9 := Lib.hid (HNE.out.below hb9)
  have HBL9 : Hid (∀ q, q < 5 → ∃ a c, (∀ W, Below w9.heap.size w9 W → W.cell? ⟨bl, ol + q, none⟩ = some (.slice a (lat v.levels q).length c)) ∧ Rw filK Any w9 (.slice a (lat v.levels q).length c) (lat v.levels q)) := fun q hq => by
    obtain ⟨a, c, g1, g2⟩ := HBL.out q hq
    exact ⟨a, c, fun W hW => g1 W (HS9.out.bel.trans (hW.mono HS9.out.bel.size)), g2.below hb9⟩
  rw [hw9]
  clear hw9 hb9 HS8 HU8 HO8 HL8 HM8 HHE HNE HBL HD hHeld t6 t66 t7 t8
  go_wp2_with fail
  go_loopw [9] (fun av wr => ∃ a : Nat, av = .int .i64 (a : Int) ∧ a ≤ nu ∧ Hid (Below w9.heap.size w9 wr)) (fun av _ => nu - (intOf av).toNat)
  case atStart => exact ⟨0, rfl, by omega, Below.refl _ _⟩
  case round =>
    obtain ⟨a, rfl, ha0, HB1⟩ := hrel
    have HS1 := Lib.hid (HS9.out.below HB1.out)
    have j1 : wr.cell? ⟨jb, 1, none⟩ = some (.slice ua nu uc) := HS1.out.j.cell rfl
    have u5 : nu ≤ 10001 := HUF.out
    by_cases han : a < nu
    · have u3 : (a : Int) < (nu : Int) := by omega
      have u4 : 0 ≤ (a : Int) := by omega
      obtain ⟨bu, ou, rfl, ra, rc, sa, sc, hg1, hg2, hg6⟩ := fil_at HU9.out HNU.out han
      have HGU := Lib.hid (fat_mem (l := U) (i := a) (by rw [HNU.out]; exact han))
      obtain ⟨g, hg⟩ : ∃ f, fat U a = f := ⟨_, rfl⟩
      rw [hg] at hg1 hg2 hg6 HGU
      have HGL := Lib.hid hg1
      have HGM := Lib.hid hg2
      have HG6 := Lib.hid hg6
      have HBU : Hid (bu < w9.heap.size) := World.block_lt_of_cell? _ _ hg6.1
      obtain ⟨c0, c1, c2, c3, c4, c5⟩ := hg6.keep HB1.out HBU.out
      clear hg hg1 hg2 hg6
      go_wp2_with fail
      clear c0 c1 c2 c3 c4 c5 j1
      refine Calls.mono (among_yes _ (.slice ha nh hc) here g _ _ wr (HHE9.out.below HB1.out) (by rw [HNH.out]; exact Nat.le_trans HLM1.out (by decide)) (HUM.out g HGU.out)) ?_
      rintro _ wb ⟨rfl, hb⟩
      have HB2 : Hid (Below w9.heap.size w9 wb) := HB1.out.trans (hb.mono HB1.out.size)
      clear hb HB1 HS1
      go_wp2_with fail
      go_loopw [10] (fun kv wr => ∃ k : Nat, kv = .int .i64 (k : Int) ∧ k ≤ nh ∧ Hid (Below w9.heap.size w9 wr)) (fun kv _ => nh - (intOf kv).toNat)
      case atStart => exact ⟨0, rfl, by omega, HB2.out⟩
      case round =>
        obtain ⟨k, rfl, hk, HB3⟩ := hrel
        clear HB2
        by_cases hkn : k < nh
        · have u0 : nh ≤ 10000 := HLM1.out
          have u1 : (k : Int) < (nh : Int) := by omega
          have u2 : 0 ≤ (k : Int) := by omega
          have u3 : (a : Int) < (nu : Int) := by omega
          have u4 : 0 ≤ (a : Int) := by omega
          obtain ⟨bh, oh, rfl, pa, pc, qa, qc, hp1, hp2, hp6⟩ := fil_at (HHE9.out.below HB3.out) HNH.out hkn
          have HFM := Lib.hid (fat_mem (l := here) (i := k) (by rw [HNH.out]; exact hkn))
          obtain ⟨f, hf⟩ : ∃ f, fat here k = f := ⟨_, rfl⟩
          rw [hf] at hp1 hp2 hp6 HFM
          clear hf
          have HP1 := Lib.hid hp1
          have HP2 := Lib.hid hp2
          have HP6 := Lib.hid hp6
          have HG1 := Lib.hid (HGL.out.below HB3.out)
          have HG2 := Lib.hid (HGM.out.below HB3.out)
          clear hp1 hp2 hp6
          have HS3 := Lib.hid (HS9.out.below HB3.out)
          have HU3 := Lib.hid (HU9.out.below HB3.out)
          have HO3 := Lib.hid (HO9.out.below HB3.out)
          have HKP : Hid (∀ W, Below wr.heap.size wr W → (W.cell? ⟨bh, oh + k * 6, none⟩ = some (.int .u64 f.num) ∧ W.cell? ⟨bh, oh + k * 6 + 1, none⟩ = some (.int .i64 f.size) ∧ W.cell? ⟨bh, oh + k * 6 + 2, none⟩ = some (.slice pa f.least.length pc) ∧ W.cell? ⟨bh, oh + k * 6 + 3, none⟩ = some (.slice qa f.most.length qc) ∧ W.cell? ⟨bh, oh + k * 6 + 4, none⟩ = some (.int .i64 f.ents) ∧ W.cell? ⟨bh, oh + k * 6 + 5, none⟩ = some (.int .u64 f.mseq) ∧ W.cell? ⟨bu, ou + a * 6, none⟩ = some (.int .u64 g.num) ∧ W.cell? ⟨bu, ou + a * 6 + 1, none⟩ = some (.int .i64 g.size) ∧ W.cell? ⟨bu, ou + a * 6 + 2, none⟩ = some (.slice ra g.least.length rc) ∧ W.cell? ⟨bu, ou + a * 6 + 3, none⟩ = some (.slice sa g.most.length sc) ∧ W.cell? ⟨bu, ou + a * 6 + 4, none⟩ = some (.int .i64 g.ents) ∧ W.cell? ⟨bu, ou + a * 6 + 5, none⟩ = some (.int .u64 g.mseq) ∧ W.cell? ⟨jb, 1, none⟩ = some (.slice (some ⟨bu, ou, none⟩) nu uc))) := fun W hb => by
            obtain ⟨y0, y1, y2, y3, y4, y5⟩ := HP6.out.keep hb (World.block_lt_of_cell? _ _ HP6.out.1)
            have hg6 := (HG6.out.keep HB3.out HBU.out).keep hb (Nat.lt_of_lt_of_le HBU.out HB3.out.size)
            obtain ⟨z0, z1, z2, z3, z4, z5⟩ := hg6
            have hj := HS3.out.j.below hb HS3.out.j.lt
            exact ⟨y0, y1, y2, y3, y4, y5, z0, z1, z2, z3, z4, z5, hj.cell rfl⟩
          have D0 : Hid (Below wr.heap.size wr wr.drew) := below_drew (Below.refl _ _)
          cases ho : ovl f g with
          | false =>
            have HOV := Lib.hid ho
            clear ho
            go_upto_region 19 with fail
            refine wp_region_held_drew (S := fun w' => (w'.cell? ⟨bh, oh + k * 6, none⟩ = some (.int .u64 f.num) ∧ w'.cell? ⟨bh, oh + k * 6 + 1, none⟩ = some (.int .i64 f.size) ∧ w'.cell? ⟨bh, oh + k * 6 + 2, none⟩ = some (.slice pa f.least.length pc) ∧ w'.cell? ⟨bh, oh + k * 6 + 3, none⟩ = some (.slice qa f.most.length qc) ∧ w'.cell? ⟨bh, oh + k * 6 + 4, none⟩ = some (.int .i64 f.ents) ∧ w'.cell? ⟨bh, oh + k * 6 + 5, none⟩ = some (.int .u64 f.mseq) ∧ w'.cell? ⟨bu, ou + a * 6, none⟩ = some (.int .u64 g.num) ∧ w'.cell? ⟨bu, ou + a * 6 + 1, none⟩ = some (.int .i64 g.size) ∧ w'.cell? ⟨bu, ou + a * 6 + 2, none⟩ = some (.slice ra g.least.length rc) ∧ w'.cell? ⟨bu, ou + a * 6 + 3, none⟩ = some (.slice sa g.most.length sc) ∧ w'.cell? ⟨bu, ou + a * 6 + 4, none⟩ = some (.int .i64 g.ents) ∧ w'.cell? ⟨bu, ou + a * 6 + 5, none⟩ = some (.int .u64 g.mseq) ∧ w'.cell? ⟨jb, 1, none⟩ = some (.slice (some ⟨bu, ou, none⟩) nu uc))) (by kernel_rfl) (HKP.out _ D0.out) (fun hHeld => ?_)
            refine wpAnyH_take (i := 0) (oi := ?oBf_16_0) (v := ?vBf_16_0) ?eBf_16_0 (by kernel_rfl) (by kernel_rfl) (by kernel_rfl) ?qBf_16_0 (Or.inl ⟨?wBf_16_0, ?yBf_16_0⟩) (by assumption) ?rBf_16_0
            case eBf_16_0 => simp only [List.getElem?_toArray, List.getElem?_cons_zero]; rfl
            case wBf_16_0 => rfl
            case qBf_16_0 => exact fun _ _ _ h => h
            case yBf_16_0 => (intro w hSw; (try dsimp only at hSw); go_simp; try with_reducible rfl)
            try simp only [Act.put, List.setIfInBounds_toArray, List.set_cons_zero, List.set_cons_succ]
            refine wpAnyH_take (i := 1) (oi := ?oBf_17_1) (v := ?vBf_17_1) ?eBf_17_1 (by kernel_rfl) (by kernel_rfl) (by kernel_rfl) ?qBf_17_1 (Or.inl ⟨?wBf_17_1, ?yBf_17_1⟩) (by assumption) ?rBf_17_1
            case eBf_17_1 => simp only [List.getElem?_toArray, List.getElem?_cons_succ, List.getElem?_cons_zero]; rfl
            case wBf_17_1 => rfl
            case qBf_17_1 => exact fun _ _ _ h => h
            case yBf_17_1 => (intro w hSw; (try dsimp only at hSw); go_simp; try with_reducible rfl)
            try simp only [Act.put, List.setIfInBounds_toArray, List.set_cons_zero, List.set_cons_succ]
            refine wpAnyH_take (i := 2) (oi := ?oBf_18_2) (v := ?vBf_18_2) ?eBf_18_2 (by kernel_rfl) (by kernel_rfl) (by kernel_rfl) ?qBf_18_2 (Or.inl ⟨?wBf_18_2, ?yBf_18_2⟩) (by assumption) ?rBf_18_2
            case eBf_18_2 => simp only [List.getElem?_toArray, List.getElem?_cons_succ, List.getElem?_cons_zero]; rfl
            case wBf_18_2 => rfl
            case qBf_18_2 => exact fun _ _ _ h => h
            case yBf_18_2 => (intro w hSw; (try dsimp only at hSw); go_simp; try with_reducible rfl)
            try simp only [Act.put, List.setIfInBounds_toArray, List.set_cons_zero, List.set_cons_succ]
            refine wpAnyH_take (i := 3) (oi := ?oBf_19_3) (v := ?vBf_19_3) ?eBf_19_3 (by kernel_rfl) (by kernel_rfl) (by kernel_rfl) ?qBf_19_3 (Or.inl ⟨?wBf_19_3, ?yBf_19_3⟩) (by assumption) ?rBf_19_3
            case eBf_19_3 => simp only [List.getElem?_toArray, List.getElem?_cons_succ, List.getElem?_cons_zero]; rfl
            case wBf_19_3 => rfl
            case qBf_19_3 => exact fun _ _ _ h => h
            case yBf_19_3 => (intro w hSw; (try dsimp only at hSw); go_simp; try with_reducible rfl)
            try simp only [Act.put, List.setIfInBounds_toArray, List.set_cons_zero, List.set_cons_succ]
            refine wpAnyH_take (i := 4) (oi := ?oBf_20_4) (v := ?vBf_20_4) ?eBf_20_4 (by kernel_rfl) (by kernel_rfl) (by kernel_rfl) ?qBf_20_4 (Or.inl ⟨?wBf_20_4, ?yBf_20_4⟩) (by assumption) ?rBf_20_4
            case eBf_20_4 => simp only [List.getElem?_toArray, List.getElem?_cons_succ, List.getElem?_cons_zero]; rfl
            case wBf_20_4 => rfl
            case qBf_20_4 => exact fun _ _ _ h => h
            case yBf_20_4 => (intro w hSw; (try dsimp only at hSw); go_simp; try with_reducible rfl)
            try simp only [Act.put, List.setIfInBounds_toArray, List.set_cons_zero, List.set_cons_succ]
            refine wpAnyH_take (i := 5) (oi := ?oBf_21_5) (v := ?vBf_21_5) ?eBf_21_5 (by kernel_rfl) (by kernel_rfl) (by kernel_rfl) ?qBf_21_5 (Or.inl ⟨?wBf_21_5, ?yBf_21_5⟩) (by assumption) ?rBf_21_5
            case eBf_21_5 => simp only [List.getElem?_toArray, List.getElem?_cons_succ, List.getElem?_cons_zero]; rfl
            case wBf_21_5 => rfl
            case qBf_21_5 => exact fun _ _ _ h => h
            case yBf_21_5 => (intro w hSw; (try dsimp only at hSw); go_simp; try with_reducible rfl)
            try simp only [Act.put, List.setIfInBounds_toArray, List.set_cons_zero, List.set_cons_succ]
            refine wpAnyH_take (i := 6) (oi := ?oBf_22_6) (v := ?vBf_22_6) ?eBf_22_6 (by kernel_rfl) (by kernel_rfl) (by kernel_rfl) ?qBf_22_6 (Or.inl ⟨?wBf_22_6, ?yBf_22_6⟩) (by assumption) ?rBf_22_6
            case eBf_22_6 => simp only [List.getElem?_toArray, List.getElem?_cons_succ, List.getElem?_cons_zero]; rfl
            case wBf_22_6 => rfl
            case qBf_22_6 => exact fun _ _ _ h => h
            case yBf_22_6 => (intro w hSw; (try dsimp only at hSw); go_simp; try with_reducible rfl)
            try simp only [Act.put, List.setIfInBounds_toArray, List.set_cons_zero, List.set_cons_succ]
            refine wpAnyH_take (i := 7) (oi := ?oBf_23_7) (v := ?vBf_23_7) ?eBf_23_7 (by kernel_rfl) (by kernel_rfl) (by kernel_rfl) ?qBf_23_7 (Or.inl ⟨?wBf_23_7, ?yBf_23_7⟩) (by assumption) ?rBf_23_7
            case eBf_23_7 => simp only [List.getElem?_toArray, List.getElem?_cons_succ, List.getElem?_cons_zero]; rfl
            case wBf_23_7 => rfl
            case qBf_23_7 => exact fun _ _ _ h => h
            case yBf_23_7 => (intro w hSw; (try dsimp only at hSw); go_simp; try with_reducible rfl)
            try simp only [Act.put, List.setIfInBounds_toArray, List.set_cons_zero, List.set_cons_succ]
            refine wpAnyH_take (i := 8) (oi := ?oBf_24_8) (v := ?vBf_24_8) ?eBf_24_8 (by kernel_rfl) (by kernel_rfl) (by kernel_rfl) ?qBf_24_8 (Or.inl ⟨?wBf_24_8, ?yBf_24_8⟩) (by assumption) ?rBf_24_8
            case eBf_24_8 => simp only [List.getElem?_toArray, List.getElem?_cons_succ, List.getElem?_cons_zero]; rfl
            case wBf_24_8 => rfl
            case qBf_24_8 => exact fun _ _ _ h => h
            case yBf_24_8 => (intro w hSw; (try dsimp only at hSw); go_simp; try with_reducible rfl)
            try simp only [Act.put, List.setIfInBounds_toArray, List.set_cons_zero, List.set_cons_succ]
            have hOld := hHeld
            clear hHeld
            refine wpAnyH_ready (rs := [9]) (by kernel_rfl) (by simp) ?_
            refine AllReadyH.cons (o := ?oBf_25_9) ?eBf_25_9 (fun K hK => ?_) AllReadyH.nil
            case eBf_25_9 => simp only [List.getElem?_toArray, List.getElem?_cons_succ, List.getElem?_cons_zero]; rfl
            go_simp
            (go_at_call 16; refine Calls.mono (overlaps_at _ _ _ _ f g _ _ _ _ _ (HP1.out.below D0.out) (HP2.out.below D0.out) (HG1.out.below D0.out) (HG2.out.below D0.out) HOV.out) ?_; rintro _ y1 ⟨rfl, hb1⟩; have D1 : Hid (Below wr.heap.size wr y1) := D0.out.trans (hb1.mono D0.out.size))
            try go_wp2_with fail
            refine hK.out _ _ (HKP.out _ D1.out) (fun hHeld => ?_)
            clear hK hOld
            try simp only [Act.put, List.setIfInBounds_toArray, List.set_cons_zero, List.set_cons_succ]
            refine wpAnyH_take (i := 10) (oi := ?oBf_26_10) (v := ?vBf_26_10) ?eBf_26_10 (by kernel_rfl) (by kernel_rfl) (by kernel_rfl) ?qBf_26_10 (Or.inl ⟨?wBf_26_10, ?yBf_26_10⟩) (by assumption) ?rBf_26_10
            case eBf_26_10 => simp only [List.getElem?_toArray, List.getElem?_cons_succ, List.getElem?_cons_zero]; rfl
            case wBf_26_10 => rfl
            case qBf_26_10 => exact fun _ _ _ h => h
            case yBf_26_10 => (intro w hSw; (try dsimp only at hSw); go_simp; try with_reducible rfl)
            try simp only [Act.put, List.setIfInBounds_toArray, List.set_cons_zero, List.set_cons_succ]
            refine wpAnyH_take (i := 11) (oi := ?oBf_27_11) (v := undef) ?eBf_27_11 (by kernel_rfl) (by kernel_rfl) (by kernel_rfl) ?qBf_27_11 (Or.inr ⟨?wBf_27_11, rfl⟩) (by assumption) ?rBf_27_11
            case eBf_27_11 => simp only [List.getElem?_toArray, List.getElem?_cons_succ, List.getElem?_cons_zero]; rfl
            case wBf_27_11 => rfl
            case qBf_27_11 => exact fun _ _ _ h => h
            try simp only [Act.put, List.setIfInBounds_toArray, List.set_cons_zero, List.set_cons_succ]
            refine wpAnyH_take (i := 12) (oi := ?oBf_28_12) (v := undef) ?eBf_28_12 (by kernel_rfl) (by kernel_rfl) (by kernel_rfl) ?qBf_28_12 (Or.inr ⟨?wBf_28_12, rfl⟩) (by assumption) ?rBf_28_12
            case eBf_28_12 => simp only [List.getElem?_toArray, List.getElem?_cons_succ, List.getElem?_cons_zero]; rfl
            case wBf_28_12 => rfl
            case qBf_28_12 => exact fun _ _ _ h => h
            try simp only [Act.put, List.setIfInBounds_toArray, List.set_cons_zero, List.set_cons_succ]
            refine wpAnyH_take (i := 13) (oi := ?oBf_29_13) (v := undef) ?eBf_29_13 (by kernel_rfl) (by kernel_rfl) (by kernel_rfl) ?qBf_29_13 (Or.inr ⟨?wBf_29_13, rfl⟩) (by assumption) ?rBf_29_13
            case eBf_29_13 => simp only [List.getElem?_toArray, List.getElem?_cons_succ, List.getElem?_cons_zero]; rfl
            case wBf_29_13 => rfl
            case qBf_29_13 => exact fun _ _ _ h => h
            try simp only [Act.put, List.setIfInBounds_toArray, List.set_cons_zero, List.set_cons_succ]
            refine wpAnyH_take (i := 14) (oi := ?oBf_30_14) (v := undef) ?eBf_30_14 (by kernel_rfl) (by kernel_rfl) (by kernel_rfl) ?qBf_30_14 (Or.inr ⟨?wBf_30_14, rfl⟩) (by assumption) ?rBf_30_14
            case eBf_30_14 => simp only [List.getElem?_toArray, List.getElem?_cons_succ, List.getElem?_cons_zero]; rfl
            case wBf_30_14 => rfl
            case qBf_30_14 => exact fun _ _ _ h => h
            try simp only [Act.put, List.setIfInBounds_toArray, List.set_cons_zero, List.set_cons_succ]
            refine wpAnyH_take (i := 15) (oi := ?oBf_31_15) (v := undef) ?eBf_31_15 (by kernel_rfl) (by kernel_rfl) (by kernel_rfl) ?qBf_31_15 (Or.inr ⟨?wBf_31_15, rfl⟩) (by assumption) ?rBf_31_15
            case eBf_31_15 => simp only [List.getElem?_toArray, List.getElem?_cons_succ, List.getElem?_cons_zero]; rfl
            case wBf_31_15 => rfl
            case qBf_31_15 => exact fun _ _ _ h => h
            try simp only [Act.put, List.setIfInBounds_toArray, List.set_cons_zero, List.set_cons_succ]
            refine wpAnyH_take (i := 16) (oi := ?oBf_32_16) (v := undef) ?eBf_32_16 (by kernel_rfl) (by kernel_rfl) (by kernel_rfl) ?qBf_32_16 (Or.inr ⟨?wBf_32_16, rfl⟩) (by assumption) ?rBf_32_16
            case eBf_32_16 => simp only [List.getElem?_toArray, List.getElem?_cons_succ, List.getElem?_cons_zero]; rfl
            case wBf_32_16 => rfl
            case qBf_32_16 => exact fun _ _ _ h => h
            try simp only [Act.put, List.setIfInBounds_toArray, List.set_cons_zero, List.set_cons_succ]
            refine wpAnyH_take (i := 17) (oi := ?oBf_33_17) (v := undef) ?eBf_33_17 (by kernel_rfl) (by kernel_rfl) (by kernel_rfl) ?qBf_33_17 (Or.inr ⟨?wBf_33_17, rfl⟩) (by assumption) ?rBf_33_17
            case eBf_33_17 => simp only [List.getElem?_toArray, List.getElem?_cons_succ, List.getElem?_cons_zero]; rfl
            case wBf_33_17 => rfl
            case qBf_33_17 => exact fun _ _ _ h => h
            try simp only [Act.put, List.setIfInBounds_toArray, List.set_cons_zero, List.set_cons_succ]
            refine wpAnyH_take (i := 18) (oi := ?oBf_34_18) (v := undef) ?eBf_34_18 (by kernel_rfl) (by kernel_rfl) (by kernel_rfl) ?qBf_34_18 (Or.inr ⟨?wBf_34_18, rfl⟩) (by assumption) ?rBf_34_18
            case eBf_34_18 => simp only [List.getElem?_toArray, List.getElem?_cons_succ, List.getElem?_cons_zero]; rfl
            case wBf_34_18 => rfl
            case qBf_34_18 => exact fun _ _ _ h => h
            try simp only [Act.put, List.setIfInBounds_toArray, List.set_cons_zero, List.set_cons_succ]
            refine wpAnyH_take (i := 19) (oi := ?oBf_35_19) (v := ?vBf_35_19) ?eBf_35_19 (by kernel_rfl) (by kernel_rfl) (by kernel_rfl) ?qBf_35_19 (Or.inl ⟨?wBf_35_19, ?yBf_35_19⟩) (by assumption) ?rBf_35_19
            case eBf_35_19 => simp only [List.getElem?_toArray, List.getElem?_cons_succ, List.getElem?_cons_zero]; rfl
            case wBf_35_19 => rfl
            case qBf_35_19 => exact fun _ _ _ h => h
            case yBf_35_19 => (intro w hSw; (try dsimp only at hSw); go_simp; try with_reducible rfl)
            try simp only [Act.put, List.setIfInBounds_toArray, List.set_cons_zero, List.set_cons_succ]
            refine wpAnyH_take (i := 20) (oi := ?oBf_36_20) (v := ?vBf_36_20) ?eBf_36_20 (by kernel_rfl) (by kernel_rfl) (by kernel_rfl) ?qBf_36_20 (Or.inl ⟨?wBf_36_20, ?yBf_36_20⟩) (by assumption) ?rBf_36_20
            case eBf_36_20 => simp only [List.getElem?_toArray, List.getElem?_cons_succ, List.getElem?_cons_zero]; rfl
            case wBf_36_20 => rfl
            case qBf_36_20 => exact fun _ _ _ h => h
            case yBf_36_20 => (intro w hSw; (try dsimp only at hSw); go_simp; try with_reducible rfl)
            try simp only [Act.put, List.setIfInBounds_toArray, List.set_cons_zero, List.set_cons_succ]
            refine wpAnyH_take (i := 21) (oi := ?oBf_37_21) (v := undef) ?eBf_37_21 (by kernel_rfl) (by kernel_rfl) (by kernel_rfl) ?qBf_37_21 (Or.inr ⟨?wBf_37_21, rfl⟩) (by assumption) ?rBf_37_21
            case eBf_37_21 => simp only [List.getElem?_toArray, List.getElem?_cons_succ, List.getElem?_cons_zero]; rfl
            case wBf_37_21 => rfl
            case qBf_37_21 => exact fun _ _ _ h => h
            try simp only [Act.put, List.setIfInBounds_toArray, List.set_cons_zero, List.set_cons_succ]
            refine wpAnyH_take (i := 22) (oi := ?oBf_38_22) (v := undef) ?eBf_38_22 (by kernel_rfl) (by kernel_rfl) (by kernel_rfl) ?qBf_38_22 (Or.inr ⟨?wBf_38_22, rfl⟩) (by assumption) ?rBf_38_22
            case eBf_38_22 => simp only [List.getElem?_toArray, List.getElem?_cons_succ, List.getElem?_cons_zero]; rfl
            case wBf_38_22 => rfl
            case qBf_38_22 => exact fun _ _ _ h => h
            try simp only [Act.put, List.setIfInBounds_toArray, List.set_cons_zero, List.set_cons_succ]
            refine wpAnyH_take (i := 23) (oi := ?oBf_39_23) (v := undef) ?eBf_39_23 (by kernel_rfl) (by kernel_rfl) (by kernel_rfl) ?qBf_39_23 (Or.inr ⟨?wBf_39_23, rfl⟩) (by assumption) ?rBf_39_23
            case eBf_39_23 => simp only [List.getElem?_toArray, List.getElem?_cons_succ, List.getElem?_cons_zero]; rfl
            case wBf_39_23 => rfl
            case qBf_39_23 => exact fun _ _ _ h => h
            try simp only [Act.put, List.setIfInBounds_toArray, List.set_cons_zero, List.set_cons_succ]
            refine wpAnyH_take (i := 24) (oi := ?oBf_40_24) (v := undef) ?eBf_40_24 (by kernel_rfl) (by kernel_rfl) (by kernel_rfl) ?qBf_40_24 (Or.inr ⟨?wBf_40_24, rfl⟩) (by assumption) ?rBf_40_24
            case eBf_40_24 => simp only [List.getElem?_toArray, List.getElem?_cons_succ, List.getElem?_cons_zero]; rfl
            case wBf_40_24 => rfl
            case qBf_40_24 => exact fun _ _ _ h => h
            try simp only [Act.put, List.setIfInBounds_toArray, List.set_cons_zero, List.set_cons_succ]
            refine wpAnyH_take (i := 25) (oi := ?oBf_41_25) (v := undef) ?eBf_41_25 (by kernel_rfl) (by kernel_rfl) (by kernel_rfl) ?qBf_41_25 (Or.inr ⟨?wBf_41_25, rfl⟩) (by assumption) ?rBf_41_25
            case eBf_41_25 => simp only [List.getElem?_toArray, List.getElem?_cons_succ, List.getElem?_cons_zero]; rfl
            case wBf_41_25 => rfl
            case qBf_41_25 => exact fun _ _ _ h => h
            try simp only [Act.put, List.setIfInBounds_toArray, List.set_cons_zero, List.set_cons_succ]
            refine wpAnyH_take (i := 26) (oi := ?oBf_42_26) (v := undef) ?eBf_42_26 (by kernel_rfl) (by kernel_rfl) (by kernel_rfl) ?qBf_42_26 (Or.inr ⟨?wBf_42_26, rfl⟩) (by assumption) ?rBf_42_26
            case eBf_42_26 => simp only [List.getElem?_toArray, List.getElem?_cons_succ, List.getElem?_cons_zero]; rfl
            case wBf_42_26 => rfl
            case qBf_42_26 => exact fun _ _ _ h => h
            try simp only [Act.put, List.setIfInBounds_toArray, List.set_cons_zero, List.set_cons_succ]
            refine wpAnyH_take (i := 27) (oi := ?oBf_43_27) (v := undef) ?eBf_43_27 (by kernel_rfl) (by kernel_rfl) (by kernel_rfl) ?qBf_43_27 (Or.inr ⟨?wBf_43_27, rfl⟩) (by assumption) ?rBf_43_27
            case eBf_43_27 => simp only [List.getElem?_toArray, List.getElem?_cons_succ, List.getElem?_cons_zero]; rfl
            case wBf_43_27 => rfl
            case qBf_43_27 => exact fun _ _ _ h => h
            try simp only [Act.put, List.setIfInBounds_toArray, List.set_cons_zero, List.set_cons_succ]
            refine wpAnyH_take (i := 28) (oi := ?oBf_44_28) (v := undef) ?eBf_44_28 (by kernel_rfl) (by kernel_rfl) (by kernel_rfl) ?qBf_44_28 (Or.inr ⟨?wBf_44_28, rfl⟩) (by assumption) ?rBf_44_28
            case eBf_44_28 => simp only [List.getElem?_toArray, List.getElem?_cons_succ, List.getElem?_cons_zero]; rfl
            case wBf_44_28 => rfl
            case qBf_44_28 => exact fun _ _ _ h => h
            try simp only [Act.put, List.setIfInBounds_toArray, List.set_cons_zero, List.set_cons_succ]
            refine wpAnyH_take (i := 29) (oi := ?oBf_45_29) (v := undef) ?eBf_45_29 (by kernel_rfl) (by kernel_rfl) (by kernel_rfl) ?qBf_45_29 (Or.inr ⟨?wBf_45_29, rfl⟩) (by assumption) ?rBf_45_29
            case eBf_45_29 => simp only [List.getElem?_toArray, List.getElem?_cons_succ, List.getElem?_cons_zero]; rfl
            case wBf_45_29 => rfl
            case qBf_45_29 => exact fun _ _ _ h => h
            try simp only [Act.put, List.setIfInBounds_toArray, List.set_cons_zero, List.set_cons_succ]
            refine wpAnyH_take (i := 30) (oi := ?oBf_46_30) (v := undef) ?eBf_46_30 (by kernel_rfl) (by kernel_rfl) (by kernel_rfl) ?qBf_46_30 (Or.inr ⟨?wBf_46_30, rfl⟩) (by assumption) ?rBf_46_30
            case eBf_46_30 => simp only [List.getElem?_toArray, List.getElem?_cons_succ, List.getElem?_cons_zero]; rfl
            case wBf_46_30 => rfl
            case qBf_46_30 => exact fun _ _ _ h => h
            try simp only [Act.put, List.setIfInBounds_toArray, List.set_cons_zero, List.set_cons_succ]
            refine wpAnyH_take (i := 31) (oi := ?oBf_47_31) (v := undef) ?eBf_47_31 (by kernel_rfl) (by kernel_rfl) (by kernel_rfl) ?qBf_47_31 (Or.inr ⟨?wBf_47_31, rfl⟩) (by assumption) ?rBf_47_31
            case eBf_47_31 => simp only [List.getElem?_toArray, List.getElem?_cons_succ, List.getElem?_cons_zero]; rfl
            case wBf_47_31 => rfl
            case qBf_47_31 => exact fun _ _ _ h => h
            try simp only [Act.put, List.setIfInBounds_toArray, List.set_cons_zero, List.set_cons_succ]
            refine wpAnyH_take (i := 32) (oi := ?oBf_48_32) (v := undef) ?eBf_48_32 (by kernel_rfl) (by kernel_rfl) (by kernel_rfl) ?qBf_48_32 (Or.inr ⟨?wBf_48_32, rfl⟩) (by assumption) ?rBf_48_32
            case eBf_48_32 => simp only [List.getElem?_toArray, List.getElem?_cons_succ, List.getElem?_cons_zero]; rfl
            case wBf_48_32 => rfl
            case qBf_48_32 => exact fun _ _ _ h => h
            try simp only [Act.put, List.setIfInBounds_toArray, List.set_cons_zero, List.set_cons_succ]
            refine wpAnyH_take (i := 33) (oi := ?oBf_49_33) (v := undef) ?eBf_49_33 (by kernel_rfl) (by kernel_rfl) (by kernel_rfl) ?qBf_49_33 (Or.inr ⟨?wBf_49_33, rfl⟩) (by assumption) ?rBf_49_33
            case eBf_49_33 => simp only [List.getElem?_toArray, List.getElem?_cons_succ, List.getElem?_cons_zero]; rfl
            case wBf_49_33 => rfl
            case qBf_49_33 => exact fun _ _ _ h => h
            try simp only [Act.put, List.setIfInBounds_toArray, List.set_cons_zero, List.set_cons_succ]
            refine wpAnyH_take (i := 34) (oi := ?oBf_50_34) (v := undef) ?eBf_50_34 (by kernel_rfl) (by kernel_rfl) (by kernel_rfl) ?qBf_50_34 (Or.inr ⟨?wBf_50_34, rfl⟩) (by assumption) ?rBf_50_34
            case eBf_50_34 => simp only [List.getElem?_toArray, List.getElem?_cons_succ, List.getElem?_cons_zero]; rfl
            case wBf_50_34 => rfl
            case qBf_50_34 => exact fun _ _ _ h => h
            try simp only [Act.put, List.setIfInBounds_toArray, List.set_cons_zero, List.set_cons_succ]
            refine wpAnyH_take (i := 35) (oi := ?oBf_51_35) (v := undef) ?eBf_51_35 (by kernel_rfl) (by kernel_rfl) (by kernel_rfl) ?qBf_51_35 (Or.inr ⟨?wBf_51_35, rfl⟩) (by assumption) ?rBf_51_35
            case eBf_51_35 => simp only [List.getElem?_toArray, List.getElem?_cons_succ, List.getElem?_cons_zero]; rfl
            case wBf_51_35 => rfl
            case qBf_51_35 => exact fun _ _ _ h => h
            try simp only [Act.put, List.setIfInBounds_toArray, List.set_cons_zero, List.set_cons_succ]
            refine wpAnyH_take (i := 36) (oi := ?oBf_52_36) (v := undef) ?eBf_52_36 (by kernel_rfl) (by kernel_rfl) (by kernel_rfl) ?qBf_52_36 (Or.inr ⟨?wBf_52_36, rfl⟩) (by assumption) ?rBf_52_36
            case eBf_52_36 => simp only [List.getElem?_toArray, List.getElem?_cons_succ, List.getElem?_cons_zero]; rfl
            case wBf_52_36 => rfl
            case qBf_52_36 => exact fun _ _ _ h => h
            try simp only [Act.put, List.setIfInBounds_toArray, List.set_cons_zero, List.set_cons_succ]
            refine wpAnyH_take (i := 37) (oi := ?oBf_53_37) (v := undef) ?eBf_53_37 (by kernel_rfl) (by kernel_rfl) (by kernel_rfl) ?qBf_53_37 (Or.inr ⟨?wBf_53_37, rfl⟩) (by assumption) ?rBf_53_37
            case eBf_53_37 => simp only [List.getElem?_toArray, List.getElem?_cons_succ, List.getElem?_cons_zero]; rfl
            case wBf_53_37 => rfl
            case qBf_53_37 => exact fun _ _ _ h => h
            try simp only [Act.put, List.setIfInBounds_toArray, List.set_cons_zero, List.set_cons_succ]
            refine wpAnyH_take (i := 38) (oi := ?oBf_54_38) (v := ?vBf_54_38) ?eBf_54_38 (by kernel_rfl) (by kernel_rfl) (by kernel_rfl) ?qBf_54_38 (Or.inl ⟨?wBf_54_38, ?yBf_54_38⟩) (by assumption) ?rBf_54_38
            case eBf_54_38 => simp only [List.getElem?_toArray, List.getElem?_cons_succ, List.getElem?_cons_zero]; rfl
            case wBf_54_38 => rfl
            case qBf_54_38 => exact fun _ _ _ h => h
            case yBf_54_38 => (intro w hSw; (try dsimp only at hSw); go_simp; try with_reducible rfl)
            try simp only [Act.put, List.setIfInBounds_toArray, List.set_cons_zero, List.set_cons_succ]
            refine wpAnyH_done (by kernel_rfl) ?_ _
            go_wp2_with fail
            go_roundw
            · exact ⟨k + 1, by go_num, by omega, HB3.out.trans (D1.out.mono HB3.out.size)⟩
            · simp only [intOf]; omega
          | true =>
            have HOV := Lib.hid ho
            clear ho
            have HMEM := Lib.hid (HSH.out f HFM.out g HGU.out HOV.out)
            go_upto_region 19 with fail
            refine wp_region_held_drew (S := fun w' => (w'.cell? ⟨bh, oh + k * 6, none⟩ = some (.int .u64 f.num) ∧ w'.cell? ⟨bh, oh + k * 6 + 1, none⟩ = some (.int .i64 f.size) ∧ w'.cell? ⟨bh, oh + k * 6 + 2, none⟩ = some (.slice pa f.least.length pc) ∧ w'.cell? ⟨bh, oh + k * 6 + 3, none⟩ = some (.slice qa f.most.length qc) ∧ w'.cell? ⟨bh, oh + k * 6 + 4, none⟩ = some (.int .i64 f.ents) ∧ w'.cell? ⟨bh, oh + k * 6 + 5, none⟩ = some (.int .u64 f.mseq) ∧ w'.cell? ⟨bu, ou + a * 6, none⟩ = some (.int .u64 g.num) ∧ w'.cell? ⟨bu, ou + a * 6 + 1, none⟩ = some (.int .i64 g.size) ∧ w'.cell? ⟨bu, ou + a * 6 + 2, none⟩ = some (.slice ra g.least.length rc) ∧ w'.cell? ⟨bu, ou + a * 6 + 3, none⟩ = some (.slice sa g.most.length sc) ∧ w'.cell? ⟨bu, ou + a * 6 + 4, none⟩ = some (.int .i64 g.ents) ∧ w'.cell? ⟨bu, ou + a * 6 + 5, none⟩ = some (.int .u64 g.mseq) ∧ w'.cell? ⟨jb, 1, none⟩ = some (.slice (some ⟨bu, ou, none⟩) nu uc))) (by kernel_rfl) (HKP.out _ D0.out) (fun hHeld => ?_)
            refine wpAnyH_take (i := 0) (oi := ?oBt_55_0) (v := ?vBt_55_0) ?eBt_55_0 (by kernel_rfl) (by kernel_rfl) (by kernel_rfl) ?qBt_55_0 (Or.inl ⟨?wBt_55_0, ?yBt_55_0⟩) (by assumption) ?rBt_55_0
            case eBt_55_0 => simp only [List.getElem?_toArray, List.getElem?_cons_zero]; rfl
            case wBt_55_0 => rfl
            case qBt_55_0 => exact fun _ _ _ h => h
            case yBt_55_0 => (intro w hSw; (try dsimp only at hSw); go_simp; try with_reducible rfl)
            try simp only [Act.put, List.setIfInBounds_toArray, List.set_cons_zero, List.set_cons_succ]
            refine wpAnyH_take (i := 1) (oi := ?oBt_56_1) (v := ?vBt_56_1) ?eBt_56_1 (by kernel_rfl) (by kernel_rfl) (by kernel_rfl) ?qBt_56_1 (Or.inl ⟨?wBt_56_1, ?yBt_56_1⟩) (by assumption) ?rBt_56_1
            case eBt_56_1 => simp only [List.getElem?_toArray, List.getElem?_cons_succ, List.getElem?_cons_zero]; rfl
            case wBt_56_1 => rfl
            case qBt_56_1 => exact fun _ _ _ h => h
            case yBt_56_1 => (intro w hSw; (try dsimp only at hSw); go_simp; try with_reducible rfl)
            try simp only [Act.put, List.setIfInBounds_toArray, List.set_cons_zero, List.set_cons_succ]
            refine wpAnyH_take (i := 2) (oi := ?oBt_57_2) (v := ?vBt_57_2) ?eBt_57_2 (by kernel_rfl) (by kernel_rfl) (by kernel_rfl) ?qBt_57_2 (Or.inl ⟨?wBt_57_2, ?yBt_57_2⟩) (by assumption) ?rBt_57_2
            case eBt_57_2 => simp only [List.getElem?_toArray, List.getElem?_cons_succ, List.getElem?_cons_zero]; rfl
            case wBt_57_2 => rfl
            case qBt_57_2 => exact fun _ _ _ h => h
            case yBt_57_2 => (intro w hSw; (try dsimp only at hSw); go_simp; try with_reducible rfl)
            try simp only [Act.put, List.setIfInBounds_toArray, List.set_cons_zero, List.set_cons_succ]
            refine wpAnyH_take (i := 3) (oi := ?oBt_58_3) (v := ?vBt_58_3) ?eBt_58_3 (by kernel_rfl) (by kernel_rfl) (by kernel_rfl) ?qBt_58_3 (Or.inl ⟨?wBt_58_3, ?yBt_58_3⟩) (by assumption) ?rBt_58_3
            case eBt_58_3 => simp only [List.getElem?_toArray, List.getElem?_cons_succ, List.getElem?_cons_zero]; rfl
            case wBt_58_3 => rfl
            case qBt_58_3 => exact fun _ _ _ h => h
            case yBt_58_3 => (intro w hSw; (try dsimp only at hSw); go_simp; try with_reducible rfl)
            try simp only [Act.put, List.setIfInBounds_toArray, List.set_cons_zero, List.set_cons_succ]
            refine wpAnyH_take (i := 4) (oi := ?oBt_59_4) (v := ?vBt_59_4) ?eBt_59_4 (by kernel_rfl) (by kernel_rfl) (by kernel_rfl) ?qBt_59_4 (Or.inl ⟨?wBt_59_4, ?yBt_59_4⟩) (by assumption) ?rBt_59_4
            case eBt_59_4 => simp only [List.getElem?_toArray, List.getElem?_cons_succ, List.getElem?_cons_zero]; rfl
            case wBt_59_4 => rfl
            case qBt_59_4 => exact fun _ _ _ h => h
            case yBt_59_4 => (intro w hSw; (try dsimp only at hSw); go_simp; try with_reducible rfl)
            try simp only [Act.put, List.setIfInBounds_toArray, List.set_cons_zero, List.set_cons_succ]
            refine wpAnyH_take (i := 5) (oi := ?oBt_60_5) (v := ?vBt_60_5) ?eBt_60_5 (by kernel_rfl) (by kernel_rfl) (by kernel_rfl) ?qBt_60_5 (Or.inl ⟨?wBt_60_5, ?yBt_60_5⟩) (by assumption) ?rBt_60_5
            case eBt_60_5 => simp only [List.getElem?_toArray, List.getElem?_cons_succ, List.getElem?_cons_zero]; rfl
            case wBt_60_5 => rfl
            case qBt_60_5 => exact fun _ _ _ h => h
            case yBt_60_5 => (intro w hSw; (try dsimp only at hSw); go_simp; try with_reducible rfl)
            try simp only [Act.put, List.setIfInBounds_toArray, List.set_cons_zero, List.set_cons_succ]
            refine wpAnyH_take (i := 6) (oi := ?oBt_61_6) (v := ?vBt_61_6) ?eBt_61_6 (by kernel_rfl) (by kernel_rfl) (by kernel_rfl) ?qBt_61_6 (Or.inl ⟨?wBt_61_6, ?yBt_61_6⟩) (by assumption) ?rBt_61_6
            case eBt_61_6 => simp only [List.getElem?_toArray, List.getElem?_cons_succ, List.getElem?_cons_zero]; rfl
            case wBt_61_6 => rfl
            case qBt_61_6 => exact fun _ _ _ h => h
            case yBt_61_6 => (intro w hSw; (try dsimp only at hSw); go_simp; try with_reducible rfl)
            try simp only [Act.put, List.setIfInBounds_toArray, List.set_cons_zero, List.set_cons_succ]
            refine wpAnyH_take (i := 7) (oi := ?oBt_62_7) (v := ?vBt_62_7) ?eBt_62_7 (by kernel_rfl) (by kernel_rfl) (by kernel_rfl) ?qBt_62_7 (Or.inl ⟨?wBt_62_7, ?yBt_62_7⟩) (by assumption) ?rBt_62_7
            case eBt_62_7 => simp only [List.getElem?_toArray, List.getElem?_cons_succ, List.getElem?_cons_zero]; rfl
            case wBt_62_7 => rfl
            case qBt_62_7 => exact fun _ _ _ h => h
            case yBt_62_7 => (intro w hSw; (try dsimp only at hSw); go_simp; try with_reducible rfl)
            try simp only [Act.put, List.setIfInBounds_toArray, List.set_cons_zero, List.set_cons_succ]
            refine wpAnyH_take (i := 8) (oi := ?oBt_63_8) (v := ?vBt_63_8) ?eBt_63_8 (by kernel_rfl) (by kernel_rfl) (by kernel_rfl) ?qBt_63_8 (Or.inl ⟨?wBt_63_8, ?yBt_63_8⟩) (by assumption) ?rBt_63_8
            case eBt_63_8 => simp only [List.getElem?_toArray, List.getElem?_cons_succ, List.getElem?_cons_zero]; rfl
            case wBt_63_8 => rfl
            case qBt_63_8 => exact fun _ _ _ h => h
            case yBt_63_8 => (intro w hSw; (try dsimp only at hSw); go_simp; try with_reducible rfl)
            try simp only [Act.put, List.setIfInBounds_toArray, List.set_cons_zero, List.set_cons_succ]
            have hOld := hHeld
            clear hHeld
            refine wpAnyH_ready (rs := [9]) (by kernel_rfl) (by simp) ?_
            refine AllReadyH.cons (o := ?oBt_64_9) ?eBt_64_9 (fun K hK => ?_) AllReadyH.nil
            case eBt_64_9 => simp only [List.getElem?_toArray, List.getElem?_cons_succ, List.getElem?_cons_zero]; rfl
            go_simp
            (go_at_call 16; refine Calls.mono (overlaps_at _ _ _ _ f g _ _ _ _ _ (HP1.out.below D0.out) (HP2.out.below D0.out) (HG1.out.below D0.out) (HG2.out.below D0.out) HOV.out) ?_; rintro _ y1 ⟨rfl, hb1⟩; have D1 : Hid (Below wr.heap.size wr y1) := D0.out.trans (hb1.mono D0.out.size))
            try go_wp2_with fail
            refine hK.out _ _ (HKP.out _ D1.out) (fun hHeld => ?_)
            clear hK hOld
            try simp only [Act.put, List.setIfInBounds_toArray, List.set_cons_zero, List.set_cons_succ]
            refine wpAnyH_take (i := 10) (oi := ?oBt_65_10) (v := ?vBt_65_10) ?eBt_65_10 (by kernel_rfl) (by kernel_rfl) (by kernel_rfl) ?qBt_65_10 (Or.inl ⟨?wBt_65_10, ?yBt_65_10⟩) (by assumption) ?rBt_65_10
            case eBt_65_10 => simp only [List.getElem?_toArray, List.getElem?_cons_succ, List.getElem?_cons_zero]; rfl
            case wBt_65_10 => rfl
            case qBt_65_10 => exact fun _ _ _ h => h
            case yBt_65_10 => (intro w hSw; (try dsimp only at hSw); go_simp; try with_reducible rfl)
            try simp only [Act.put, List.setIfInBounds_toArray, List.set_cons_zero, List.set_cons_succ]
            refine wpAnyH_take (i := 11) (oi := ?oBt_66_11) (v := ?vBt_66_11) ?eBt_66_11 (by kernel_rfl) (by kernel_rfl) (by kernel_rfl) ?qBt_66_11 (Or.inl ⟨?wBt_66_11, ?yBt_66_11⟩) (by assumption) ?rBt_66_11
            case eBt_66_11 => simp only [List.getElem?_toArray, List.getElem?_cons_succ, List.getElem?_cons_zero]; rfl
            case wBt_66_11 => rfl
            case qBt_66_11 => exact fun _ _ _ h => h
            case yBt_66_11 => (intro w hSw; (try dsimp only at hSw); go_simp; try with_reducible rfl)
            try simp only [Act.put, List.setIfInBounds_toArray, List.set_cons_zero, List.set_cons_succ]
            refine wpAnyH_take (i := 12) (oi := ?oBt_67_12) (v := ?vBt_67_12) ?eBt_67_12 (by kernel_rfl) (by kernel_rfl) (by kernel_rfl) ?qBt_67_12 (Or.inl ⟨?wBt_67_12, ?yBt_67_12⟩) (by assumption) ?rBt_67_12
            case eBt_67_12 => simp only [List.getElem?_toArray, List.getElem?_cons_succ, List.getElem?_cons_zero]; rfl
            case wBt_67_12 => rfl
            case qBt_67_12 => exact fun _ _ _ h => h
            case yBt_67_12 => (intro w hSw; (try dsimp only at hSw); go_simp; try with_reducible rfl)
            try simp only [Act.put, List.setIfInBounds_toArray, List.set_cons_zero, List.set_cons_succ]
            refine wpAnyH_take (i := 13) (oi := ?oBt_68_13) (v := ?vBt_68_13) ?eBt_68_13 (by kernel_rfl) (by kernel_rfl) (by kernel_rfl) ?qBt_68_13 (Or.inl ⟨?wBt_68_13, ?yBt_68_13⟩) (by assumption) ?rBt_68_13
            case eBt_68_13 => simp only [List.getElem?_toArray, List.getElem?_cons_succ, List.getElem?_cons_zero]; rfl
            case wBt_68_13 => rfl
            case qBt_68_13 => exact fun _ _ _ h => h
            case yBt_68_13 => (intro w hSw; (try dsimp only at hSw); go_simp; try with_reducible rfl)
            try simp only [Act.put, List.setIfInBounds_toArray, List.set_cons_zero, List.set_cons_succ]
            refine wpAnyH_take (i := 14) (oi := ?oBt_69_14) (v := ?vBt_69_14) ?eBt_69_14 (by kernel_rfl) (by kernel_rfl) (by kernel_rfl) ?qBt_69_14 (Or.inl ⟨?wBt_69_14, ?yBt_69_14⟩) (by assumption) ?rBt_69_14
            case eBt_69_14 => simp only [List.getElem?_toArray, List.getElem?_cons_succ, List.getElem?_cons_zero]; rfl
            case wBt_69_14 => rfl
            case qBt_69_14 => exact fun _ _ _ h => h
            case yBt_69_14 => (intro w hSw; (try dsimp only at hSw); go_simp; try with_reducible rfl)
            try simp only [Act.put, List.setIfInBounds_toArray, List.set_cons_zero, List.set_cons_succ]
            refine wpAnyH_take (i := 15) (oi := ?oBt_70_15) (v := ?vBt_70_15) ?eBt_70_15 (by kernel_rfl) (by kernel_rfl) (by kernel_rfl) ?qBt_70_15 (Or.inl ⟨?wBt_70_15, ?yBt_70_15⟩) (by assumption) ?rBt_70_15
            case eBt_70_15 => simp only [List.getElem?_toArray, List.getElem?_cons_succ, List.getElem?_cons_zero]; rfl
            case wBt_70_15 => rfl
            case qBt_70_15 => exact fun _ _ _ h => h
            case yBt_70_15 => (intro w hSw; (try dsimp only at hSw); go_simp; try with_reducible rfl)
            try simp only [Act.put, List.setIfInBounds_toArray, List.set_cons_zero, List.set_cons_succ]
            refine wpAnyH_take (i := 16) (oi := ?oBt_71_16) (v := ?vBt_71_16) ?eBt_71_16 (by kernel_rfl) (by kernel_rfl) (by kernel_rfl) ?qBt_71_16 (Or.inl ⟨?wBt_71_16, ?yBt_71_16⟩) (by assumption) ?rBt_71_16
            case eBt_71_16 => simp only [List.getElem?_toArray, List.getElem?_cons_succ, List.getElem?_cons_zero]; rfl
            case wBt_71_16 => rfl
            case qBt_71_16 => exact fun _ _ _ h => h
            case yBt_71_16 => (intro w hSw; (try dsimp only at hSw); go_simp; try with_reducible rfl)
            try simp only [Act.put, List.setIfInBounds_toArray, List.set_cons_zero, List.set_cons_succ]
            have hOld := hHeld
            clear hHeld
            refine wpAnyH_ready (rs := [17]) (by kernel_rfl) (by simp) ?_
            refine AllReadyH.cons (o := ?oBt_72_17) ?eBt_72_17 (fun K hK => ?_) AllReadyH.nil
            case eBt_72_17 => simp only [List.getElem?_toArray, List.getElem?_cons_succ, List.getElem?_cons_zero]; rfl
            go_simp
            (go_at_call 15; refine Calls.mono (among_yes _ (.slice (some ⟨bu, ou, none⟩) nu uc) U f _ _ _ (HU3.out.below D1.out) (by rw [HNU.out]; exact Nat.le_trans HUF.out (by decide)) HMEM.out) ?_; rintro _ y2 ⟨rfl, hb2⟩; have D2 : Hid (Below wr.heap.size wr y2) := D1.out.trans (hb2.mono D1.out.size))
            try go_wp2_with fail
            refine hK.out _ _ (HKP.out _ D2.out) (fun hHeld => ?_)
            clear hK hOld
            try simp only [Act.put, List.setIfInBounds_toArray, List.set_cons_zero, List.set_cons_succ]
            refine wpAnyH_take (i := 18) (oi := ?oBt_73_18) (v := ?vBt_73_18) ?eBt_73_18 (by kernel_rfl) (by kernel_rfl) (by kernel_rfl) ?qBt_73_18 (Or.inl ⟨?wBt_73_18, ?yBt_73_18⟩) (by assumption) ?rBt_73_18
            case eBt_73_18 => simp only [List.getElem?_toArray, List.getElem?_cons_succ, List.getElem?_cons_zero]; rfl
            case wBt_73_18 => rfl
            case qBt_73_18 => exact fun _ _ _ h => h
            case yBt_73_18 => (intro w hSw; (try dsimp only at hSw); go_simp; try with_reducible rfl)
            try simp only [Act.put, List.setIfInBounds_toArray, List.set_cons_zero, List.set_cons_succ]
            refine wpAnyH_take (i := 19) (oi := ?oBt_74_19) (v := ?vBt_74_19) ?eBt_74_19 (by kernel_rfl) (by kernel_rfl) (by kernel_rfl) ?qBt_74_19 (Or.inl ⟨?wBt_74_19, ?yBt_74_19⟩) (by assumption) ?rBt_74_19
            case eBt_74_19 => simp only [List.getElem?_toArray, List.getElem?_cons_succ, List.getElem?_cons_zero]; rfl
            case wBt_74_19 => rfl
            case qBt_74_19 => exact fun _ _ _ h => h
            case yBt_74_19 => (intro w hSw; (try dsimp only at hSw); go_simp; try with_reducible rfl)
            try simp only [Act.put, List.setIfInBounds_toArray, List.set_cons_zero, List.set_cons_succ]
            refine wpAnyH_take (i := 20) (oi := ?oBt_75_20) (v := ?vBt_75_20) ?eBt_75_20 (by kernel_rfl) (by kernel_rfl) (by kernel_rfl) ?qBt_75_20 (Or.inl ⟨?wBt_75_20, ?yBt_75_20⟩) (by assumption) ?rBt_75_20
            case eBt_75_20 => simp only [List.getElem?_toArray, List.getElem?_cons_succ, List.getElem?_cons_zero]; rfl
            case wBt_75_20 => rfl
            case qBt_75_20 => exact fun _ _ _ h => h
            case yBt_75_20 => (intro w hSw; (try dsimp only at hSw); go_simp; try with_reducible rfl)
            try simp only [Act.put, List.setIfInBounds_toArray, List.set_cons_zero, List.set_cons_succ]
            refine wpAnyH_take (i := 21) (oi := ?oBt_76_21) (v := undef) ?eBt_76_21 (by kernel_rfl) (by kernel_rfl) (by kernel_rfl) ?qBt_76_21 (Or.inr ⟨?wBt_76_21, rfl⟩) (by assumption) ?rBt_76_21
            case eBt_76_21 => simp only [List.getElem?_toArray, List.getElem?_cons_succ, List.getElem?_cons_zero]; rfl
            case wBt_76_21 => rfl
            case qBt_76_21 => exact fun _ _ _ h => h
            try simp only [Act.put, List.setIfInBounds_toArray, List.set_cons_zero, List.set_cons_succ]
            refine wpAnyH_take (i := 22) (oi := ?oBt_77_22) (v := undef) ?eBt_77_22 (by kernel_rfl) (by kernel_rfl) (by kernel_rfl) ?qBt_77_22 (Or.inr ⟨?wBt_77_22, rfl⟩) (by assumption) ?rBt_77_22
            case eBt_77_22 => simp only [List.getElem?_toArray, List.getElem?_cons_succ, List.getElem?_cons_zero]; rfl
            case wBt_77_22 => rfl
            case qBt_77_22 => exact fun _ _ _ h => h
            try simp only [Act.put, List.setIfInBounds_toArray, List.set_cons_zero, List.set_cons_succ]
            refine wpAnyH_take (i := 23) (oi := ?oBt_78_23) (v := undef) ?eBt_78_23 (by kernel_rfl) (by kernel_rfl) (by kernel_rfl) ?qBt_78_23 (Or.inr ⟨?wBt_78_23, rfl⟩) (by assumption) ?rBt_78_23
            case eBt_78_23 => simp only [List.getElem?_toArray, List.getElem?_cons_succ, List.getElem?_cons_zero]; rfl
            case wBt_78_23 => rfl
            case qBt_78_23 => exact fun _ _ _ h => h
            try simp only [Act.put, List.setIfInBounds_toArray, List.set_cons_zero, List.set_cons_succ]
            refine wpAnyH_take (i := 24) (oi := ?oBt_79_24) (v := undef) ?eBt_79_24 (by kernel_rfl) (by kernel_rfl) (by kernel_rfl) ?qBt_79_24 (Or.inr ⟨?wBt_79_24, rfl⟩) (by assumption) ?rBt_79_24
            case eBt_79_24 => simp only [List.getElem?_toArray, List.getElem?_cons_succ, List.getElem?_cons_zero]; rfl
            case wBt_79_24 => rfl
            case qBt_79_24 => exact fun _ _ _ h => h
            try simp only [Act.put, List.setIfInBounds_toArray, List.set_cons_zero, List.set_cons_succ]
            refine wpAnyH_take (i := 25) (oi := ?oBt_80_25) (v := undef) ?eBt_80_25 (by kernel_rfl) (by kernel_rfl) (by kernel_rfl) ?qBt_80_25 (Or.inr ⟨?wBt_80_25, rfl⟩) (by assumption) ?rBt_80_25
            case eBt_80_25 => simp only [List.getElem?_toArray, List.getElem?_cons_succ, List.getElem?_cons_zero]; rfl
            case wBt_80_25 => rfl
            case qBt_80_25 => exact fun _ _ _ h => h
            try simp only [Act.put, List.setIfInBounds_toArray, List.set_cons_zero, List.set_cons_succ]
            refine wpAnyH_take (i := 26) (oi := ?oBt_81_26) (v := undef) ?eBt_81_26 (by kernel_rfl) (by kernel_rfl) (by kernel_rfl) ?qBt_81_26 (Or.inr ⟨?wBt_81_26, rfl⟩) (by assumption) ?rBt_81_26
            case eBt_81_26 => simp only [List.getElem?_toArray, List.getElem?_cons_succ, List.getElem?_cons_zero]; rfl
            case wBt_81_26 => rfl
            case qBt_81_26 => exact fun _ _ _ h => h
            try simp only [Act.put, List.setIfInBounds_toArray, List.set_cons_zero, List.set_cons_succ]
            refine wpAnyH_take (i := 27) (oi := ?oBt_82_27) (v := undef) ?eBt_82_27 (by kernel_rfl) (by kernel_rfl) (by kernel_rfl) ?qBt_82_27 (Or.inr ⟨?wBt_82_27, rfl⟩) (by assumption) ?rBt_82_27
            case eBt_82_27 => simp only [List.getElem?_toArray, List.getElem?_cons_succ, List.getElem?_cons_zero]; rfl
            case wBt_82_27 => rfl
            case qBt_82_27 => exact fun _ _ _ h => h
            try simp only [Act.put, List.setIfInBounds_toArray, List.set_cons_zero, List.set_cons_succ]
            refine wpAnyH_take (i := 28) (oi := ?oBt_83_28) (v := undef) ?eBt_83_28 (by kernel_rfl) (by kernel_rfl) (by kernel_rfl) ?qBt_83_28 (Or.inr ⟨?wBt_83_28, rfl⟩) (by assumption) ?rBt_83_28
            case eBt_83_28 => simp only [List.getElem?_toArray, List.getElem?_cons_succ, List.getElem?_cons_zero]; rfl
            case wBt_83_28 => rfl
            case qBt_83_28 => exact fun _ _ _ h => h
            try simp only [Act.put, List.setIfInBounds_toArray, List.set_cons_zero, List.set_cons_succ]
            refine wpAnyH_take (i := 29) (oi := ?oBt_84_29) (v := undef) ?eBt_84_29 (by kernel_rfl) (by kernel_rfl) (by kernel_rfl) ?qBt_84_29 (Or.inr ⟨?wBt_84_29, rfl⟩) (by assumption) ?rBt_84_29
            case eBt_84_29 => simp only [List.getElem?_toArray, List.getElem?_cons_succ, List.getElem?_cons_zero]; rfl
            case wBt_84_29 => rfl
            case qBt_84_29 => exact fun _ _ _ h => h
            try simp only [Act.put, List.setIfInBounds_toArray, List.set_cons_zero, List.set_cons_succ]
            refine wpAnyH_take (i := 30) (oi := ?oBt_85_30) (v := undef) ?eBt_85_30 (by kernel_rfl) (by kernel_rfl) (by kernel_rfl) ?qBt_85_30 (Or.inr ⟨?wBt_85_30, rfl⟩) (by assumption) ?rBt_85_30
            case eBt_85_30 => simp only [List.getElem?_toArray, List.getElem?_cons_succ, List.getElem?_cons_zero]; rfl
            case wBt_85_30 => rfl
            case qBt_85_30 => exact fun _ _ _ h => h
            try simp only [Act.put, List.setIfInBounds_toArray, List.set_cons_zero, List.set_cons_succ]
            refine wpAnyH_take (i := 31) (oi := ?oBt_86_31) (v := undef) ?eBt_86_31 (by kernel_rfl) (by kernel_rfl) (by kernel_rfl) ?qBt_86_31 (Or.inr ⟨?wBt_86_31, rfl⟩) (by assumption) ?rBt_86_31
            case eBt_86_31 => simp only [List.getElem?_toArray, List.getElem?_cons_succ, List.getElem?_cons_zero]; rfl
            case wBt_86_31 => rfl
            case qBt_86_31 => exact fun _ _ _ h => h
            try simp only [Act.put, List.setIfInBounds_toArray, List.set_cons_zero, List.set_cons_succ]
            refine wpAnyH_take (i := 32) (oi := ?oBt_87_32) (v := undef) ?eBt_87_32 (by kernel_rfl) (by kernel_rfl) (by kernel_rfl) ?qBt_87_32 (Or.inr ⟨?wBt_87_32, rfl⟩) (by assumption) ?rBt_87_32
            case eBt_87_32 => simp only [List.getElem?_toArray, List.getElem?_cons_succ, List.getElem?_cons_zero]; rfl
            case wBt_87_32 => rfl
            case qBt_87_32 => exact fun _ _ _ h => h
            try simp only [Act.put, List.setIfInBounds_toArray, List.set_cons_zero, List.set_cons_succ]
            refine wpAnyH_take (i := 33) (oi := ?oBt_88_33) (v := undef) ?eBt_88_33 (by kernel_rfl) (by kernel_rfl) (by kernel_rfl) ?qBt_88_33 (Or.inr ⟨?wBt_88_33, rfl⟩) (by assumption) ?rBt_88_33
            case eBt_88_33 => simp only [List.getElem?_toArray, List.getElem?_cons_succ, List.getElem?_cons_zero]; rfl
            case wBt_88_33 => rfl
            case qBt_88_33 => exact fun _ _ _ h => h
            try simp only [Act.put, List.setIfInBounds_toArray, List.set_cons_zero, List.set_cons_succ]
            refine wpAnyH_take (i := 34) (oi := ?oBt_89_34) (v := undef) ?eBt_89_34 (by kernel_rfl) (by kernel_rfl) (by kernel_rfl) ?qBt_89_34 (Or.inr ⟨?wBt_89_34, rfl⟩) (by assumption) ?rBt_89_34
            case eBt_89_34 => simp only [List.getElem?_toArray, List.getElem?_cons_succ, List.getElem?_cons_zero]; rfl
            case wBt_89_34 => rfl
            case qBt_89_34 => exact fun _ _ _ h => h
            try simp only [Act.put, List.setIfInBounds_toArray, List.set_cons_zero, List.set_cons_succ]
            refine wpAnyH_take (i := 35) (oi := ?oBt_90_35) (v := undef) ?eBt_90_35 (by kernel_rfl) (by kernel_rfl) (by kernel_rfl) ?qBt_90_35 (Or.inr ⟨?wBt_90_35, rfl⟩) (by assumption) ?rBt_90_35
            case eBt_90_35 => simp only [List.getElem?_toArray, List.getElem?_cons_succ, List.getElem?_cons_zero]; rfl
            case wBt_90_35 => rfl
            case qBt_90_35 => exact fun _ _ _ h => h
            try simp only [Act.put, List.setIfInBounds_toArray, List.set_cons_zero, List.set_cons_succ]
            refine wpAnyH_take (i := 36) (oi := ?oBt_91_36) (v := undef) ?eBt_91_36 (by kernel_rfl) (by kernel_rfl) (by kernel_rfl) ?qBt_91_36 (Or.inr ⟨?wBt_91_36, rfl⟩) (by assumption) ?rBt_91_36
            case eBt_91_36 => simp only [List.getElem?_toArray, List.getElem?_cons_succ, List.getElem?_cons_zero]; rfl
            case wBt_91_36 => rfl
            case qBt_91_36 => exact fun _ _ _ h => h
            try simp only [Act.put, List.setIfInBounds_toArray, List.set_cons_zero, List.set_cons_succ]
            refine wpAnyH_take (i := 37) (oi := ?oBt_92_37) (v := undef) ?eBt_92_37 (by kernel_rfl) (by kernel_rfl) (by kernel_rfl) ?qBt_92_37 (Or.inr ⟨?wBt_92_37, rfl⟩) (by assumption) ?rBt_92_37
            case eBt_92_37 => simp only [List.getElem?_toArray, List.getElem?_cons_succ, List.getElem?_cons_zero]; rfl
            case wBt_92_37 => rfl
            case qBt_92_37 => exact fun _ _ _ h => h
            try simp only [Act.put, List.setIfInBounds_toArray, List.set_cons_zero, List.set_cons_succ]
            refine wpAnyH_take (i := 38) (oi := ?oBt_93_38) (v := ?vBt_93_38) ?eBt_93_38 (by kernel_rfl) (by kernel_rfl) (by kernel_rfl) ?qBt_93_38 (Or.inl ⟨?wBt_93_38, ?yBt_93_38⟩) (by assumption) ?rBt_93_38
            case eBt_93_38 => simp only [List.getElem?_toArray, List.getElem?_cons_succ, List.getElem?_cons_zero]; rfl
            case wBt_93_38 => rfl
            case qBt_93_38 => exact fun _ _ _ h => h
            case yBt_93_38 => (intro w hSw; (try dsimp only at hSw); go_simp; try with_reducible rfl)
            try simp only [Act.put, List.setIfInBounds_toArray, List.set_cons_zero, List.set_cons_succ]
            refine wpAnyH_done (by kernel_rfl) ?_ _
            go_wp2_with fail
            go_roundw
            · exact ⟨k + 1, by go_num, by omega, HB3.out.trans (D2.out.mono HB3.out.size)⟩
            · simp only [intOf]; omega
        · have u1 : ¬ (k : Int) < (nh : Int) := by omega
          have HB2 := HB3
          clear HB3 hk hkn
          go_wp2_with fail
          go_loopw [11] (fun kv wr => ∃ k : Nat, kv = .int .i64 (k : Int) ∧ k ≤ nn ∧ Hid (Below w9.heap.size w9 wr)) (fun kv _ => nn - (intOf kv).toNat)
          case atStart => exact ⟨0, rfl, by omega, HB2.out⟩
          case round =>
            obtain ⟨k, rfl, hk, HB3⟩ := hrel
            clear HB2
            by_cases hkn : k < nn
            · have u0 : nn ≤ 10000 := HLM2.out
              have u1 : (k : Int) < (nn : Int) := by omega
              have u2 : 0 ≤ (k : Int) := by omega
              have u3 : (a : Int) < (nu : Int) := by omega
              have u4 : 0 ≤ (a : Int) := by omega
              obtain ⟨bh, oh, rfl, pa, pc, qa, qc, hp1, hp2, hp6⟩ := fil_at (HNE9.out.below HB3.out) HNN.out hkn
              have HFM := Lib.hid (fat_mem (l := next) (i := k) (by rw [HNN.out]; exact hkn))
              obtain ⟨f, hf⟩ : ∃ f, fat next k = f := ⟨_, rfl⟩
              rw [hf] at hp1 hp2 hp6 HFM
              clear hf
              have HP1 := Lib.hid hp1
              have HP2 := Lib.hid hp2
              have HP6 := Lib.hid hp6
              have HG1 := Lib.hid (HGL.out.below HB3.out)
              have HG2 := Lib.hid (HGM.out.below HB3.out)
              clear hp1 hp2 hp6
              have HS3 := Lib.hid (HS9.out.below HB3.out)
              have HU3 := Lib.hid (HU9.out.below HB3.out)
              have HO3 := Lib.hid (HO9.out.below HB3.out)
              have HKP : Hid (∀ W, Below wr.heap.size wr W → (W.cell? ⟨bh, oh + k * 6, none⟩ = some (.int .u64 f.num) ∧ W.cell? ⟨bh, oh + k * 6 + 1, none⟩ = some (.int .i64 f.size) ∧ W.cell? ⟨bh, oh + k * 6 + 2, none⟩ = some (.slice pa f.least.length pc) ∧ W.cell? ⟨bh, oh + k * 6 + 3, none⟩ = some (.slice qa f.most.length qc) ∧ W.cell? ⟨bh, oh + k * 6 + 4, none⟩ = some (.int .i64 f.ents) ∧ W.cell? ⟨bh, oh + k * 6 + 5, none⟩ = some (.int .u64 f.mseq) ∧ W.cell? ⟨bu, ou + a * 6, none⟩ = some (.int .u64 g.num) ∧ W.cell? ⟨bu, ou + a * 6 + 1, none⟩ = some (.int .i64 g.size) ∧ W.cell? ⟨bu, ou + a * 6 + 2, none⟩ = some (.slice ra g.least.length rc) ∧ W.cell? ⟨bu, ou + a * 6 + 3, none⟩ = some (.slice sa g.most.length sc) ∧ W.cell? ⟨bu, ou + a * 6 + 4, none⟩ = some (.int .i64 g.ents) ∧ W.cell? ⟨bu, ou + a * 6 + 5, none⟩ = some (.int .u64 g.mseq) ∧ W.cell? ⟨jb, 1, none⟩ = some (.slice (some ⟨bu, ou, none⟩) nu uc) ∧ W.cell? ⟨jb, 2, none⟩ = some (.slice oa Lo.length oc))) := fun W hb => by
                obtain ⟨y0, y1, y2, y3, y4, y5⟩ := HP6.out.keep hb (World.block_lt_of_cell? _ _ HP6.out.1)
                have hg6 := (HG6.out.keep HB3.out HBU.out).keep hb (Nat.lt_of_lt_of_le HBU.out HB3.out.size)
                obtain ⟨z0, z1, z2, z3, z4, z5⟩ := hg6
                have hj := HS3.out.j.below hb HS3.out.j.lt
                exact ⟨y0, y1, y2, y3, y4, y5, z0, z1, z2, z3, z4, z5, hj.cell rfl, hj.cell rfl⟩
              have D0 : Hid (Below wr.heap.size wr wr.drew) := below_drew (Below.refl _ _)
              cases ho : ovl f g with
              | false =>
                have HOV := Lib.hid ho
                clear ho
                go_upto_region 24 with fail
                refine wp_region_held_drew (S := fun w' => (w'.cell? ⟨bh, oh + k * 6, none⟩ = some (.int .u64 f.num) ∧ w'.cell? ⟨bh, oh + k * 6 + 1, none⟩ = some (.int .i64 f.size) ∧ w'.cell? ⟨bh, oh + k * 6 + 2, none⟩ = some (.slice pa f.least.length pc) ∧ w'.cell? ⟨bh, oh + k * 6 + 3, none⟩ = some (.slice qa f.most.length qc) ∧ w'.cell? ⟨bh, oh + k * 6 + 4, none⟩ = some (.int .i64 f.ents) ∧ w'.cell? ⟨bh, oh + k * 6 + 5, none⟩ = some (.int .u64 f.mseq) ∧ w'.cell? ⟨bu, ou + a * 6, none⟩ = some (.int .u64 g.num) ∧ w'.cell? ⟨bu, ou + a * 6 + 1, none⟩ = some (.int .i64 g.size) ∧ w'.cell? ⟨bu, ou + a * 6 + 2, none⟩ = some (.slice ra g.least.length rc) ∧ w'.cell? ⟨bu, ou + a * 6 + 3, none⟩ = some (.slice sa g.most.length sc) ∧ w'.cell? ⟨bu, ou + a * 6 + 4, none⟩ = some (.int .i64 g.ents) ∧ w'.cell? ⟨bu, ou + a * 6 + 5, none⟩ = some (.int .u64 g.mseq) ∧ w'.cell? ⟨jb, 1, none⟩ = some (.slice (some ⟨bu, ou, none⟩) nu uc) ∧ w'.cell? ⟨jb, 2, none⟩ = some (.slice oa Lo.length oc))) (by kernel_rfl) (HKP.out _ D0.out) (fun hHeld => ?_)
                refine wpAnyH_take (i := 0) (oi := ?oCf_94_0) (v := ?vCf_94_0) ?eCf_94_0 (by kernel_rfl) (by kernel_rfl) (by kernel_rfl) ?qCf_94_0 (Or.inl ⟨?wCf_94_0, ?yCf_94_0⟩) (by assumption) ?rCf_94_0
                case eCf_94_0 => simp only [List.getElem?_toArray, List.getElem?_cons_zero]; rfl
                case wCf_94_0 => rfl
                case qCf_94_0 => exact fun _ _ _ h => h
                case yCf_94_0 => (intro w hSw; (try dsimp only at hSw); go_simp; try with_reducible rfl)
                try simp only [Act.put, List.setIfInBounds_toArray, List.set_cons_zero, List.set_cons_succ]
                refine wpAnyH_take (i := 1) (oi := ?oCf_95_1) (v := ?vCf_95_1) ?eCf_95_1 (by kernel_rfl) (by kernel_rfl) (by kernel_rfl) ?qCf_95_1 (Or.inl ⟨?wCf_95_1, ?yCf_95_1⟩) (by assumption) ?rCf_95_1
                case eCf_95_1 => simp only [List.getElem?_toArray, List.getElem?_cons_succ, List.getElem?_cons_zero]; rfl
                case wCf_95_1 => rfl
                case qCf_95_1 => exact fun _ _ _ h => h
                case yCf_95_1 => (intro w hSw; (try dsimp only at hSw); go_simp; try with_reducible rfl)
                try simp only [Act.put, List.setIfInBounds_toArray, List.set_cons_zero, List.set_cons_succ]
                refine wpAnyH_take (i := 2) (oi := ?oCf_96_2) (v := ?vCf_96_2) ?eCf_96_2 (by kernel_rfl) (by kernel_rfl) (by kernel_rfl) ?qCf_96_2 (Or.inl ⟨?wCf_96_2, ?yCf_96_2⟩) (by assumption) ?rCf_96_2
                case eCf_96_2 => simp only [List.getElem?_toArray, List.getElem?_cons_succ, List.getElem?_cons_zero]; rfl
                case wCf_96_2 => rfl
                case qCf_96_2 => exact fun _ _ _ h => h
                case yCf_96_2 => (intro w hSw; (try dsimp only at hSw); go_simp; try with_reducible rfl)
                try simp only [Act.put, List.setIfInBounds_toArray, List.set_cons_zero, List.set_cons_succ]
                refine wpAnyH_take (i := 3) (oi := ?oCf_97_3) (v := ?vCf_97_3) ?eCf_97_3 (by kernel_rfl) (by kernel_rfl) (by kernel_rfl) ?qCf_97_3 (Or.inl ⟨?wCf_97_3, ?yCf_97_3⟩) (by assumption) ?rCf_97_3
                case eCf_97_3 => simp only [List.getElem?_toArray, List.getElem?_cons_succ, List.getElem?_cons_zero]; rfl
                case wCf_97_3 => rfl
                case qCf_97_3 => exact fun _ _ _ h => h
                case yCf_97_3 => (intro w hSw; (try dsimp only at hSw); go_simp; try with_reducible rfl)
                try simp only [Act.put, List.setIfInBounds_toArray, List.set_cons_zero, List.set_cons_succ]
                refine wpAnyH_take (i := 4) (oi := ?oCf_98_4) (v := ?vCf_98_4) ?eCf_98_4 (by kernel_rfl) (by kernel_rfl) (by kernel_rfl) ?qCf_98_4 (Or.inl ⟨?wCf_98_4, ?yCf_98_4⟩) (by assumption) ?rCf_98_4
                case eCf_98_4 => simp only [List.getElem?_toArray, List.getElem?_cons_succ, List.getElem?_cons_zero]; rfl
                case wCf_98_4 => rfl
                case qCf_98_4 => exact fun _ _ _ h => h
                case yCf_98_4 => (intro w hSw; (try dsimp only at hSw); go_simp; try with_reducible rfl)
                try simp only [Act.put, List.setIfInBounds_toArray, List.set_cons_zero, List.set_cons_succ]
                refine wpAnyH_take (i := 5) (oi := ?oCf_99_5) (v := ?vCf_99_5) ?eCf_99_5 (by kernel_rfl) (by kernel_rfl) (by kernel_rfl) ?qCf_99_5 (Or.inl ⟨?wCf_99_5, ?yCf_99_5⟩) (by assumption) ?rCf_99_5
                case eCf_99_5 => simp only [List.getElem?_toArray, List.getElem?_cons_succ, List.getElem?_cons_zero]; rfl
                case wCf_99_5 => rfl
                case qCf_99_5 => exact fun _ _ _ h => h
                case yCf_99_5 => (intro w hSw; (try dsimp only at hSw); go_simp; try with_reducible rfl)
                try simp only [Act.put, List.setIfInBounds_toArray, List.set_cons_zero, List.set_cons_succ]
                refine wpAnyH_take (i := 6) (oi := ?oCf_100_6) (v := ?vCf_100_6) ?eCf_100_6 (by kernel_rfl) (by kernel_rfl) (by kernel_rfl) ?qCf_100_6 (Or.inl ⟨?wCf_100_6, ?yCf_100_6⟩) (by assumption) ?rCf_100_6
                case eCf_100_6 => simp only [List.getElem?_toArray, List.getElem?_cons_succ, List.getElem?_cons_zero]; rfl
                case wCf_100_6 => rfl
                case qCf_100_6 => exact fun _ _ _ h => h
                case yCf_100_6 => (intro w hSw; (try dsimp only at hSw); go_simp; try with_reducible rfl)
                try simp only [Act.put, List.setIfInBounds_toArray, List.set_cons_zero, List.set_cons_succ]
                refine wpAnyH_take (i := 7) (oi := ?oCf_101_7) (v := ?vCf_101_7) ?eCf_101_7 (by kernel_rfl) (by kernel_rfl) (by kernel_rfl) ?qCf_101_7 (Or.inl ⟨?wCf_101_7, ?yCf_101_7⟩) (by assumption) ?rCf_101_7
                case eCf_101_7 => simp only [List.getElem?_toArray, List.getElem?_cons_succ, List.getElem?_cons_zero]; rfl
                case wCf_101_7 => rfl
                case qCf_101_7 => exact fun _ _ _ h => h
                case yCf_101_7 => (intro w hSw; (try dsimp only at hSw); go_simp; try with_reducible rfl)
                try simp only [Act.put, List.setIfInBounds_toArray, List.set_cons_zero, List.set_cons_succ]
                refine wpAnyH_take (i := 8) (oi := ?oCf_102_8) (v := ?vCf_102_8) ?eCf_102_8 (by kernel_rfl) (by kernel_rfl) (by kernel_rfl) ?qCf_102_8 (Or.inl ⟨?wCf_102_8, ?yCf_102_8⟩) (by assumption) ?rCf_102_8
                case eCf_102_8 => simp only [List.getElem?_toArray, List.getElem?_cons_succ, List.getElem?_cons_zero]; rfl
                case wCf_102_8 => rfl
                case qCf_102_8 => exact fun _ _ _ h => h
                case yCf_102_8 => (intro w hSw; (try dsimp only at hSw); go_simp; try with_reducible rfl)
                try simp only [Act.put, List.setIfInBounds_toArray, List.set_cons_zero, List.set_cons_succ]
                have hOld := hHeld
                clear hHeld
                refine wpAnyH_ready (rs := [9]) (by kernel_rfl) (by simp) ?_
                refine AllReadyH.cons (o := ?oCf_103_9) ?eCf_103_9 (fun K hK => ?_) AllReadyH.nil
                case eCf_103_9 => simp only [List.getElem?_toArray, List.getElem?_cons_succ, List.getElem?_cons_zero]; rfl
                go_simp
                (go_at_call 16; refine Calls.mono (overlaps_at _ _ _ _ f g _ _ _ _ _ (HP1.out.below D0.out) (HP2.out.below D0.out) (HG1.out.below D0.out) (HG2.out.below D0.out) HOV.out) ?_; rintro _ y1 ⟨rfl, hb1⟩; have D1 : Hid (Below wr.heap.size wr y1) := D0.out.trans (hb1.mono D0.out.size))
                try go_wp2_with fail
                refine hK.out _ _ (HKP.out _ D1.out) (fun hHeld => ?_)
                clear hK hOld
                try simp only [Act.put, List.setIfInBounds_toArray, List.set_cons_zero, List.set_cons_succ]
                refine wpAnyH_take (i := 10) (oi := ?oCf_104_10) (v := ?vCf_104_10) ?eCf_104_10 (by kernel_rfl) (by kernel_rfl) (by kernel_rfl) ?qCf_104_10 (Or.inl ⟨?wCf_104_10, ?yCf_104_10⟩) (by assumption) ?rCf_104_10
                case eCf_104_10 => simp only [List.getElem?_toArray, List.getElem?_cons_succ, List.getElem?_cons_zero]; rfl
                case wCf_104_10 => rfl
                case qCf_104_10 => exact fun _ _ _ h => h
                case yCf_104_10 => (intro w hSw; (try dsimp only at hSw); go_simp; try with_reducible rfl)
                try simp only [Act.put, List.setIfInBounds_toArray, List.set_cons_zero, List.set_cons_succ]
                refine wpAnyH_take (i := 11) (oi := ?oCf_105_11) (v := undef) ?eCf_105_11 (by kernel_rfl) (by kernel_rfl) (by kernel_rfl) ?qCf_105_11 (Or.inr ⟨?wCf_105_11, rfl⟩) (by assumption) ?rCf_105_11
                case eCf_105_11 => simp only [List.getElem?_toArray, List.getElem?_cons_succ, List.getElem?_cons_zero]; rfl
                case wCf_105_11 => rfl
                case qCf_105_11 => exact fun _ _ _ h => h
                try simp only [Act.put, List.setIfInBounds_toArray, List.set_cons_zero, List.set_cons_succ]
                refine wpAnyH_take (i := 12) (oi := ?oCf_106_12) (v := undef) ?eCf_106_12 (by kernel_rfl) (by kernel_rfl) (by kernel_rfl) ?qCf_106_12 (Or.inr ⟨?wCf_106_12, rfl⟩) (by assumption) ?rCf_106_12
                case eCf_106_12 => simp only [List.getElem?_toArray, List.getElem?_cons_succ, List.getElem?_cons_zero]; rfl
                case wCf_106_12 => rfl
                case qCf_106_12 => exact fun _ _ _ h => h
                try simp only [Act.put, List.setIfInBounds_toArray, List.set_cons_zero, List.set_cons_succ]
                refine wpAnyH_take (i := 13) (oi := ?oCf_107_13) (v := undef) ?eCf_107_13 (by kernel_rfl) (by kernel_rfl) (by kernel_rfl) ?qCf_107_13 (Or.inr ⟨?wCf_107_13, rfl⟩) (by assumption) ?rCf_107_13
                case eCf_107_13 => simp only [List.getElem?_toArray, List.getElem?_cons_succ, List.getElem?_cons_zero]; rfl
                case wCf_107_13 => rfl
                case qCf_107_13 => exact fun _ _ _ h => h
                try simp only [Act.put, List.setIfInBounds_toArray, List.set_cons_zero, List.set_cons_succ]
                refine wpAnyH_take (i := 14) (oi := ?oCf_108_14) (v := undef) ?eCf_108_14 (by kernel_rfl) (by kernel_rfl) (by kernel_rfl) ?qCf_108_14 (Or.inr ⟨?wCf_108_14, rfl⟩) (by assumption) ?rCf_108_14
                case eCf_108_14 => simp only [List.getElem?_toArray, List.getElem?_cons_succ, List.getElem?_cons_zero]; rfl
                case wCf_108_14 => rfl
                case qCf_108_14 => exact fun _ _ _ h => h
                try simp only [Act.put, List.setIfInBounds_toArray, List.set_cons_zero, List.set_cons_succ]
                refine wpAnyH_take (i := 15) (oi := ?oCf_109_15) (v := undef) ?eCf_109_15 (by kernel_rfl) (by kernel_rfl) (by kernel_rfl) ?qCf_109_15 (Or.inr ⟨?wCf_109_15, rfl⟩) (by assumption) ?rCf_109_15
                case eCf_109_15 => simp only [List.getElem?_toArray, List.getElem?_cons_succ, List.getElem?_cons_zero]; rfl
                case wCf_109_15 => rfl
                case qCf_109_15 => exact fun _ _ _ h => h
                try simp only [Act.put, List.setIfInBounds_toArray, List.set_cons_zero, List.set_cons_succ]
                refine wpAnyH_take (i := 16) (oi := ?oCf_110_16) (v := undef) ?eCf_110_16 (by kernel_rfl) (by kernel_rfl) (by kernel_rfl) ?qCf_110_16 (Or.inr ⟨?wCf_110_16, rfl⟩) (by assumption) ?rCf_110_16
                case eCf_110_16 => simp only [List.getElem?_toArray, List.getElem?_cons_succ, List.getElem?_cons_zero]; rfl
                case wCf_110_16 => rfl
                case qCf_110_16 => exact fun _ _ _ h => h
                try simp only [Act.put, List.setIfInBounds_toArray, List.set_cons_zero, List.set_cons_succ]
                refine wpAnyH_take (i := 17) (oi := ?oCf_111_17) (v := undef) ?eCf_111_17 (by kernel_rfl) (by kernel_rfl) (by kernel_rfl) ?qCf_111_17 (Or.inr ⟨?wCf_111_17, rfl⟩) (by assumption) ?rCf_111_17
                case eCf_111_17 => simp only [List.getElem?_toArray, List.getElem?_cons_succ, List.getElem?_cons_zero]; rfl
                case wCf_111_17 => rfl
                case qCf_111_17 => exact fun _ _ _ h => h
                try simp only [Act.put, List.setIfInBounds_toArray, List.set_cons_zero, List.set_cons_succ]
                refine wpAnyH_take (i := 18) (oi := ?oCf_112_18) (v := undef) ?eCf_112_18 (by kernel_rfl) (by kernel_rfl) (by kernel_rfl) ?qCf_112_18 (Or.inr ⟨?wCf_112_18, rfl⟩) (by assumption) ?rCf_112_18
                case eCf_112_18 => simp only [List.getElem?_toArray, List.getElem?_cons_succ, List.getElem?_cons_zero]; rfl
                case wCf_112_18 => rfl
                case qCf_112_18 => exact fun _ _ _ h => h
                try simp only [Act.put, List.setIfInBounds_toArray, List.set_cons_zero, List.set_cons_succ]
                refine wpAnyH_take (i := 19) (oi := ?oCf_113_19) (v := ?vCf_113_19) ?eCf_113_19 (by kernel_rfl) (by kernel_rfl) (by kernel_rfl) ?qCf_113_19 (Or.inl ⟨?wCf_113_19, ?yCf_113_19⟩) (by assumption) ?rCf_113_19
                case eCf_113_19 => simp only [List.getElem?_toArray, List.getElem?_cons_succ, List.getElem?_cons_zero]; rfl
                case wCf_113_19 => rfl
                case qCf_113_19 => exact fun _ _ _ h => h
                case yCf_113_19 => (intro w hSw; (try dsimp only at hSw); go_simp; try with_reducible rfl)
                try simp only [Act.put, List.setIfInBounds_toArray, List.set_cons_zero, List.set_cons_succ]
                refine wpAnyH_done (by kernel_rfl) ?_ _
                go_wp2_with fail
                go_roundw
                · exact ⟨k + 1, by go_num, by omega, HB3.out.trans (D1.out.mono HB3.out.size)⟩
                · simp only [intOf]; omega
              | true =>
                have HOV := Lib.hid ho
                clear ho
                have HMEM := Lib.hid (HSN.out f HFM.out g HGU.out HOV.out)
                go_upto_region 24 with fail
                refine wp_region_held_drew (S := fun w' => (w'.cell? ⟨bh, oh + k * 6, none⟩ = some (.int .u64 f.num) ∧ w'.cell? ⟨bh, oh + k * 6 + 1, none⟩ = some (.int .i64 f.size) ∧ w'.cell? ⟨bh, oh + k * 6 + 2, none⟩ = some (.slice pa f.least.length pc) ∧ w'.cell? ⟨bh, oh + k * 6 + 3, none⟩ = some (.slice qa f.most.length qc) ∧ w'.cell? ⟨bh, oh + k * 6 + 4, none⟩ = some (.int .i64 f.ents) ∧ w'.cell? ⟨bh, oh + k * 6 + 5, none⟩ = some (.int .u64 f.mseq) ∧ w'.cell? ⟨bu, ou + a * 6, none⟩ = some (.int .u64 g.num) ∧ w'.cell? ⟨bu, ou + a * 6 + 1, none⟩ = some (.int .i64 g.size) ∧ w'.cell? ⟨bu, ou + a * 6 + 2, none⟩ = some (.slice ra g.least.length rc) ∧ w'.cell? ⟨bu, ou + a * 6 + 3, none⟩ = some (.slice sa g.most.length sc) ∧ w'.cell? ⟨bu, ou + a * 6 + 4, none⟩ = some (.int .i64 g.ents) ∧ w'.cell? ⟨bu, ou + a * 6 + 5, none⟩ = some (.int .u64 g.mseq) ∧ w'.cell? ⟨jb, 1, none⟩ = some (.slice (some ⟨bu, ou, none⟩) nu uc) ∧ w'.cell? ⟨jb, 2, none⟩ = some (.slice oa Lo.length oc))) (by kernel_rfl) (HKP.out _ D0.out) (fun hHeld => ?_)
                refine wpAnyH_take (i := 0) (oi := ?oCt_114_0) (v := ?vCt_114_0) ?eCt_114_0 (by kernel_rfl) (by kernel_rfl) (by kernel_rfl) ?qCt_114_0 (Or.inl ⟨?wCt_114_0, ?yCt_114_0⟩) (by assumption) ?rCt_114_0
                case eCt_114_0 => simp only [List.getElem?_toArray, List.getElem?_cons_zero]; rfl
                case wCt_114_0 => rfl
                case qCt_114_0 => exact fun _ _ _ h => h
                case yCt_114_0 => (intro w hSw; (try dsimp only at hSw); go_simp; try with_reducible rfl)
                try simp only [Act.put, List.setIfInBounds_toArray, List.set_cons_zero, List.set_cons_succ]
                refine wpAnyH_take (i := 1) (oi := ?oCt_115_1) (v := ?vCt_115_1) ?eCt_115_1 (by kernel_rfl) (by kernel_rfl) (by kernel_rfl) ?qCt_115_1 (Or.inl ⟨?wCt_115_1, ?yCt_115_1⟩) (by assumption) ?rCt_115_1
                case eCt_115_1 => simp only [List.getElem?_toArray, List.getElem?_cons_succ, List.getElem?_cons_zero]; rfl
                case wCt_115_1 => rfl
                case qCt_115_1 => exact fun _ _ _ h => h
                case yCt_115_1 => (intro w hSw; (try dsimp only at hSw); go_simp; try with_reducible rfl)
                try simp only [Act.put, List.setIfInBounds_toArray, List.set_cons_zero, List.set_cons_succ]
                refine wpAnyH_take (i := 2) (oi := ?oCt_116_2) (v := ?vCt_116_2) ?eCt_116_2 (by kernel_rfl) (by kernel_rfl) (by kernel_rfl) ?qCt_116_2 (Or.inl ⟨?wCt_116_2, ?yCt_116_2⟩) (by assumption) ?rCt_116_2
                case eCt_116_2 => simp only [List.getElem?_toArray, List.getElem?_cons_succ, List.getElem?_cons_zero]; rfl
                case wCt_116_2 => rfl
                case qCt_116_2 => exact fun _ _ _ h => h
                case yCt_116_2 => (intro w hSw; (try dsimp only at hSw); go_simp; try with_reducible rfl)
                try simp only [Act.put, List.setIfInBounds_toArray, List.set_cons_zero, List.set_cons_succ]
                refine wpAnyH_take (i := 3) (oi := ?oCt_117_3) (v := ?vCt_117_3) ?eCt_117_3 (by kernel_rfl) (by kernel_rfl) (by kernel_rfl) ?qCt_117_3 (Or.inl ⟨?wCt_117_3, ?yCt_117_3⟩) (by assumption) ?rCt_117_3
                case eCt_117_3 => simp only [List.getElem?_toArray, List.getElem?_cons_succ, List.getElem?_cons_zero]; rfl
                case wCt_117_3 => rfl
                case qCt_117_3 => exact fun _ _ _ h => h
                case yCt_117_3 => (intro w hSw; (try dsimp only at hSw); go_simp; try with_reducible rfl)
                try simp only [Act.put, List.setIfInBounds_toArray, List.set_cons_zero, List.set_cons_succ]
                refine wpAnyH_take (i := 4) (oi := ?oCt_118_4) (v := ?vCt_118_4) ?eCt_118_4 (by kernel_rfl) (by kernel_rfl) (by kernel_rfl) ?qCt_118_4 (Or.inl ⟨?wCt_118_4, ?yCt_118_4⟩) (by assumption) ?rCt_118_4
                case eCt_118_4 => simp only [List.getElem?_toArray, List.getElem?_cons_succ, List.getElem?_cons_zero]; rfl
                case wCt_118_4 => rfl
                case qCt_118_4 => exact fun _ _ _ h => h
                case yCt_118_4 => (intro w hSw; (try dsimp only at hSw); go_simp; try with_reducible rfl)
                try simp only [Act.put, List.setIfInBounds_toArray, List.set_cons_zero, List.set_cons_succ]
                refine wpAnyH_take (i := 5) (oi := ?oCt_119_5) (v := ?vCt_119_5) ?eCt_119_5 (by kernel_rfl) (by kernel_rfl) (by kernel_rfl) ?qCt_119_5 (Or.inl ⟨?wCt_119_5, ?yCt_119_5⟩) (by assumption) ?rCt_119_5
                case eCt_119_5 => simp only [List.getElem?_toArray, List.getElem?_cons_succ, List.getElem?_cons_zero]; rfl
                case wCt_119_5 => rfl
                case qCt_119_5 => exact fun _ _ _ h => h
                case yCt_119_5 => (intro w hSw; (try dsimp only at hSw); go_simp; try with_reducible rfl)
                try simp only [Act.put, List.setIfInBounds_toArray, List.set_cons_zero, List.set_cons_succ]
                refine wpAnyH_take (i := 6) (oi := ?oCt_120_6) (v := ?vCt_120_6) ?eCt_120_6 (by kernel_rfl) (by kernel_rfl) (by kernel_rfl) ?qCt_120_6 (Or.inl ⟨?wCt_120_6, ?yCt_120_6⟩) (by assumption) ?rCt_120_6
                case eCt_120_6 => simp only [List.getElem?_toArray, List.getElem?_cons_succ, List.getElem?_cons_zero]; rfl
                case wCt_120_6 => rfl
                case qCt_120_6 => exact fun _ _ _ h => h
                case yCt_120_6 => (intro w hSw; (try dsimp only at hSw); go_simp; try with_reducible rfl)
                try simp only [Act.put, List.setIfInBounds_toArray, List.set_cons_zero, List.set_cons_succ]
                refine wpAnyH_take (i := 7) (oi := ?oCt_121_7) (v := ?vCt_121_7) ?eCt_121_7 (by kernel_rfl) (by kernel_rfl) (by kernel_rfl) ?qCt_121_7 (Or.inl ⟨?wCt_121_7, ?yCt_121_7⟩) (by assumption) ?rCt_121_7
                case eCt_121_7 => simp only [List.getElem?_toArray, List.getElem?_cons_succ, List.getElem?_cons_zero]; rfl
                case wCt_121_7 => rfl
                case qCt_121_7 => exact fun _ _ _ h => h
                case yCt_121_7 => (intro w hSw; (try dsimp only at hSw); go_simp; try with_reducible rfl)
                try simp only [Act.put, List.setIfInBounds_toArray, List.set_cons_zero, List.set_cons_succ]
                refine wpAnyH_take (i := 8) (oi := ?oCt_122_8) (v := ?vCt_122_8) ?eCt_122_8 (by kernel_rfl) (by kernel_rfl) (by kernel_rfl) ?qCt_122_8 (Or.inl ⟨?wCt_122_8, ?yCt_122_8⟩) (by assumption) ?rCt_122_8
                case eCt_122_8 => simp only [List.getElem?_toArray, List.getElem?_cons_succ, List.getElem?_cons_zero]; rfl
                case wCt_122_8 => rfl
                case qCt_122_8 => exact fun _ _ _ h => h
                case yCt_122_8 => (intro w hSw; (try dsimp only at hSw); go_simp; try with_reducible rfl)
                try simp only [Act.put, List.setIfInBounds_toArray, List.set_cons_zero, List.set_cons_succ]
                have hOld := hHeld
                clear hHeld
                refine wpAnyH_ready (rs := [9]) (by kernel_rfl) (by simp) ?_
                refine AllReadyH.cons (o := ?oCt_123_9) ?eCt_123_9 (fun K hK => ?_) AllReadyH.nil
                case eCt_123_9 => simp only [List.getElem?_toArray, List.getElem?_cons_succ, List.getElem?_cons_zero]; rfl
                go_simp
                (go_at_call 16; refine Calls.mono (overlaps_at _ _ _ _ f g _ _ _ _ _ (HP1.out.below D0.out) (HP2.out.below D0.out) (HG1.out.below D0.out) (HG2.out.below D0.out) HOV.out) ?_; rintro _ y1 ⟨rfl, hb1⟩; have D1 : Hid (Below wr.heap.size wr y1) := D0.out.trans (hb1.mono D0.out.size))
                try go_wp2_with fail
                refine hK.out _ _ (HKP.out _ D1.out) (fun hHeld => ?_)
                clear hK hOld
                try simp only [Act.put, List.setIfInBounds_toArray, List.set_cons_zero, List.set_cons_succ]
                refine wpAnyH_take (i := 10) (oi := ?oCt_124_10) (v := ?vCt_124_10) ?eCt_124_10 (by kernel_rfl) (by kernel_rfl) (by kernel_rfl) ?qCt_124_10 (Or.inl ⟨?wCt_124_10, ?yCt_124_10⟩) (by assumption) ?rCt_124_10
                case eCt_124_10 => simp only [List.getElem?_toArray, List.getElem?_cons_succ, List.getElem?_cons_zero]; rfl
                case wCt_124_10 => rfl
                case qCt_124_10 => exact fun _ _ _ h => h
                case yCt_124_10 => (intro w hSw; (try dsimp only at hSw); go_simp; try with_reducible rfl)
                try simp only [Act.put, List.setIfInBounds_toArray, List.set_cons_zero, List.set_cons_succ]
                refine wpAnyH_take (i := 11) (oi := ?oCt_125_11) (v := ?vCt_125_11) ?eCt_125_11 (by kernel_rfl) (by kernel_rfl) (by kernel_rfl) ?qCt_125_11 (Or.inl ⟨?wCt_125_11, ?yCt_125_11⟩) (by assumption) ?rCt_125_11
                case eCt_125_11 => simp only [List.getElem?_toArray, List.getElem?_cons_succ, List.getElem?_cons_zero]; rfl
                case wCt_125_11 => rfl
                case qCt_125_11 => exact fun _ _ _ h => h
                case yCt_125_11 => (intro w hSw; (try dsimp only at hSw); go_simp; try with_reducible rfl)
                try simp only [Act.put, List.setIfInBounds_toArray, List.set_cons_zero, List.set_cons_succ]
                refine wpAnyH_take (i := 12) (oi := ?oCt_126_12) (v := ?vCt_126_12) ?eCt_126_12 (by kernel_rfl) (by kernel_rfl) (by kernel_rfl) ?qCt_126_12 (Or.inl ⟨?wCt_126_12, ?yCt_126_12⟩) (by assumption) ?rCt_126_12
                case eCt_126_12 => simp only [List.getElem?_toArray, List.getElem?_cons_succ, List.getElem?_cons_zero]; rfl
                case wCt_126_12 => rfl
                case qCt_126_12 => exact fun _ _ _ h => h
                case yCt_126_12 => (intro w hSw; (try dsimp only at hSw); go_simp; try with_reducible rfl)
                try simp only [Act.put, List.setIfInBounds_toArray, List.set_cons_zero, List.set_cons_succ]
                refine wpAnyH_take (i := 13) (oi := ?oCt_127_13) (v := ?vCt_127_13) ?eCt_127_13 (by kernel_rfl) (by kernel_rfl) (by kernel_rfl) ?qCt_127_13 (Or.inl ⟨?wCt_127_13, ?yCt_127_13⟩) (by assumption) ?rCt_127_13
                case eCt_127_13 => simp only [List.getElem?_toArray, List.getElem?_cons_succ, List.getElem?_cons_zero]; rfl
                case wCt_127_13 => rfl
                case qCt_127_13 => exact fun _ _ _ h => h
                case yCt_127_13 => (intro w hSw; (try dsimp only at hSw); go_simp; try with_reducible rfl)
                try simp only [Act.put, List.setIfInBounds_toArray, List.set_cons_zero, List.set_cons_succ]
                refine wpAnyH_take (i := 14) (oi := ?oCt_128_14) (v := ?vCt_128_14) ?eCt_128_14 (by kernel_rfl) (by kernel_rfl) (by kernel_rfl) ?qCt_128_14 (Or.inl ⟨?wCt_128_14, ?yCt_128_14⟩) (by assumption) ?rCt_128_14
                case eCt_128_14 => simp only [List.getElem?_toArray, List.getElem?_cons_succ, List.getElem?_cons_zero]; rfl
                case wCt_128_14 => rfl
                case qCt_128_14 => exact fun _ _ _ h => h
                case yCt_128_14 => (intro w hSw; (try dsimp only at hSw); go_simp; try with_reducible rfl)
                try simp only [Act.put, List.setIfInBounds_toArray, List.set_cons_zero, List.set_cons_succ]
                refine wpAnyH_take (i := 15) (oi := ?oCt_129_15) (v := ?vCt_129_15) ?eCt_129_15 (by kernel_rfl) (by kernel_rfl) (by kernel_rfl) ?qCt_129_15 (Or.inl ⟨?wCt_129_15, ?yCt_129_15⟩) (by assumption) ?rCt_129_15
                case eCt_129_15 => simp only [List.getElem?_toArray, List.getElem?_cons_succ, List.getElem?_cons_zero]; rfl
                case wCt_129_15 => rfl
                case qCt_129_15 => exact fun _ _ _ h => h
                case yCt_129_15 => (intro w hSw; (try dsimp only at hSw); go_simp; try with_reducible rfl)
                try simp only [Act.put, List.setIfInBounds_toArray, List.set_cons_zero, List.set_cons_succ]
                refine wpAnyH_take (i := 16) (oi := ?oCt_130_16) (v := ?vCt_130_16) ?eCt_130_16 (by kernel_rfl) (by kernel_rfl) (by kernel_rfl) ?qCt_130_16 (Or.inl ⟨?wCt_130_16, ?yCt_130_16⟩) (by assumption) ?rCt_130_16
                case eCt_130_16 => simp only [List.getElem?_toArray, List.getElem?_cons_succ, List.getElem?_cons_zero]; rfl
                case wCt_130_16 => rfl
                case qCt_130_16 => exact fun _ _ _ h => h
                case yCt_130_16 => (intro w hSw; (try dsimp only at hSw); go_simp; try with_reducible rfl)
                try simp only [Act.put, List.setIfInBounds_toArray, List.set_cons_zero, List.set_cons_succ]
                have hOld := hHeld
                clear hHeld
                refine wpAnyH_ready (rs := [17]) (by kernel_rfl) (by simp) ?_
                refine AllReadyH.cons (o := ?oCt_131_17) ?eCt_131_17 (fun K hK => ?_) AllReadyH.nil
                case eCt_131_17 => simp only [List.getElem?_toArray, List.getElem?_cons_succ, List.getElem?_cons_zero]; rfl
                go_simp
                (go_at_call 15; refine Calls.mono (among_yes _ (.slice oa Lo.length oc) Lo f _ _ _ (HO3.out.below D1.out) (Nat.le_trans HLF.out (by decide)) HMEM.out) ?_; rintro _ y2 ⟨rfl, hb2⟩; have D2 : Hid (Below wr.heap.size wr y2) := D1.out.trans (hb2.mono D1.out.size))
                try go_wp2_with fail
                refine hK.out _ _ (HKP.out _ D2.out) (fun hHeld => ?_)
                clear hK hOld
                try simp only [Act.put, List.setIfInBounds_toArray, List.set_cons_zero, List.set_cons_succ]
                refine wpAnyH_take (i := 18) (oi := ?oCt_132_18) (v := ?vCt_132_18) ?eCt_132_18 (by kernel_rfl) (by kernel_rfl) (by kernel_rfl) ?qCt_132_18 (Or.inl ⟨?wCt_132_18, ?yCt_132_18⟩) (by assumption) ?rCt_132_18
                case eCt_132_18 => simp only [List.getElem?_toArray, List.getElem?_cons_succ, List.getElem?_cons_zero]; rfl
                case wCt_132_18 => rfl
                case qCt_132_18 => exact fun _ _ _ h => h
                case yCt_132_18 => (intro w hSw; (try dsimp only at hSw); go_simp; try with_reducible rfl)
                try simp only [Act.put, List.setIfInBounds_toArray, List.set_cons_zero, List.set_cons_succ]
                refine wpAnyH_take (i := 19) (oi := ?oCt_133_19) (v := ?vCt_133_19) ?eCt_133_19 (by kernel_rfl) (by kernel_rfl) (by kernel_rfl) ?qCt_133_19 (Or.inl ⟨?wCt_133_19, ?yCt_133_19⟩) (by assumption) ?rCt_133_19
                case eCt_133_19 => simp only [List.getElem?_toArray, List.getElem?_cons_succ, List.getElem?_cons_zero]; rfl
                case wCt_133_19 => rfl
                case qCt_133_19 => exact fun _ _ _ h => h
                case yCt_133_19 => (intro w hSw; (try dsimp only at hSw); go_simp; try with_reducible rfl)
                try simp only [Act.put, List.setIfInBounds_toArray, List.set_cons_zero, List.set_cons_succ]
                refine wpAnyH_done (by kernel_rfl) ?_ _
                go_wp2_with fail
                go_roundw
                · exact ⟨k + 1, by go_num, by omega, HB3.out.trans (D2.out.mono HB3.out.size)⟩
                · simp only [intOf]; omega
            · have u1 : ¬ (k : Int) < (nn : Int) := by omega
              have HB2 := HB3
              clear HB3 hk hkn
              go_wp2_with fail
              go_roundw
              · exact ⟨a + 1, by go_num, by omega, HB2.out⟩
              · simp only [intOf]; omega
    · have u3 : ¬ (a : Int) < (nu : Int) := by omega
      have j0 : wr.cell? ⟨jb, 0, none⟩ = some (.int .i64 (i : Int)) := HS1.out.j.cell rfl
      clear ha0 han
      go_wp2_with fail
      clear j0 j1
      go_loopw [12, 13] (fun bv qv wr => ∃ (q : Nat) (p : Bool), bv = .bool p ∧ qv = .int .i64 (q : Int) ∧ i + 2 ≤ q ∧ q ≤ 6 ∧ Hid (bt = (p && clearFrom ls ms v.levels q)) ∧ Hid (Below w9.heap.size w9 wr)) (fun _ qv _ => 6 - (intOf qv).toNat)
      case atStart => exact ⟨i + 2, true, rfl, by go_num, by omega, by omega, by show _ = _; rw [HBE.out, Bool.true_and], HB1.out⟩
      case round =>
        clear HB1 HS1
        obtain ⟨q, p, rfl, rfl, hq1, hq2, HPQ, HB1⟩ := hrel
        by_cases hq5 : q < 5
        · have u1 : (q : Int) < 5 := by omega
          have u2 : 0 ≤ (q : Int) := by omega
          obtain ⟨qa, qc, hqc, hqr⟩ := HBL9.out q hq5
          have HQC := Lib.hid hqc
          have HQR := Lib.hid hqr
          have HQL := Lib.hid (HSZ.out q hq5)
          have HCS := Lib.hid (clearFrom_step ls ms (ls := v.levels) (i := q) (by rw [HM.out]; exact hq5))
          obtain ⟨row, hrow⟩ : ∃ l, lat v.levels q = l := ⟨_, rfl⟩
          rw [hrow] at HQC HQR HQL HCS
          obtain ⟨nq, hnq⟩ : ∃ n, row.length = n := ⟨_, rfl⟩
          have HNQ := Lib.hid hnq
          rw [hnq] at HQC HQR HQL
          clear hqc hqr hrow hnq
          go_wp2_with fail
          go_loopw [12, 14] (fun bv kv wr => ∃ (k : Nat) (p2 : Bool), bv = .bool p2 ∧ kv = .int .i64 (k : Int) ∧ k ≤ nq ∧ Hid (p2 = (p && !((row.take k).any (lapB ls ms)))) ∧ Hid (Below w9.heap.size w9 wr)) (fun _ kv _ => nq - (intOf kv).toNat)
          case atStart => exact ⟨0, p, rfl, rfl, by omega, by show _ = _; simp, HB1.out⟩
          case round =>
            obtain ⟨k, p2, rfl, rfl, hk, HP2, HB2⟩ := hrel
            clear HB1
            have HSr := Lib.hid (HS9.out.below HB2.out)
            obtain ⟨x0, -⟩ := HSr.out.bx.cells
            have d0 := HQC.out wr HB2.out
            by_cases hkq : k < nq
            · have u0 : nq ≤ 10000 := HQL.out
              have u3 : (k : Int) < (nq : Int) := by omega
              have u4 : 0 ≤ (k : Int) := by omega
              have hkl : k < row.length := by rw [HNQ.out]; exact hkq
              obtain ⟨bh, oh, rfl, pa, pc, ra, rc, hp1, hp2, hp6⟩ := fil_at (HQR.out.below HB2.out) HNQ.out hkq
              have HANY : Hid ((row.take (k + 1)).any (lapB ls ms) = ((row.take k).any (lapB ls ms) || lapB ls ms (fat row k))) := by
                show _ = _
                rw [List.take_succ_eq_append_getElem hkl, List.any_append, fat_eq hkl]
                simp
              obtain ⟨f, hf⟩ : ∃ f, fat row k = f := ⟨_, rfl⟩
              rw [hf] at hp1 hp2 hp6 HANY
              have HP6 := Lib.hid hp6
              have HF1 := Lib.hid hp1
              have HF2 := Lib.hid hp2
              have HL3 := Lib.hid (HL9.out.below HB2.out)
              have HM3 := Lib.hid (HM9.out.below HB2.out)
              have HKP : Hid (∀ W, Below wr.heap.size wr W → (W.cell? ⟨b1, 0, none⟩ = some (.slice (some ⟨bl, ol, none⟩) 5 ca) ∧ W.cell? ⟨bl, ol + q, none⟩ = some (.slice (some ⟨bh, oh, none⟩) nq qc) ∧ W.cell? ⟨bh, oh + k * 6, none⟩ = some (.int .u64 f.num) ∧ W.cell? ⟨bh, oh + k * 6 + 1, none⟩ = some (.int .i64 f.size) ∧ W.cell? ⟨bh, oh + k * 6 + 2, none⟩ = some (.slice pa f.least.length pc) ∧ W.cell? ⟨bh, oh + k * 6 + 3, none⟩ = some (.slice ra f.most.length rc) ∧ W.cell? ⟨bh, oh + k * 6 + 4, none⟩ = some (.int .i64 f.ents) ∧ W.cell? ⟨bh, oh + k * 6 + 5, none⟩ = some (.int .u64 f.mseq) ∧ W.cell? ⟨jb, 3, none⟩ = some (.slice la ls.length lc) ∧ W.cell? ⟨jb, 4, none⟩ = some (.slice ma ms.length mc))) := fun W hb => by
                obtain ⟨y0, y1, y2, y3, y4, y5⟩ := HP6.out.keep hb (World.block_lt_of_cell? _ _ HP6.out.1)
                have hj := HSr.out.j.below hb HSr.out.j.lt
                exact ⟨(HSr.out.bx.below hb).cells.1, HQC.out W (HB2.out.trans (hb.mono HB2.out.size)), y0, y1, y2, y3, y4, y5, hj.cell rfl, hj.cell rfl⟩
              have D0 : Hid (Below wr.heap.size wr wr.drew) := below_drew (Below.refl _ _)
              have HLO := Lib.hid (lap_ovl (ls := ls) (f := f) HMS.out)
              clear hkl hf hp1 hp2 hp6
              go_upto_region 33 with fail
              clear x0 d0
              cases p2 with
              | false =>
                have HPN : Hid (false = (p && !((row.take (k + 1)).any (lapB ls ms)))) := by
                  show _ = _
                  rw [HANY.out]
                  exact bool_f HP2.out
                refine wp_region_held_drew (S := fun w' => (w'.cell? ⟨b1, 0, none⟩ = some (.slice (some ⟨bl, ol, none⟩) 5 ca) ∧ w'.cell? ⟨bl, ol + q, none⟩ = some (.slice (some ⟨bh, oh, none⟩) nq qc) ∧ w'.cell? ⟨bh, oh + k * 6, none⟩ = some (.int .u64 f.num) ∧ w'.cell? ⟨bh, oh + k * 6 + 1, none⟩ = some (.int .i64 f.size) ∧ w'.cell? ⟨bh, oh + k * 6 + 2, none⟩ = some (.slice pa f.least.length pc) ∧ w'.cell? ⟨bh, oh + k * 6 + 3, none⟩ = some (.slice ra f.most.length rc) ∧ w'.cell? ⟨bh, oh + k * 6 + 4, none⟩ = some (.int .i64 f.ents) ∧ w'.cell? ⟨bh, oh + k * 6 + 5, none⟩ = some (.int .u64 f.mseq) ∧ w'.cell? ⟨jb, 3, none⟩ = some (.slice la ls.length lc) ∧ w'.cell? ⟨jb, 4, none⟩ = some (.slice ma ms.length mc))) (by kernel_rfl) (HKP.out _ D0.out) (fun hHeld => ?_)
                refine wpAnyH_take (i := 0) (oi := ?oDf_134_0) (v := ?vDf_134_0) ?eDf_134_0 (by kernel_rfl) (by kernel_rfl) (by kernel_rfl) ?qDf_134_0 (Or.inl ⟨?wDf_134_0, ?yDf_134_0⟩) (by assumption) ?rDf_134_0
                case eDf_134_0 => simp only [List.getElem?_toArray, List.getElem?_cons_zero]; rfl
                case wDf_134_0 => rfl
                case qDf_134_0 => exact fun _ _ _ h => h
                case yDf_134_0 => (intro w hSw; (try dsimp only at hSw); go_simp; try with_reducible rfl)
                try simp only [Act.put, List.setIfInBounds_toArray, List.set_cons_zero, List.set_cons_succ]
                refine wpAnyH_take (i := 1) (oi := ?oDf_135_1) (v := ?vDf_135_1) ?eDf_135_1 (by kernel_rfl) (by kernel_rfl) (by kernel_rfl) ?qDf_135_1 (Or.inl ⟨?wDf_135_1, ?yDf_135_1⟩) (by assumption) ?rDf_135_1
                case eDf_135_1 => simp only [List.getElem?_toArray, List.getElem?_cons_succ, List.getElem?_cons_zero]; rfl
                case wDf_135_1 => rfl
                case qDf_135_1 => exact fun _ _ _ h => h
                case yDf_135_1 => (intro w hSw; (try dsimp only at hSw); go_simp; try with_reducible rfl)
                try simp only [Act.put, List.setIfInBounds_toArray, List.set_cons_zero, List.set_cons_succ]
                refine wpAnyH_take (i := 2) (oi := ?oDf_136_2) (v := undef) ?eDf_136_2 (by kernel_rfl) (by kernel_rfl) (by kernel_rfl) ?qDf_136_2 (Or.inr ⟨?wDf_136_2, rfl⟩) (by assumption) ?rDf_136_2
                case eDf_136_2 => simp only [List.getElem?_toArray, List.getElem?_cons_succ, List.getElem?_cons_zero]; rfl
                case wDf_136_2 => rfl
                case qDf_136_2 => exact fun _ _ _ h => h
                try simp only [Act.put, List.setIfInBounds_toArray, List.set_cons_zero, List.set_cons_succ]
                refine wpAnyH_take (i := 3) (oi := ?oDf_137_3) (v := undef) ?eDf_137_3 (by kernel_rfl) (by kernel_rfl) (by kernel_rfl) ?qDf_137_3 (Or.inr ⟨?wDf_137_3, rfl⟩) (by assumption) ?rDf_137_3
                case eDf_137_3 => simp only [List.getElem?_toArray, List.getElem?_cons_succ, List.getElem?_cons_zero]; rfl
                case wDf_137_3 => rfl
                case qDf_137_3 => exact fun _ _ _ h => h
                try simp only [Act.put, List.setIfInBounds_toArray, List.set_cons_zero, List.set_cons_succ]
                refine wpAnyH_take (i := 4) (oi := ?oDf_138_4) (v := undef) ?eDf_138_4 (by kernel_rfl) (by kernel_rfl) (by kernel_rfl) ?qDf_138_4 (Or.inr ⟨?wDf_138_4, rfl⟩) (by assumption) ?rDf_138_4
                case eDf_138_4 => simp only [List.getElem?_toArray, List.getElem?_cons_succ, List.getElem?_cons_zero]; rfl
                case wDf_138_4 => rfl
                case qDf_138_4 => exact fun _ _ _ h => h
                try simp only [Act.put, List.setIfInBounds_toArray, List.set_cons_zero, List.set_cons_succ]
                refine wpAnyH_take (i := 5) (oi := ?oDf_139_5) (v := undef) ?eDf_139_5 (by kernel_rfl) (by kernel_rfl) (by kernel_rfl) ?qDf_139_5 (Or.inr ⟨?wDf_139_5, rfl⟩) (by assumption) ?rDf_139_5
                case eDf_139_5 => simp only [List.getElem?_toArray, List.getElem?_cons_succ, List.getElem?_cons_zero]; rfl
                case wDf_139_5 => rfl
                case qDf_139_5 => exact fun _ _ _ h => h
                try simp only [Act.put, List.setIfInBounds_toArray, List.set_cons_zero, List.set_cons_succ]
                refine wpAnyH_take (i := 6) (oi := ?oDf_140_6) (v := undef) ?eDf_140_6 (by kernel_rfl) (by kernel_rfl) (by kernel_rfl) ?qDf_140_6 (Or.inr ⟨?wDf_140_6, rfl⟩) (by assumption) ?rDf_140_6
                case eDf_140_6 => simp only [List.getElem?_toArray, List.getElem?_cons_succ, List.getElem?_cons_zero]; rfl
                case wDf_140_6 => rfl
                case qDf_140_6 => exact fun _ _ _ h => h
                try simp only [Act.put, List.setIfInBounds_toArray, List.set_cons_zero, List.set_cons_succ]
                refine wpAnyH_take (i := 7) (oi := ?oDf_141_7) (v := undef) ?eDf_141_7 (by kernel_rfl) (by kernel_rfl) (by kernel_rfl) ?qDf_141_7 (Or.inr ⟨?wDf_141_7, rfl⟩) (by assumption) ?rDf_141_7
                case eDf_141_7 => simp only [List.getElem?_toArray, List.getElem?_cons_succ, List.getElem?_cons_zero]; rfl
                case wDf_141_7 => rfl
                case qDf_141_7 => exact fun _ _ _ h => h
                try simp only [Act.put, List.setIfInBounds_toArray, List.set_cons_zero, List.set_cons_succ]
                refine wpAnyH_take (i := 8) (oi := ?oDf_142_8) (v := undef) ?eDf_142_8 (by kernel_rfl) (by kernel_rfl) (by kernel_rfl) ?qDf_142_8 (Or.inr ⟨?wDf_142_8, rfl⟩) (by assumption) ?rDf_142_8
                case eDf_142_8 => simp only [List.getElem?_toArray, List.getElem?_cons_succ, List.getElem?_cons_zero]; rfl
                case wDf_142_8 => rfl
                case qDf_142_8 => exact fun _ _ _ h => h
                try simp only [Act.put, List.setIfInBounds_toArray, List.set_cons_zero, List.set_cons_succ]
                refine wpAnyH_take (i := 9) (oi := ?oDf_143_9) (v := undef) ?eDf_143_9 (by kernel_rfl) (by kernel_rfl) (by kernel_rfl) ?qDf_143_9 (Or.inr ⟨?wDf_143_9, rfl⟩) (by assumption) ?rDf_143_9
                case eDf_143_9 => simp only [List.getElem?_toArray, List.getElem?_cons_succ, List.getElem?_cons_zero]; rfl
                case wDf_143_9 => rfl
                case qDf_143_9 => exact fun _ _ _ h => h
                try simp only [Act.put, List.setIfInBounds_toArray, List.set_cons_zero, List.set_cons_succ]
                refine wpAnyH_take (i := 10) (oi := ?oDf_144_10) (v := undef) ?eDf_144_10 (by kernel_rfl) (by kernel_rfl) (by kernel_rfl) ?qDf_144_10 (Or.inr ⟨?wDf_144_10, rfl⟩) (by assumption) ?rDf_144_10
                case eDf_144_10 => simp only [List.getElem?_toArray, List.getElem?_cons_succ, List.getElem?_cons_zero]; rfl
                case wDf_144_10 => rfl
                case qDf_144_10 => exact fun _ _ _ h => h
                try simp only [Act.put, List.setIfInBounds_toArray, List.set_cons_zero, List.set_cons_succ]
                refine wpAnyH_take (i := 11) (oi := ?oDf_145_11) (v := undef) ?eDf_145_11 (by kernel_rfl) (by kernel_rfl) (by kernel_rfl) ?qDf_145_11 (Or.inr ⟨?wDf_145_11, rfl⟩) (by assumption) ?rDf_145_11
                case eDf_145_11 => simp only [List.getElem?_toArray, List.getElem?_cons_succ, List.getElem?_cons_zero]; rfl
                case wDf_145_11 => rfl
                case qDf_145_11 => exact fun _ _ _ h => h
                try simp only [Act.put, List.setIfInBounds_toArray, List.set_cons_zero, List.set_cons_succ]
                refine wpAnyH_take (i := 12) (oi := ?oDf_146_12) (v := undef) ?eDf_146_12 (by kernel_rfl) (by kernel_rfl) (by kernel_rfl) ?qDf_146_12 (Or.inr ⟨?wDf_146_12, rfl⟩) (by assumption) ?rDf_146_12
                case eDf_146_12 => simp only [List.getElem?_toArray, List.getElem?_cons_succ, List.getElem?_cons_zero]; rfl
                case wDf_146_12 => rfl
                case qDf_146_12 => exact fun _ _ _ h => h
                try simp only [Act.put, List.setIfInBounds_toArray, List.set_cons_zero, List.set_cons_succ]
                refine wpAnyH_take (i := 13) (oi := ?oDf_147_13) (v := undef) ?eDf_147_13 (by kernel_rfl) (by kernel_rfl) (by kernel_rfl) ?qDf_147_13 (Or.inr ⟨?wDf_147_13, rfl⟩) (by assumption) ?rDf_147_13
                case eDf_147_13 => simp only [List.getElem?_toArray, List.getElem?_cons_succ, List.getElem?_cons_zero]; rfl
                case wDf_147_13 => rfl
                case qDf_147_13 => exact fun _ _ _ h => h
                try simp only [Act.put, List.setIfInBounds_toArray, List.set_cons_zero, List.set_cons_succ]
                refine wpAnyH_take (i := 14) (oi := ?oDf_148_14) (v := undef) ?eDf_148_14 (by kernel_rfl) (by kernel_rfl) (by kernel_rfl) ?qDf_148_14 (Or.inr ⟨?wDf_148_14, rfl⟩) (by assumption) ?rDf_148_14
                case eDf_148_14 => simp only [List.getElem?_toArray, List.getElem?_cons_succ, List.getElem?_cons_zero]; rfl
                case wDf_148_14 => rfl
                case qDf_148_14 => exact fun _ _ _ h => h
                try simp only [Act.put, List.setIfInBounds_toArray, List.set_cons_zero, List.set_cons_succ]
                refine wpAnyH_take (i := 15) (oi := ?oDf_149_15) (v := undef) ?eDf_149_15 (by kernel_rfl) (by kernel_rfl) (by kernel_rfl) ?qDf_149_15 (Or.inr ⟨?wDf_149_15, rfl⟩) (by assumption) ?rDf_149_15
                case eDf_149_15 => simp only [List.getElem?_toArray, List.getElem?_cons_succ, List.getElem?_cons_zero]; rfl
                case wDf_149_15 => rfl
                case qDf_149_15 => exact fun _ _ _ h => h
                try simp only [Act.put, List.setIfInBounds_toArray, List.set_cons_zero, List.set_cons_succ]
                refine wpAnyH_take (i := 16) (oi := ?oDf_150_16) (v := undef) ?eDf_150_16 (by kernel_rfl) (by kernel_rfl) (by kernel_rfl) ?qDf_150_16 (Or.inr ⟨?wDf_150_16, rfl⟩) (by assumption) ?rDf_150_16
                case eDf_150_16 => simp only [List.getElem?_toArray, List.getElem?_cons_succ, List.getElem?_cons_zero]; rfl
                case wDf_150_16 => rfl
                case qDf_150_16 => exact fun _ _ _ h => h
                try simp only [Act.put, List.setIfInBounds_toArray, List.set_cons_zero, List.set_cons_succ]
                refine wpAnyH_take (i := 17) (oi := ?oDf_151_17) (v := ?vDf_151_17) ?eDf_151_17 (by kernel_rfl) (by kernel_rfl) (by kernel_rfl) ?qDf_151_17 (Or.inl ⟨?wDf_151_17, ?yDf_151_17⟩) (by assumption) ?rDf_151_17
                case eDf_151_17 => simp only [List.getElem?_toArray, List.getElem?_cons_succ, List.getElem?_cons_zero]; rfl
                case wDf_151_17 => rfl
                case qDf_151_17 => exact fun _ _ _ h => h
                case yDf_151_17 => (intro w hSw; (try dsimp only at hSw); go_simp; try with_reducible rfl)
                try simp only [Act.put, List.setIfInBounds_toArray, List.set_cons_zero, List.set_cons_succ]
                refine wpAnyH_take (i := 18) (oi := ?oDf_152_18) (v := ?vDf_152_18) ?eDf_152_18 (by kernel_rfl) (by kernel_rfl) (by kernel_rfl) ?qDf_152_18 (Or.inl ⟨?wDf_152_18, ?yDf_152_18⟩) (by assumption) ?rDf_152_18
                case eDf_152_18 => simp only [List.getElem?_toArray, List.getElem?_cons_succ, List.getElem?_cons_zero]; rfl
                case wDf_152_18 => rfl
                case qDf_152_18 => exact fun _ _ _ h => h
                case yDf_152_18 => (intro w hSw; (try dsimp only at hSw); go_simp; try with_reducible rfl)
                try simp only [Act.put, List.setIfInBounds_toArray, List.set_cons_zero, List.set_cons_succ]
                refine wpAnyH_done (by kernel_rfl) ?_ _
                go_wp2_with fail
                go_roundw
                · exact ⟨k + 1, false, rfl, by go_num, by omega, HPN.out, HB2.out.trans (D0.out.mono HB2.out.size)⟩
                · simp only [intOf]; omega
              | true =>
                obtain ⟨r, hr⟩ : ∃ r, lapB ls ms f = r := ⟨_, rfl⟩
                rw [hr] at HANY HLO
                have HPN : Hid ((!r) = (p && !((row.take (k + 1)).any (lapB ls ms)))) := by
                  show _ = _
                  rw [HANY.out]
                  exact bool_t HP2.out
                clear hr
                refine wp_region_held_drew (S := fun w' => (w'.cell? ⟨b1, 0, none⟩ = some (.slice (some ⟨bl, ol, none⟩) 5 ca) ∧ w'.cell? ⟨bl, ol + q, none⟩ = some (.slice (some ⟨bh, oh, none⟩) nq qc) ∧ w'.cell? ⟨bh, oh + k * 6, none⟩ = some (.int .u64 f.num) ∧ w'.cell? ⟨bh, oh + k * 6 + 1, none⟩ = some (.int .i64 f.size) ∧ w'.cell? ⟨bh, oh + k * 6 + 2, none⟩ = some (.slice pa f.least.length pc) ∧ w'.cell? ⟨bh, oh + k * 6 + 3, none⟩ = some (.slice ra f.most.length rc) ∧ w'.cell? ⟨bh, oh + k * 6 + 4, none⟩ = some (.int .i64 f.ents) ∧ w'.cell? ⟨bh, oh + k * 6 + 5, none⟩ = some (.int .u64 f.mseq) ∧ w'.cell? ⟨jb, 3, none⟩ = some (.slice la ls.length lc) ∧ w'.cell? ⟨jb, 4, none⟩ = some (.slice ma ms.length mc))) (by kernel_rfl) (HKP.out _ D0.out) (fun hHeld => ?_)
                refine wpAnyH_take (i := 0) (oi := ?oDt_153_0) (v := ?vDt_153_0) ?eDt_153_0 (by kernel_rfl) (by kernel_rfl) (by kernel_rfl) ?qDt_153_0 (Or.inl ⟨?wDt_153_0, ?yDt_153_0⟩) (by assumption) ?rDt_153_0
                case eDt_153_0 => simp only [List.getElem?_toArray, List.getElem?_cons_zero]; rfl
                case wDt_153_0 => rfl
                case qDt_153_0 => exact fun _ _ _ h => h
                case yDt_153_0 => (intro w hSw; (try dsimp only at hSw); go_simp; try with_reducible rfl)
                try simp only [Act.put, List.setIfInBounds_toArray, List.set_cons_zero, List.set_cons_succ]
                refine wpAnyH_take (i := 1) (oi := ?oDt_154_1) (v := ?vDt_154_1) ?eDt_154_1 (by kernel_rfl) (by kernel_rfl) (by kernel_rfl) ?qDt_154_1 (Or.inl ⟨?wDt_154_1, ?yDt_154_1⟩) (by assumption) ?rDt_154_1
                case eDt_154_1 => simp only [List.getElem?_toArray, List.getElem?_cons_succ, List.getElem?_cons_zero]; rfl
                case wDt_154_1 => rfl
                case qDt_154_1 => exact fun _ _ _ h => h
                case yDt_154_1 => (intro w hSw; (try dsimp only at hSw); go_simp; try with_reducible rfl)
                try simp only [Act.put, List.setIfInBounds_toArray, List.set_cons_zero, List.set_cons_succ]
                refine wpAnyH_take (i := 2) (oi := ?oDt_155_2) (v := ?vDt_155_2) ?eDt_155_2 (by kernel_rfl) (by kernel_rfl) (by kernel_rfl) ?qDt_155_2 (Or.inl ⟨?wDt_155_2, ?yDt_155_2⟩) (by assumption) ?rDt_155_2
                case eDt_155_2 => simp only [List.getElem?_toArray, List.getElem?_cons_succ, List.getElem?_cons_zero]; rfl
                case wDt_155_2 => rfl
                case qDt_155_2 => exact fun _ _ _ h => h
                case yDt_155_2 => (intro w hSw; (try dsimp only at hSw); go_simp; try with_reducible rfl)
                try simp only [Act.put, List.setIfInBounds_toArray, List.set_cons_zero, List.set_cons_succ]
                refine wpAnyH_take (i := 3) (oi := ?oDt_156_3) (v := ?vDt_156_3) ?eDt_156_3 (by kernel_rfl) (by kernel_rfl) (by kernel_rfl) ?qDt_156_3 (Or.inl ⟨?wDt_156_3, ?yDt_156_3⟩) (by assumption) ?rDt_156_3
                case eDt_156_3 => simp only [List.getElem?_toArray, List.getElem?_cons_succ, List.getElem?_cons_zero]; rfl
                case wDt_156_3 => rfl
                case qDt_156_3 => exact fun _ _ _ h => h
                case yDt_156_3 => (intro w hSw; (try dsimp only at hSw); go_simp; try with_reducible rfl)
                try simp only [Act.put, List.setIfInBounds_toArray, List.set_cons_zero, List.set_cons_succ]
                refine wpAnyH_take (i := 4) (oi := ?oDt_157_4) (v := ?vDt_157_4) ?eDt_157_4 (by kernel_rfl) (by kernel_rfl) (by kernel_rfl) ?qDt_157_4 (Or.inl ⟨?wDt_157_4, ?yDt_157_4⟩) (by assumption) ?rDt_157_4
                case eDt_157_4 => simp only [List.getElem?_toArray, List.getElem?_cons_succ, List.getElem?_cons_zero]; rfl
                case wDt_157_4 => rfl
                case qDt_157_4 => exact fun _ _ _ h => h
                case yDt_157_4 => (intro w hSw; (try dsimp only at hSw); go_simp; try with_reducible rfl)
                try simp only [Act.put, List.setIfInBounds_toArray, List.set_cons_zero, List.set_cons_succ]
                refine wpAnyH_take (i := 5) (oi := ?oDt_158_5) (v := ?vDt_158_5) ?eDt_158_5 (by kernel_rfl) (by kernel_rfl) (by kernel_rfl) ?qDt_158_5 (Or.inl ⟨?wDt_158_5, ?yDt_158_5⟩) (by assumption) ?rDt_158_5
                case eDt_158_5 => simp only [List.getElem?_toArray, List.getElem?_cons_succ, List.getElem?_cons_zero]; rfl
                case wDt_158_5 => rfl
                case qDt_158_5 => exact fun _ _ _ h => h
                case yDt_158_5 => (intro w hSw; (try dsimp only at hSw); go_simp; try with_reducible rfl)
                try simp only [Act.put, List.setIfInBounds_toArray, List.set_cons_zero, List.set_cons_succ]
                refine wpAnyH_take (i := 6) (oi := ?oDt_159_6) (v := ?vDt_159_6) ?eDt_159_6 (by kernel_rfl) (by kernel_rfl) (by kernel_rfl) ?qDt_159_6 (Or.inl ⟨?wDt_159_6, ?yDt_159_6⟩) (by assumption) ?rDt_159_6
                case eDt_159_6 => simp only [List.getElem?_toArray, List.getElem?_cons_succ, List.getElem?_cons_zero]; rfl
                case wDt_159_6 => rfl
                case qDt_159_6 => exact fun _ _ _ h => h
                case yDt_159_6 => (intro w hSw; (try dsimp only at hSw); go_simp; try with_reducible rfl)
                try simp only [Act.put, List.setIfInBounds_toArray, List.set_cons_zero, List.set_cons_succ]
                refine wpAnyH_take (i := 7) (oi := ?oDt_160_7) (v := ?vDt_160_7) ?eDt_160_7 (by kernel_rfl) (by kernel_rfl) (by kernel_rfl) ?qDt_160_7 (Or.inl ⟨?wDt_160_7, ?yDt_160_7⟩) (by assumption) ?rDt_160_7
                case eDt_160_7 => simp only [List.getElem?_toArray, List.getElem?_cons_succ, List.getElem?_cons_zero]; rfl
                case wDt_160_7 => rfl
                case qDt_160_7 => exact fun _ _ _ h => h
                case yDt_160_7 => (intro w hSw; (try dsimp only at hSw); go_simp; try with_reducible rfl)
                try simp only [Act.put, List.setIfInBounds_toArray, List.set_cons_zero, List.set_cons_succ]
                refine wpAnyH_take (i := 8) (oi := ?oDt_161_8) (v := ?vDt_161_8) ?eDt_161_8 (by kernel_rfl) (by kernel_rfl) (by kernel_rfl) ?qDt_161_8 (Or.inl ⟨?wDt_161_8, ?yDt_161_8⟩) (by assumption) ?rDt_161_8
                case eDt_161_8 => simp only [List.getElem?_toArray, List.getElem?_cons_succ, List.getElem?_cons_zero]; rfl
                case wDt_161_8 => rfl
                case qDt_161_8 => exact fun _ _ _ h => h
                case yDt_161_8 => (intro w hSw; (try dsimp only at hSw); go_simp; try with_reducible rfl)
                try simp only [Act.put, List.setIfInBounds_toArray, List.set_cons_zero, List.set_cons_succ]
                refine wpAnyH_take (i := 9) (oi := ?oDt_162_9) (v := ?vDt_162_9) ?eDt_162_9 (by kernel_rfl) (by kernel_rfl) (by kernel_rfl) ?qDt_162_9 (Or.inl ⟨?wDt_162_9, ?yDt_162_9⟩) (by assumption) ?rDt_162_9
                case eDt_162_9 => simp only [List.getElem?_toArray, List.getElem?_cons_succ, List.getElem?_cons_zero]; rfl
                case wDt_162_9 => rfl
                case qDt_162_9 => exact fun _ _ _ h => h
                case yDt_162_9 => (intro w hSw; (try dsimp only at hSw); go_simp; try with_reducible rfl)
                try simp only [Act.put, List.setIfInBounds_toArray, List.set_cons_zero, List.set_cons_succ]
                refine wpAnyH_take (i := 10) (oi := ?oDt_163_10) (v := ?vDt_163_10) ?eDt_163_10 (by kernel_rfl) (by kernel_rfl) (by kernel_rfl) ?qDt_163_10 (Or.inl ⟨?wDt_163_10, ?yDt_163_10⟩) (by assumption) ?rDt_163_10
                case eDt_163_10 => simp only [List.getElem?_toArray, List.getElem?_cons_succ, List.getElem?_cons_zero]; rfl
                case wDt_163_10 => rfl
                case qDt_163_10 => exact fun _ _ _ h => h
                case yDt_163_10 => (intro w hSw; (try dsimp only at hSw); go_simp; try with_reducible rfl)
                try simp only [Act.put, List.setIfInBounds_toArray, List.set_cons_zero, List.set_cons_succ]
                refine wpAnyH_take (i := 11) (oi := ?oDt_164_11) (v := ?vDt_164_11) ?eDt_164_11 (by kernel_rfl) (by kernel_rfl) (by kernel_rfl) ?qDt_164_11 (Or.inl ⟨?wDt_164_11, ?yDt_164_11⟩) (by assumption) ?rDt_164_11
                case eDt_164_11 => simp only [List.getElem?_toArray, List.getElem?_cons_succ, List.getElem?_cons_zero]; rfl
                case wDt_164_11 => rfl
                case qDt_164_11 => exact fun _ _ _ h => h
                case yDt_164_11 => (intro w hSw; (try dsimp only at hSw); go_simp; try with_reducible rfl)
                try simp only [Act.put, List.setIfInBounds_toArray, List.set_cons_zero, List.set_cons_succ]
                refine wpAnyH_take (i := 12) (oi := ?oDt_165_12) (v := ?vDt_165_12) ?eDt_165_12 (by kernel_rfl) (by kernel_rfl) (by kernel_rfl) ?qDt_165_12 (Or.inl ⟨?wDt_165_12, ?yDt_165_12⟩) (by assumption) ?rDt_165_12
                case eDt_165_12 => simp only [List.getElem?_toArray, List.getElem?_cons_succ, List.getElem?_cons_zero]; rfl
                case wDt_165_12 => rfl
                case qDt_165_12 => exact fun _ _ _ h => h
                case yDt_165_12 => (intro w hSw; (try dsimp only at hSw); go_simp; try with_reducible rfl)
                try simp only [Act.put, List.setIfInBounds_toArray, List.set_cons_zero, List.set_cons_succ]
                refine wpAnyH_take (i := 13) (oi := ?oDt_166_13) (v := ?vDt_166_13) ?eDt_166_13 (by kernel_rfl) (by kernel_rfl) (by kernel_rfl) ?qDt_166_13 (Or.inl ⟨?wDt_166_13, ?yDt_166_13⟩) (by assumption) ?rDt_166_13
                case eDt_166_13 => simp only [List.getElem?_toArray, List.getElem?_cons_succ, List.getElem?_cons_zero]; rfl
                case wDt_166_13 => rfl
                case qDt_166_13 => exact fun _ _ _ h => h
                case yDt_166_13 => (intro w hSw; (try dsimp only at hSw); go_simp; try with_reducible rfl)
                try simp only [Act.put, List.setIfInBounds_toArray, List.set_cons_zero, List.set_cons_succ]
                refine wpAnyH_take (i := 14) (oi := ?oDt_167_14) (v := ?vDt_167_14) ?eDt_167_14 (by kernel_rfl) (by kernel_rfl) (by kernel_rfl) ?qDt_167_14 (Or.inl ⟨?wDt_167_14, ?yDt_167_14⟩) (by assumption) ?rDt_167_14
                case eDt_167_14 => simp only [List.getElem?_toArray, List.getElem?_cons_succ, List.getElem?_cons_zero]; rfl
                case wDt_167_14 => rfl
                case qDt_167_14 => exact fun _ _ _ h => h
                case yDt_167_14 => (intro w hSw; (try dsimp only at hSw); go_simp; try with_reducible rfl)
                try simp only [Act.put, List.setIfInBounds_toArray, List.set_cons_zero, List.set_cons_succ]
                have hOld := hHeld
                clear hHeld
                refine wpAnyH_ready (rs := [15]) (by kernel_rfl) (by simp) ?_
                refine AllReadyH.cons (o := ?oDt_168_15) ?eDt_168_15 (fun K hK => ?_) AllReadyH.nil
                case eDt_168_15 => simp only [List.getElem?_toArray, List.getElem?_cons_succ, List.getElem?_cons_zero]; rfl
                go_simp
                (go_at_call 16; refine Calls.mono (overlaps_at _ _ _ _ f (keyF ls ms) _ _ _ _ _ (HF1.out.below D0.out) (HF2.out.below D0.out) (HL3.out.below D0.out) (HM3.out.below D0.out) HLO.out) ?_; rintro _ y1 ⟨rfl, hb1⟩; have D1 : Hid (Below wr.heap.size wr y1) := D0.out.trans (hb1.mono D0.out.size))
                try go_wp2_with fail
                refine hK.out _ _ (HKP.out _ D1.out) (fun hHeld => ?_)
                clear hK hOld
                try simp only [Act.put, List.setIfInBounds_toArray, List.set_cons_zero, List.set_cons_succ]
                refine wpAnyH_take (i := 16) (oi := ?oDt_169_16) (v := ?vDt_169_16) ?eDt_169_16 (by kernel_rfl) (by kernel_rfl) (by kernel_rfl) ?qDt_169_16 (Or.inl ⟨?wDt_169_16, ?yDt_169_16⟩) (by assumption) ?rDt_169_16
                case eDt_169_16 => simp only [List.getElem?_toArray, List.getElem?_cons_succ, List.getElem?_cons_zero]; rfl
                case wDt_169_16 => rfl
                case qDt_169_16 => exact fun _ _ _ h => h
                case yDt_169_16 => (intro w hSw; (try dsimp only at hSw); go_simp; try with_reducible rfl)
                try simp only [Act.put, List.setIfInBounds_toArray, List.set_cons_zero, List.set_cons_succ]
                refine wpAnyH_take (i := 17) (oi := ?oDt_170_17) (v := ?vDt_170_17) ?eDt_170_17 (by kernel_rfl) (by kernel_rfl) (by kernel_rfl) ?qDt_170_17 (Or.inl ⟨?wDt_170_17, ?yDt_170_17⟩) (by assumption) ?rDt_170_17
                case eDt_170_17 => simp only [List.getElem?_toArray, List.getElem?_cons_succ, List.getElem?_cons_zero]; rfl
                case wDt_170_17 => rfl
                case qDt_170_17 => exact fun _ _ _ h => h
                case yDt_170_17 => (intro w hSw; (try dsimp only at hSw); go_simp; try with_reducible rfl)
                try simp only [Act.put, List.setIfInBounds_toArray, List.set_cons_zero, List.set_cons_succ]
                refine wpAnyH_take (i := 18) (oi := ?oDt_171_18) (v := ?vDt_171_18) ?eDt_171_18 (by kernel_rfl) (by kernel_rfl) (by kernel_rfl) ?qDt_171_18 (Or.inl ⟨?wDt_171_18, ?yDt_171_18⟩) (by assumption) ?rDt_171_18
                case eDt_171_18 => simp only [List.getElem?_toArray, List.getElem?_cons_succ, List.getElem?_cons_zero]; rfl
                case wDt_171_18 => rfl
                case qDt_171_18 => exact fun _ _ _ h => h
                case yDt_171_18 => (intro w hSw; (try dsimp only at hSw); go_simp; try with_reducible rfl)
                try simp only [Act.put, List.setIfInBounds_toArray, List.set_cons_zero, List.set_cons_succ]
                refine wpAnyH_done (by kernel_rfl) ?_ _
                go_wp2_with fail
                go_roundw
                · exact ⟨k + 1, !r, rfl, by go_num, by omega, HPN.out, HB2.out.trans (D1.out.mono HB2.out.size)⟩
                · simp only [intOf]; omega
            · have u3 : ¬ (k : Int) < (nq : Int) := by omega
              have hkq' : k = nq := by omega
              have HPN : Hid (bt = (p2 && clearFrom ls ms v.levels (q + 1))) := by
                show _ = _
                have h1 := HP2.out
                rw [List.take_of_length_le (by rw [HNQ.out]; omega)] at h1
                rw [HPQ.out, HCS.out, h1, Bool.and_assoc]
              clear hk hkq hkq'
              go_wp2_with fail
              go_roundw
              · exact ⟨q + 1, p2, rfl, by go_num, by omega, by omega, HPN.out, HB2.out⟩
              · simp only [intOf]; omega
        · have u1 : ¬ (q : Int) < 5 := by omega
          have HSr := Lib.hid (HS9.out.below HB1.out)
          have j5 : wr.cell? ⟨jb, 5, none⟩ = some (.bool bt) := HSr.out.j.cell rfl
          have hbt : bt = p := by
            have h1 := HPQ.out
            rw [clearFrom_end ls ms v.levels (by rw [HM.out]; omega), Bool.and_true] at h1
            exact h1
          subst hbt
          have HWE : Hid (Below w.heap.size w wr) := HS9.out.bel.trans (HB1.out.mono HS9.out.bel.size)
          cases bt with
          | false =>
            go_wp2_with fail
            go_ret
            exact ⟨rfl, HWE.out⟩
          | true =>
            go_wp2_with fail
            go_ret
            exact ⟨rfl, HWE.out⟩
end Go.Proofs.Ytkcohhldmhdcfaa
