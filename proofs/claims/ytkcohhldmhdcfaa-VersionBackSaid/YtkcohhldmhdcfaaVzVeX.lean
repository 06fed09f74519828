/- Chapter 12: version.Apply, the walk. -/
import Derived.Test.YtkcohhldmhdcfaaVzVeW
namespace Go.Proofs.Ytkcohhldmhdcfaa
open Go.RowKit

theorem Fl.fwOf {D E : Nat → Prop} {A : Nat} {w : World} {v : Value} {us : List Value} {files : List (List Fil)} (h : Fl (fun _ => True) A w v us files) (hD : ∀ k, A ≤ k → k < w.heap.size → D k) (hE : ∀ k, A ≤ k → k < w.heap.size → E k) : Fw D E A w v us files :=
  ⟨h.arr, h.len, fun i hi => (h.row i hi).mono fun k hk hF _ => ⟨hE k hF.1 hk, hF.2.2⟩, h.dis, h.ne, fun k e => hD k (h.arr.lt k e).1 (h.arr.lt k e).2, fun i k hi e => hD k ((h.row i hi).lt k e).1 ((h.row i hi).lt k e).2⟩
theorem Fw.shrink {D E D' E' : Nat → Prop} {A : Nat} {w : World} {v : Value} {us : List Value} {files : List (List Fil)} (h : Fw D E A w v us files) (hD : ∀ k, k < w.heap.size → D k → D' k) (hE : ∀ k, k < w.heap.size → E k → E' k) : Fw D' E' A w v us files :=
  ⟨h.arr, h.len, fun i hi => (h.row i hi).mono fun k hk hF _ => ⟨hE k hk hF.1, hF.2⟩, h.dis, h.ne, fun k e => hD k (h.arr.lt k e).2 (h.da k e), fun i k hi e => hD k ((h.row i hi).lt k e).2 (h.dr i k hi e)⟩

def zero4 : Array Value := #[.slice none 0 0, .int .u64 0, .int .u64 0, .int .u64 0]
/-- What lies in memory while an edit is applied. -/
structure ApCtx (w0 : World) (b0 eb rb wb g A : Nat) (D E : Nat → Prop) (e : Edi) (dv av : Value) (us : List Value) (ls : List (List Fil)) (w : World) : Prop where
  work : WorkAt D E A wb g us ls e.next e.seq e.log w
  ed : Blk w eb (ediCells e dv av).toArray 57
  res : Blk w rb zero4 25
  out : Below b0 w0 w
  eat : EdiAt (· < b0) w e dv av
  dge : ∀ k, D k → b0 ≤ k
  deb : ¬ D eb
  drb : ¬ D rb
  elo : ∀ k, k < b0 → E k
  alo : b0 ≤ A
theorem ApCtx.step {w0 : World} {b0 eb rb wb g A : Nat} {D E : Nat → Prop} {e : Edi} {dv av : Value} {us us' : List Value} {ls ls' : List (List Fil)} {w w' : World} (h : ApCtx w0 b0 eb rb wb g A D E e dv av us ls w) (hw : Wrote D w w') (hW : WorkAt D E A wb g us' ls' e.next e.seq e.log w') (hb : b0 ≤ w.heap.size) : ApCtx w0 b0 eb rb wb g A D E e dv av us' ls' w' :=
  ⟨hW, h.ed.same (hw.block _ h.ed.lt h.deb), h.res.same (hw.block _ h.res.lt h.drb), h.out.trans (hw.below hb fun k hk => h.dge k hk), h.eat.keep fun k hk hF => hw.block k hk fun e => by have := h.dge k e; omega, h.dge, h.deb, h.drb, h.elo, h.alo⟩
theorem ApCtx.below {w0 : World} {b0 eb rb wb g A : Nat} {D E : Nat → Prop} {e : Edi} {dv av : Value} {us : List Value} {ls : List (List Fil)} {w w' : World} (h : ApCtx w0 b0 eb rb wb g A D E e dv av us ls w) (hb : Below w.heap.size w w') : ApCtx w0 b0 eb rb wb g A D E e dv av us ls w' :=
  ⟨h.work.below hb, h.ed.below hb h.ed.lt, h.res.below hb h.res.lt, h.out.trans (hb.mono (Nat.le_trans h.alo h.work.le)), h.eat.below hb, h.dge, h.deb, h.drb, h.elo, h.alo⟩
/-- One block more that is kept apart. -/
theorem ApCtx.shrink {w0 : World} {b0 eb rb wb g A : Nat} {D E : Nat → Prop} {e : Edi} {dv av : Value} {us : List Value} {ls : List (List Fil)} {w w' : World} (h : ApCtx w0 b0 eb rb wb g A D E e dv av us ls w) (mb : Nat) (hm : w.heap.size = mb) (hs : mb < w'.heap.size) (hb : Below w.heap.size w w') :
    ApCtx w0 b0 eb rb wb g A (fun k => D k ∧ k ≠ mb) (fun k => E k ∧ k ≠ mb) e dv av us ls w' := by
  have h1 := h.below hb
  have h2 : Fw (fun k => D k ∧ k ≠ mb) (fun k => E k ∧ k ≠ mb) A w (.slice (some ⟨g, 0, none⟩) 5 5) us ls := h.work.fl.shrink (fun k hk hd => ⟨hd, by omega⟩) fun k hk hd => ⟨hd, by omega⟩
  have hle := Nat.le_trans h.alo h.work.le
  exact ⟨⟨h1.work.blk, h2.below hb, h1.work.five, fun hd => h1.work.out hd.1, fun k hk => ⟨h1.work.new k hk, by omega⟩, h1.work.le⟩, h1.ed, h1.res, h1.out, h1.eat, fun k hk => h1.dge k hk.1, fun hk => h1.deb hk.1, fun hk => h1.drb hk.1, fun k hk => ⟨h1.elo k hk, by omega⟩, h1.alo⟩
theorem ApCtx.mapped {w0 : World} {b0 eb rb wb g A mb : Nat} {D E : Nat → Prop} {e : Edi} {dv av : Value} {us : List Value} {ls : List (List Fil)} {w w' : World} (h : ApCtx w0 b0 eb rb wb g A D E e dv av us ls w) (hw : Wrote (fun k => k = mb) w w') (hD : ¬ D mb) (hE : ¬ E mb) (hwb : wb ≠ mb) (he : eb ≠ mb) (hr : rb ≠ mb) (hb : b0 ≤ mb) : ApCtx w0 b0 eb rb wb g A D E e dv av us ls w' :=
  ⟨h.work.keep hw (fun k hk e => hD (by rw [← e]; exact hk)) (fun k hk e => hE (by rw [← e]; exact hk)) hwb, h.ed.same (hw.block _ h.ed.lt he), h.res.same (hw.block _ h.res.lt hr), h.out.trans (hw.below (Nat.le_trans h.alo h.work.le) fun k hk => by rw [hk]; exact hb), h.eat.keep fun k hk hF => hw.block k hk fun e => by omega, h.dge, h.deb, h.drb, h.elo, h.alo⟩

/-- Levels that are not too long. -/
structure Small (ls : List (List Fil)) (n : Nat) : Prop where
  five : ls.length = 5
  len : ∀ i, i < 5 → (lat ls i).length ≤ n
  key : ∀ i, i < 5 → ∀ f ∈ lat ls i, f.least.length ≤ 100000000 ∧ f.most.length ≤ 100000000
theorem Small.drop {ls ls' : List (List Fil)} {n : Nat} {lev num : Int} (h : Small ls n) (hd : dropLs ls lev num = some ls') : Small ls' n :=
  ⟨(dropLs_len hd).trans h.five, fun i hi => Nat.le_trans (dropLs_lev h.five hd i).1 (h.len i hi), fun i hi f hf => h.key i hi f ((dropLs_lev h.five hd i).2 f hf)⟩
theorem Small.add {ls : List (List Fil)} {n m : Nat} {f : Fil} (h : Small ls n) (hm : m < 5) (hf : f.least.length ≤ 100000000 ∧ f.most.length ≤ 100000000) : Small (addLs ls m f) (n + 1) :=
  ⟨(addLs_len _ _ _).trans h.five, fun i hi => Nat.le_trans (addLs_lev (by rw [h.five]; exact hm) i).1 (by have := h.len i hi; omega), fun i hi g hg => by
    rcases (addLs_lev (by rw [h.five]; exact hm) i).2 g hg with rfl | hg
    · exact hf
    · exact h.key i hi g hg⟩
theorem Small.cnt {ls : List (List Fil)} {n : Nat} (h : Small ls n) : cntTo ls ls.length ≤ 5 * n := by
  have h1 : ∀ i, i ≤ 5 → cntTo ls i ≤ i * n := fun i => by
    induction i with
    | zero => intro _; exact Nat.zero_le _
    | succ i ih =>
      intro hi
      have := ih (by omega)
      have := h.len i (by omega)
      show cntTo ls i + (lat ls i).length ≤ (i + 1) * n
      rw [Nat.add_mul]
      omega
  rw [h.five]
  exact h1 5 (by omega)
def ApplyPost (r : Ver × Int) (b0 : Nat) (w : World) (x : Ending) (w' : World) : Prop :=
  ∃ lv, x = .returned (.tuple #[.agg (verCells r.1 lv).toArray, .int .i64 r.2]) ∧ Rw (rowK filK) (fun k => b0 ≤ k) w' lv r.1.levels ∧ Below b0 w w'
theorem applyPost_zero {r : Ver × Int} {b0 : Nat} {w w' : World} {c : Int} (h : r = (zeroV, c)) (hb : Below b0 w w') : ApplyPost r b0 w (.returned (.tuple #[.agg zero4, .int .i64 c])) w' := by
  subst h
  exact ⟨.slice none 0 0, rfl, Rw.nil _ _ _, hb⟩
theorem blk_zero4 {w : World} {rb : Nat} (h : Blk w rb zero4 25) : Blk ((((w.setCell ⟨rb, 0, none⟩ (.slice none 0 0)).setCell ⟨rb, 1, none⟩ (.int .u64 0)).setCell ⟨rb, 2, none⟩ (.int .u64 0)).setCell ⟨rb, 3, none⟩ (.int .u64 0)) rb zero4 25 :=
  (((h.set 0 _).set 1 _).set 2 _).set 3 _
theorem zero4_cells {w : World} {rb : Nat} (h : Blk w rb zero4 25) : w.cell? ⟨rb, 0, none⟩ = some (.slice none 0 0) ∧ w.cell? ⟨rb, 1, none⟩ = some (.int .u64 0) ∧ w.cell? ⟨rb, 2, none⟩ = some (.int .u64 0) ∧ w.cell? ⟨rb, 3, none⟩ = some (.int .u64 0) ∧ w.frozen? ⟨rb, 0, none⟩ = false ∧ w.frozen? ⟨rb, 1, none⟩ = false ∧ w.frozen? ⟨rb, 2, none⟩ = false ∧ w.frozen? ⟨rb, 3, none⟩ = false :=
  ⟨h.cell rfl, h.cell rfl, h.cell rfl, h.cell rfl, h.free 0, h.free 1, h.free 2, h.free 3⟩
theorem below_set4 {b0 rb : Nat} {w W : World} {v0 v1 v2 v3 : Value} (h : Below b0 w W) (hr : b0 ≤ rb) : Below b0 w ((((W.setCell ⟨rb, 0, none⟩ v0).setCell ⟨rb, 1, none⟩ v1).setCell ⟨rb, 2, none⟩ v2).setCell ⟨rb, 3, none⟩ v3) :=
  (((h.setCell hr _).setCell hr _).setCell hr _).setCell hr _

/-- What lies in memory when the new version is built. -/
def EndAt (w0 : World) (b0 rb : Nat) (ls : List (List Fil)) (e : Edi) (x : Value) (w : World) : Prop :=
  ∃ ob g2, x = .pointer (some ⟨ob, 0, none⟩) ∧ Blk w ob (verCells (newV ls e) (.slice (some ⟨g2, 0, none⟩) 5 5)).toArray 25 ∧ Rw (rowK filK) (fun k => b0 ≤ k ∧ k ≠ rb) w (.slice (some ⟨g2, 0, none⟩) 5 5) (newV ls e).levels ∧ Below b0 w0 w ∧ Blk w rb zero4 25
theorem below_ad {w w' : World} {o : Obj} (hb : Below (w.alloc o).drew.heap.size (w.alloc o).drew w') : Below w.heap.size w w' :=
  (below_drew ((Below.refl _ _).alloc (Nat.le_refl _) o)).trans (hb.mono (by show w.heap.size ≤ (w.alloc o).heap.size; simp))
theorem blk_ad {w w' : World} {c : Array Value} {T : TypeId} (hb : Below (w.alloc (.cells c T)).drew.heap.size (w.alloc (.cells c T)).drew w') : Blk w' w.heap.size c T :=
  Blk.below (Blk.drewP (Blk.at_new rfl rfl)) hb (by show w.heap.size < (w.alloc _).heap.size; simp)
theorem endAt_1 {w w9 : World} {b0 rb g9 A9 : Nat} {ls ls' : List (List Fil)} {us : List Value} {e : Edi} (hf : Fl (fun _ => True) A9 w9 (.slice (some ⟨g9, 0, none⟩) 5 5) us ls') (hn : (newV ls e).levels = ls') (hb : Below b0 w w9) (hr : Blk w9 rb zero4 25) (hA : rb < A9) (hB : b0 ≤ rb) :
    EndAt w b0 rb ls e (.pointer (some ⟨w9.heap.size, 0, none⟩)) (w9.alloc (.cells #[.slice (some ⟨g9, 0, none⟩) 5 5, .int .u64 e.next, .int .u64 e.seq, .int .u64 e.log] 25)) := by
  have hb9 : Below w9.heap.size w9 (w9.alloc (.cells #[.slice (some ⟨g9, 0, none⟩) 5 5, .int .u64 e.next, .int .u64 e.seq, .int .u64 e.log] 25)) := (Below.refl _ _).alloc (Nat.le_refl _) _
  have hr9 := hr.lt
  refine ⟨w9.heap.size, g9, rfl, Blk.at_new rfl rfl, ?_, hb.trans (hb9.mono (by omega)), hr.below hb9 hr9⟩
  rw [hn]
  exact (hf.rows.below hb9).mono fun k _ hk => ⟨by omega, by omega⟩
theorem endAt_2 {w w9 : World} {b0 rb ob g9 A9 : Nat} {ls ls' : List (List Fil)} {us : List Value} {e : Edi} (hz : Blk w9 ob zero4 25) (hf : Fl (fun _ => True) A9 w9 (.slice (some ⟨g9, 0, none⟩) 5 5) us ls') (hn : (newV ls e).levels = ls') (hb : Below b0 w w9) (hr : Blk w9 rb zero4 25) (hA : ob < A9) (hB : b0 ≤ rb) (ho : rb < ob) :
    EndAt w b0 rb ls e (.pointer (some ⟨ob, 0, none⟩)) ((((w9.setCell ⟨ob, 0, none⟩ (.slice (some ⟨g9, 0, none⟩) 5 5)).setCell ⟨ob, 1, none⟩ (.int .u64 e.next)).setCell ⟨ob, 2, none⟩ (.int .u64 e.seq)).setCell ⟨ob, 3, none⟩ (.int .u64 e.log)) := by
  have hw : Wrote (fun k => k = ob) w9 ((((w9.setCell ⟨ob, 0, none⟩ (.slice (some ⟨g9, 0, none⟩) 5 5)).setCell ⟨ob, 1, none⟩ (.int .u64 e.next)).setCell ⟨ob, 2, none⟩ (.int .u64 e.seq)).setCell ⟨ob, 3, none⟩ (.int .u64 e.log)) :=
    Wrote.setCell (S := fun k => k = ob) (Wrote.setCell (S := fun k => k = ob) (Wrote.setCell (S := fun k => k = ob) (Wrote.setCell (S := fun k => k = ob) (Wrote.of_below (Below.refl _ _)) _ _ (.inl rfl)) _ _ (.inl rfl)) _ _ (.inl rfl)) _ _ (.inl rfl)
  refine ⟨ob, g9, rfl, (((hz.set 0 _).set 1 _).set 2 _).set 3 _, ?_, below_set4 hb (by omega), hr.same (hw.block rb hr.lt (by omega))⟩
  rw [hn]
  exact (hf.rows.keep fun k hk hF => hw.block k hk (by omega)).mono fun k _ hk => ⟨by omega, by omega⟩

set_option maxRecDepth 100000 in
set_option maxHeartbeats 16000000 in
theorem apply_at (F G : Nat → Prop) (v : Ver) (e : Edi) (lv dv av : Value) (w : World) (b0 : Nat) (hb0 : w.heap.size = b0) (h : Rw (rowK filK) F w lv v.levels) (hw : v.wf) (hfew : cntTo v.levels v.levels.length ≤ 1000000) (he : EdiAt G w e dv av) (hd : e.drops.length ≤ 3000) (ha : e.adds.length ≤ 3000) (hk : ∀ a ∈ e.adds, a.2.least.length ≤ 100000000 ∧ a.2.most.length ≤ 100000000) :
    Calls Try.prog 28 #[.agg (verCells v lv).toArray, .agg (ediCells e dv av).toArray] w (ApplyPost (applyW v e) b0 w) := by
  have HCK := Lib.hid (fun w' (hb : Below w.heap.size w w') => check_any F v _ w' (h.below hb) hw hfew)
  obtain ⟨xa, ca, rfl⟩ := h.isSlice
  obtain ⟨da, dc, rfl⟩ := he.drops.isSlice
  obtain ⟨aa, ac, rfl⟩ := he.adds.isSlice
  have HA : Hid (Rw (rowK filK) (· < w.heap.size) w (.slice xa v.levels.length ca) v.levels) := h.mono fun k hk _ => hk
  have HE : Hid (EdiAt (· < w.heap.size) w e (.slice da e.drops.length dc) (.slice aa e.adds.length ac)) := he.mono fun k hk _ => hk
  have HWF := Lib.hid hw
  have HD := Lib.hid hd
  have HAD := Lib.hid ha
  have HK := Lib.hid hk
  clear h hw hfew he hd ha hk
  unfold verCells at *
  unfold ediCells
  go_enter Try.func28, Try.ntmps28
  go_upto_region 1 with fail
  refine wp_gen fun w1 hw1 => ?_
  have HX1 : Hid (Blk w1 w.heap.size (verCells v (.slice xa v.levels.length ca)).toArray 25) := by rw [hw1]; exact ((Blk.at_new rfl rfl).alloc _).alloc _
  have HE1 : Hid (Blk w1 (w.heap.size + 1) (ediCells e (.slice da e.drops.length dc) (.slice aa e.adds.length ac)).toArray 57) := by rw [hw1]; exact (blk_two _ _ _ _).alloc _
  have HR1 : Hid (Blk w1 (w.heap.size + 1 + 1) zero4 25) := by rw [hw1]; exact Blk.at_new (by simp) rfl
  have HW1 : Hid (Below w.heap.size w w1) := by rw [hw1]; exact below_three _ _ _ _
  clear hw1
  have HLT : Hid (w.heap.size < w1.heap.size ∧ w.heap.size + 1 < w1.heap.size ∧ w.heap.size + 1 + 1 < w1.heap.size) := ⟨HX1.out.lt, HE1.out.lt, HR1.out.lt⟩
  obtain ⟨eb, heb⟩ : ∃ b, b0 + 1 = b := ⟨_, rfl⟩
  obtain ⟨rb, hrb⟩ : ∃ b, eb + 1 = b := ⟨_, rfl⟩
  have HBB : Hid (w.heap.size = b0 ∧ b0 + 1 = eb ∧ eb + 1 = rb) := ⟨hb0, heb, hrb⟩
  have HRB : Hid (b0 ≤ rb) := by show b0 ≤ rb; omega
  rw [hb0] at HX1 HE1 HR1 HW1 HA HE HLT
  rw [heb] at HE1 HR1 HLT
  try rw [heb]
  rw [hrb] at HR1 HLT
  try rw [hrb]
  clear hb0 heb hrb
  obtain ⟨m, hm1⟩ : ∃ m, v.levels.length = m := ⟨_, rfl⟩
  have HM := Lib.hid hm1
  obtain ⟨nd, hnd⟩ : ∃ n, e.drops.length = n := ⟨_, rfl⟩
  have HND := Lib.hid hnd
  obtain ⟨na, hna⟩ : ∃ n, e.adds.length = n := ⟨_, rfl⟩
  have HNA := Lib.hid hna
  have hdl : nd ≤ 3000 := by rw [← hnd]; exact HD.out
  have hal : na ≤ 3000 := by rw [← hna]; exact HAD.out
  rw [hm1] at HX1 HA HCK ⊢
  rw [hnd, hna] at HE1 HE ⊢
  clear hm1 hnd hna
  have x0 : w1.cell? ⟨b0, 0, none⟩ = some (.slice xa m ca) := HX1.out.cell rfl
  have x1 : w1.cell? ⟨b0, 1, none⟩ = some (.int .u64 v.next) := HX1.out.cell rfl
  have x2 : w1.cell? ⟨b0, 2, none⟩ = some (.int .u64 v.seq) := HX1.out.cell rfl
  have x3 : w1.cell? ⟨b0, 3, none⟩ = some (.int .u64 v.log) := HX1.out.cell rfl
  go_wp2_with fail
  clear x0 x1 x2 x3
  refine Calls.mono (HCK.out _ (by rw [HBB.out.1]; exact HW1.out)) ?_
  rintro _ w2 ⟨rfl, hb⟩
  have HX2 := Lib.hid (HX1.out.below hb HX1.out.lt)
  have HE2 := Lib.hid (HE1.out.below hb HE1.out.lt)
  have HR2 := Lib.hid (HR1.out.below hb HR1.out.lt)
  have HW2 : Hid (Below b0 w w2) := HW1.out.trans (hb.mono (Nat.le_of_lt HLT.out.1))
  have HLT2 : Hid (rb < w2.heap.size) := Nat.lt_of_lt_of_le HLT.out.2.2 hb.size
  clear hb HX1 HE1 HR1 HW1 HLT HCK
  obtain ⟨ck, hck⟩ : ∃ c, chkW v = c := ⟨_, rfl⟩
  have HKK := Lib.hid hck
  rw [hck]
  clear hck
  by_cases hc0 : ck = 0
  case neg =>
    have g1 : (ck != 0) = true := by simpa using hc0
    have HQ : Hid (applyW v e = (zeroV, ck)) := by
      have h1 : chkW v ≠ 0 := by rw [HKK.out]; exact hc0
      show _ = _
      rw [applyW_chk h1, HKK.out]
    clear hc0
    obtain ⟨r0, r1, r2, r3, f0, f1, f2, f3⟩ := zero4_cells HR2.out
    go_wp2_with fail
    refine bodyPost_ret (results_cell_tmp1 (p := 4) (t := 5) rfl _ _ rb 25 zero4 _ rfl (blk_zero4 HR2.out) Try.underlying25 rfl (by kernel_rfl)) rfl ?_
    exact applyPost_zero HQ.out (below_set4 HW2.out HRB.out)
  subst hc0
  go_upto_region 4 with fail
  have HGS := Lib.hid (good_small HKK.out)
  have hm5 : m = 5 := by rw [← HM.out]; exact HGS.out.1
  subst hm5
  have HVC := Lib.hid (vclone_any (· < b0) (.slice xa 5 ca) v.levels w2.drew ((HA.out.keep fun k _ hk => HW2.out.block k hk).below (below_drew (Below.refl _ _))) HGS.out.1 (fun i hi => Nat.le_trans (HGS.out.2.1 i hi) (by decide)) (fun i hi f hf => ⟨Nat.le_trans (HGS.out.2.2 i hi f hf).1 (by decide), Nat.le_trans (HGS.out.2.2 i hi f hf).2 (by decide)⟩))
  have HS2 : Hid (w2.drew.cell? ⟨b0, 0, none⟩ = some (.slice xa 5 ca) ∧ w2.drew.cell? ⟨eb, 2, none⟩ = some (.int .u64 e.next) ∧ w2.drew.cell? ⟨eb, 3, none⟩ = some (.int .u64 e.seq) ∧ w2.drew.cell? ⟨eb, 4, none⟩ = some (.int .u64 e.log)) := ⟨HX2.out.cell rfl, HE2.out.cell rfl, HE2.out.cell rfl, HE2.out.cell rfl⟩
  have HKEEP : Hid (∀ (w w' : World), b0 < w.heap.size → eb < w.heap.size → Below w.heap.size w w' → (w.cell? ⟨b0, 0, none⟩ = some (.slice xa 5 ca) ∧ w.cell? ⟨eb, 2, none⟩ = some (.int .u64 e.next) ∧ w.cell? ⟨eb, 3, none⟩ = some (.int .u64 e.seq) ∧ w.cell? ⟨eb, 4, none⟩ = some (.int .u64 e.log)) → w'.cell? ⟨b0, 0, none⟩ = some (.slice xa 5 ca) ∧ w'.cell? ⟨eb, 2, none⟩ = some (.int .u64 e.next) ∧ w'.cell? ⟨eb, 3, none⟩ = some (.int .u64 e.seq) ∧ w'.cell? ⟨eb, 4, none⟩ = some (.int .u64 e.log)) := fun w w' h1 h2 hb h =>
    ⟨(hb.cell (p := ⟨b0, 0, none⟩) h1).trans h.1, (hb.cell (p := ⟨eb, 2, none⟩) h2).trans h.2.1, (hb.cell (p := ⟨eb, 3, none⟩) h2).trans h.2.2.1, (hb.cell (p := ⟨eb, 4, none⟩) h2).trans h.2.2.2⟩
  refine wp_region_held_drew (S := fun w' => w'.cell? ⟨b0, 0, none⟩ = some (.slice xa 5 ca) ∧ w'.cell? ⟨eb, 2, none⟩ = some (.int .u64 e.next) ∧ w'.cell? ⟨eb, 3, none⟩ = some (.int .u64 e.seq) ∧ w'.cell? ⟨eb, 4, none⟩ = some (.int .u64 e.log)) (by kernel_rfl) (HS2.out) (fun hHeld => ?_)
  refine wpAnyH_take (i := 0) (oi := ?oR_1_0) (v := ?vR_1_0) ?eR_1_0 (by kernel_rfl) (by kernel_rfl) (by kernel_rfl) ?qR_1_0 (Or.inl ⟨?wR_1_0, ?yR_1_0⟩) (by assumption) ?rR_1_0
  case eR_1_0 => simp only [List.getElem?_toArray, List.getElem?_cons_zero]; rfl
  case wR_1_0 => rfl
  case qR_1_0 => exact fun _ _ _ h => h
  case yR_1_0 => (intro w hSw; (try dsimp only at hSw); go_simp; try with_reducible rfl)
  try simp only [Act.put, List.setIfInBounds_toArray, List.set_cons_zero, List.set_cons_succ]
  refine wpAnyH_take (i := 1) (oi := ?oR_2_1) (v := ?vR_2_1) ?eR_2_1 (by kernel_rfl) (by kernel_rfl) (by kernel_rfl) ?qR_2_1 (Or.inl ⟨?wR_2_1, ?yR_2_1⟩) (by assumption) ?rR_2_1
  case eR_2_1 => simp only [List.getElem?_toArray, List.getElem?_cons_succ, List.getElem?_cons_zero]; rfl
  case wR_2_1 => rfl
  case qR_2_1 => exact fun _ _ _ h => h
  case yR_2_1 => (intro w hSw; (try dsimp only at hSw); go_simp; try with_reducible rfl)
  try simp only [Act.put, List.setIfInBounds_toArray, List.set_cons_zero, List.set_cons_succ]
  refine wpAnyH_take (i := 2) (oi := ?oR_3_2) (v := ?vR_3_2) ?eR_3_2 (by kernel_rfl) (by kernel_rfl) (by kernel_rfl) ?qR_3_2 (Or.inl ⟨?wR_3_2, ?yR_3_2⟩) (by assumption) ?rR_3_2
  case eR_3_2 => simp only [List.getElem?_toArray, List.getElem?_cons_succ, List.getElem?_cons_zero]; rfl
  case wR_3_2 => rfl
  case qR_3_2 => exact fun _ _ _ h => h
  case yR_3_2 => (intro w hSw; (try dsimp only at hSw); go_simp; try with_reducible rfl)
  try simp only [Act.put, List.setIfInBounds_toArray, List.set_cons_zero, List.set_cons_succ]
  refine wpAnyH_take (i := 4) (oi := ?oR_4_4) (v := ?vR_4_4) ?eR_4_4 (by kernel_rfl) (by kernel_rfl) (by kernel_rfl) ?qR_4_4 (Or.inl ⟨?wR_4_4, ?yR_4_4⟩) (by assumption) ?rR_4_4
  case eR_4_4 => simp only [List.getElem?_toArray, List.getElem?_cons_succ, List.getElem?_cons_zero]; rfl
  case wR_4_4 => rfl
  case qR_4_4 => exact fun _ _ _ h => h
  case yR_4_4 => (intro w hSw; (try dsimp only at hSw); go_simp; try with_reducible rfl)
  try simp only [Act.put, List.setIfInBounds_toArray, List.set_cons_zero, List.set_cons_succ]
  refine wpAnyH_take (i := 5) (oi := ?oR_5_5) (v := ?vR_5_5) ?eR_5_5 (by kernel_rfl) (by kernel_rfl) (by kernel_rfl) ?qR_5_5 (Or.inl ⟨?wR_5_5, ?yR_5_5⟩) (by assumption) ?rR_5_5
  case eR_5_5 => simp only [List.getElem?_toArray, List.getElem?_cons_succ, List.getElem?_cons_zero]; rfl
  case wR_5_5 => rfl
  case qR_5_5 => exact fun _ _ _ h => h
  case yR_5_5 => (intro w hSw; (try dsimp only at hSw); go_simp; try with_reducible rfl)
  try simp only [Act.put, List.setIfInBounds_toArray, List.set_cons_zero, List.set_cons_succ]
  refine wpAnyH_take (i := 6) (oi := ?oR_6_6) (v := ?vR_6_6) ?eR_6_6 (by kernel_rfl) (by kernel_rfl) (by kernel_rfl) ?qR_6_6 (Or.inl ⟨?wR_6_6, ?yR_6_6⟩) (by assumption) ?rR_6_6
  case eR_6_6 => simp only [List.getElem?_toArray, List.getElem?_cons_succ, List.getElem?_cons_zero]; rfl
  case wR_6_6 => rfl
  case qR_6_6 => exact fun _ _ _ h => h
  case yR_6_6 => (intro w hSw; (try dsimp only at hSw); go_simp; try with_reducible rfl)
  try simp only [Act.put, List.setIfInBounds_toArray, List.set_cons_zero, List.set_cons_succ]
  refine wpAnyH_take (i := 7) (oi := ?oR_7_7) (v := ?vR_7_7) ?eR_7_7 (by kernel_rfl) (by kernel_rfl) (by kernel_rfl) ?qR_7_7 (Or.inl ⟨?wR_7_7, ?yR_7_7⟩) (by assumption) ?rR_7_7
  case eR_7_7 => simp only [List.getElem?_toArray, List.getElem?_cons_succ, List.getElem?_cons_zero]; rfl
  case wR_7_7 => rfl
  case qR_7_7 => exact fun _ _ _ h => h
  case yR_7_7 => (intro w hSw; (try dsimp only at hSw); go_simp; try with_reducible rfl)
  try simp only [Act.put, List.setIfInBounds_toArray, List.set_cons_zero, List.set_cons_succ]
  refine wpAnyH_take (i := 8) (oi := ?oR_8_8) (v := ?vR_8_8) ?eR_8_8 (by kernel_rfl) (by kernel_rfl) (by kernel_rfl) ?qR_8_8 (Or.inl ⟨?wR_8_8, ?yR_8_8⟩) (by assumption) ?rR_8_8
  case eR_8_8 => simp only [List.getElem?_toArray, List.getElem?_cons_succ, List.getElem?_cons_zero]; rfl
  case wR_8_8 => rfl
  case qR_8_8 => exact fun _ _ _ h => h
  case yR_8_8 => (intro w hSw; (try dsimp only at hSw); go_simp; try with_reducible rfl)
  try simp only [Act.put, List.setIfInBounds_toArray, List.set_cons_zero, List.set_cons_succ]
  refine wpAnyH_take (i := 9) (oi := ?oR_9_9) (v := ?vR_9_9) ?eR_9_9 (by kernel_rfl) (by kernel_rfl) (by kernel_rfl) ?qR_9_9 (Or.inl ⟨?wR_9_9, ?yR_9_9⟩) (by assumption) ?rR_9_9
  case eR_9_9 => simp only [List.getElem?_toArray, List.getElem?_cons_succ, List.getElem?_cons_zero]; rfl
  case wR_9_9 => rfl
  case qR_9_9 => exact fun _ _ _ h => h
  case yR_9_9 => (intro w hSw; (try dsimp only at hSw); go_simp; try with_reducible rfl)
  try simp only [Act.put, List.setIfInBounds_toArray, List.set_cons_zero, List.set_cons_succ]
  have hOld := hHeld
  clear hHeld
  refine wpAnyH_ready (rs := [3]) (by kernel_rfl) (by simp) ?_
  refine AllReadyH.cons (o := ?oR_10_3) ?eR_10_3 (fun K hK => ?_) AllReadyH.nil
  case eR_10_3 => simp only [List.getElem?_toArray, List.getElem?_cons_succ, List.getElem?_cons_zero]; rfl
  go_simp
  (go_at_call 68; refine Calls.mono HVC.out ?_; rintro _ w3 ⟨g, us, rfl, hf3, hb3⟩)
  try go_wp2_with fail
  refine hK.out _ _ (HKEEP.out w2.drew w3 HX2.out.lt HE2.out.lt hb3 HS2.out) (fun hHeld => ?_)
  clear hK hOld
  try simp only [Act.put, List.setIfInBounds_toArray, List.set_cons_zero, List.set_cons_succ]
  refine wpAnyH_take (i := 10) (oi := ?oR_11_10) (v := ?vR_11_10) ?eR_11_10 (by kernel_rfl) (by kernel_rfl) (by kernel_rfl) ?qR_11_10 (Or.inl ⟨?wR_11_10, ?yR_11_10⟩) (by assumption) ?rR_11_10
  case eR_11_10 => simp only [List.getElem?_toArray, List.getElem?_cons_succ, List.getElem?_cons_zero]; rfl
  case wR_11_10 => rfl
  case qR_11_10 => exact fun _ _ _ h => h
  case yR_11_10 => (intro w hSw; (try dsimp only at hSw); go_simp; try with_reducible rfl)
  try simp only [Act.put, List.setIfInBounds_toArray, List.set_cons_zero, List.set_cons_succ]
  have hOld := hHeld
  clear hHeld
  refine wpAnyH_ready (rs := [11]) (by kernel_rfl) (by simp) ?_
  refine AllReadyH.cons (o := ?oR_12_11) ?eR_12_11 (fun K hK => ?_) AllReadyH.nil
  case eR_12_11 => simp only [List.getElem?_toArray, List.getElem?_cons_succ, List.getElem?_cons_zero]; rfl
  go_simp
  skip
  try go_wp2_with fail
  refine hK.out _ _ (HKEEP.out w3 _ (Nat.lt_of_lt_of_le HX2.out.lt hb3.size) (Nat.lt_of_lt_of_le HE2.out.lt hb3.size) ((Below.refl _ _).alloc (Nat.le_refl _) _) hOld) (fun hHeld => ?_)
  clear hK hOld
  try simp only [Act.put, List.setIfInBounds_toArray, List.set_cons_zero, List.set_cons_succ]
  refine wpAnyH_take (i := 12) (oi := ?oR_13_12) (v := ?vR_13_12) ?eR_13_12 (by kernel_rfl) (by kernel_rfl) (by kernel_rfl) ?qR_13_12 (Or.inl ⟨?wR_13_12, ?yR_13_12⟩) (by assumption) ?rR_13_12
  case eR_13_12 => simp only [List.getElem?_toArray, List.getElem?_cons_succ, List.getElem?_cons_zero]; rfl
  case wR_13_12 => rfl
  case qR_13_12 => exact fun _ _ _ h => h
  case yR_13_12 => (intro w hSw; (try dsimp only at hSw); go_simp; try with_reducible rfl)
  try simp only [Act.put, List.setIfInBounds_toArray, List.set_cons_zero, List.set_cons_succ]
  refine wpAnyH_done (by kernel_rfl) ?_ _
  obtain ⟨wb, hwb⟩ : ∃ b, w3.heap.size = b := ⟨_, rfl⟩
  generalize hw4 : World.alloc w3 _ = w4
  have HC : Hid (ApCtx w b0 eb rb wb g w2.heap.size (fun k => b0 ≤ k ∧ k ≠ eb ∧ k ≠ rb ∧ k ≠ wb) (fun k => k ≠ eb ∧ k ≠ rb ∧ k ≠ wb) e (.slice da nd dc) (.slice aa na ac) us v.levels w4) := by
    have hB34 : Below w3.heap.size w3 w4 := by rw [← hw4]; exact (Below.refl _ _).alloc (Nat.le_refl _) _
    have hB24 : Below w2.heap.size w2 w4 := (below_of_drew hb3).trans (hB34.mono hb3.size)
    have h2 := HLT2.out
    have h0 := HRB.out
    have h3 := HBB.out
    have h4 : w2.heap.size ≤ w3.heap.size := hb3.size
    have hfw : Fw (fun k => b0 ≤ k ∧ k ≠ eb ∧ k ≠ rb ∧ k ≠ wb) (fun k => k ≠ eb ∧ k ≠ rb ∧ k ≠ wb) w2.heap.size w3 (.slice (some ⟨g, 0, none⟩) 5 5) us v.levels :=
      Fl.fwOf (A := w2.heap.size) hf3 (fun k hk hlt => ⟨by omega, by omega, by omega, by omega⟩) fun k hk hlt => ⟨by omega, by omega, by omega⟩
    refine ⟨⟨by rw [← hw4]; exact Blk.at_new hwb.symm rfl, hfw.below hB34, by rw [hf3.len]; exact HGS.out.1, fun h => h.2.2.2 rfl, fun k hk => ?_, hB24.size⟩, HE2.out.below hB24 HE2.out.lt, HR2.out.below hB24 HR2.out.lt, HW2.out.trans (hB24.mono (by omega)), HE.out.keep fun k hk hF => ?_, fun k hk => hk.1, fun h => h.2.1 rfl, fun h => h.2.2.1 rfl, fun k hk => ⟨by omega, by omega, by omega⟩, by omega⟩
    · have : w4.heap.size = wb + 1 := by rw [← hw4, ← hwb]; simp
      exact ⟨by omega, by omega, by omega, by omega⟩
    · exact (hB24.block k (by omega)).trans (HW2.out.block k hF)
  have HWB : Hid (b0 ≤ wb ∧ eb ≠ wb ∧ rb ≠ wb ∧ b0 ≤ eb) := by
    have h2 := HLT2.out
    have h3 := HBB.out
    have h4 : w2.heap.size ≤ w3.heap.size := hb3.size
    exact ⟨by omega, by omega, by omega, by omega⟩
  have HSM : Hid (Small v.levels 10000) := ⟨HGS.out.1, fun i hi => HGS.out.2.1 i (by rw [HGS.out.1]; exact hi), fun i hi f hf => ⟨Nat.le_trans (HGS.out.2.2 i (by rw [HGS.out.1]; exact hi) f hf).1 (by decide), Nat.le_trans (HGS.out.2.2 i (by rw [HGS.out.1]; exact hi) f hf).2 (by decide)⟩⟩
  rw [hwb]
  clear hw4 hf3 hb3 hHeld HS2 HKEEP HVC HX2 HA HE2 HR2 HE hwb
  generalize (fun k => b0 ≤ k ∧ k ≠ eb ∧ k ≠ rb ∧ k ≠ wb) = D at *
  generalize (fun k => k ≠ eb ∧ k ≠ rb ∧ k ≠ wb) = E at *
  generalize w2.heap.size = A at *
  clear HW2 HLT2
  have e0 : w4.cell? ⟨eb, 0, none⟩ = some (.slice da nd dc) := HC.out.ed.cell rfl
  go_wp2_with fail
  clear e0
  go_loopw [40] (fun iv wr => ∃ (k : Nat) (us : List Value) (ls : List (List Fil)), iv = .int .i64 (k : Int) ∧ k ≤ nd ∧ Hid (dropsLs v.levels (e.drops.take k) = some ls) ∧ Hid (Small ls 10000) ∧ Hid (ApCtx w b0 eb rb wb g A D E e (.slice da nd dc) (.slice aa na ac) us ls wr)) (fun iv _ => nd - (intOf iv).toNat)
  case atStart => exact ⟨0, us, v.levels, rfl, by omega, rfl, HSM.out, HC.out⟩
  case round =>
    obtain ⟨k, us, ls, rfl, hk, HDL, HSM, HC⟩ := hrel
    by_cases hlt : k < nd
    · have t1 : (k : Int) < (nd : Int) := by omega
      have t3 : 0 ≤ (k : Int) := by omega
      have hk1 : k < e.drops.length := by rw [HND.out]; exact hlt
      obtain ⟨bd, od, capd, ed, hbd, _, hcd⟩ := drops_at HC.out.eat.drops (by omega)
      obtain ⟨hil, hnu, c0, c1⟩ := hcd k hk1
      injection ed with e1 e2 e3
      subst e1 e3
      clear e2 hcd
      have HMORE := Lib.hid (dropsLs_more hk1 HDL.out)
      have HNONE := Lib.hid (fun h => dropsLs_none (ls := v.levels) (ds := e.drops) (k := k + 1) h)
      obtain ⟨d, hd⟩ : ∃ d, dat e.drops k = d := ⟨_, rfl⟩
      rw [hd] at hil hnu c0 c1 HMORE
      obtain ⟨lev, num⟩ := d
      have HIL := Lib.hid hil
      have HBD := Lib.hid hbd
      clear hil hnu hd hbd hk1
      go_upto_region 8 with fail
      clear c0 c1
      refine wp_gen fun w5 hw5 => ?_
      have HB5 : Hid (Below wr.heap.size wr w5) := by rw [hw5]; exact (Below.refl _ _).alloc (Nat.le_refl _) _
      have HX5 : Hid (Blk w5 wr.heap.size #[.int .i64 lev, .int .u64 num] 100) := by rw [hw5]; exact Blk.at_new rfl rfl
      have HC5 := Lib.hid (HC.out.below HB5.out)
      clear hw5 HC HB5
      have x0 : w5.cell? ⟨wr.heap.size, 0, none⟩ = some (.int .i64 lev) := HX5.out.cell rfl
      have x1 : w5.cell? ⟨wr.heap.size, 1, none⟩ = some (.int .u64 num) := HX5.out.cell rfl
      go_wp2_with fail
      clear x0 x1
      refine Calls.mono (drop_any D E A wb g us ls lev num e.next e.seq e.log w5 HC5.out.work HIL.out fun i hi => Nat.le_trans (HSM.out.len i hi) (by decide)) ?_
      rintro x w6 hx
      unfold DropPost at hx
      cases hdl : dropLs ls lev num with
      | none =>
        rw [hdl] at hx
        obtain ⟨rfl, hw6⟩ := hx
        have HQ : Hid (applyW v e = (zeroV, 6)) := applyW_none HKK.out (HNONE.out (HMORE.out.trans hdl))
        have HR6 : Hid (Blk w6 rb zero4 25) := HC5.out.res.same (hw6.block _ HC5.out.res.lt HC5.out.drb)
        have HW6 : Hid (Below b0 w w6) := HC5.out.out.trans (hw6.below (Nat.le_trans HC5.out.alo HC5.out.work.le) HC5.out.dge)
        clear hdl hw6
        obtain ⟨r0, r1, r2, r3, f0, f1, f2, f3⟩ := zero4_cells HR6.out
        go_wp2_with fail
        refine bodyPost_ret (results_cell_tmp1 (p := 4) (t := 5) rfl _ _ rb 25 zero4 _ rfl (blk_zero4 HR6.out) Try.underlying25 rfl (by kernel_rfl)) rfl ?_
        exact applyPost_zero HQ.out (below_set4 HW6.out HRB.out)
      | some ls' =>
        rw [hdl] at hx
        obtain ⟨us', rfl, hW6, hw6⟩ := hx
        have HC6 := Lib.hid (HC5.out.step hw6 hW6 (Nat.le_trans HC5.out.alo HC5.out.work.le))
        have HDL6 : Hid (dropsLs v.levels (e.drops.take (k + 1)) = some ls') := HMORE.out.trans hdl
        have HSM6 := Lib.hid (HSM.out.drop hdl)
        clear hdl hw6 hW6 HC5
        go_wp2_with fail
        go_roundw
        · exact ⟨k + 1, us', ls', by go_num, by omega, HDL6.out, HSM6.out, HC6.out⟩
        · simp only [intOf]; omega
    · have t1 : ¬ (k : Int) < (nd : Int) := by omega
      have HDS : Hid (dropsLs v.levels e.drops = some ls) := by
        have h1 := HDL.out
        rw [List.take_of_length_le (by rw [HND.out]; omega)] at h1
        exact h1
      clear hlt hk HDL
      have hmm := @run_makeMap Try.prog
      go_upto_region 12 with fail
      refine wp_gen fun w5 hw5 => ?_
      obtain ⟨mb, hmb⟩ : ∃ b, wr.heap.size = b := ⟨_, rfl⟩
      have HB5 : Hid (Below wr.heap.size wr w5) := by rw [hw5]; exact (Below.refl _ _).alloc (Nat.le_refl _) _
      have HS5 : Hid (SetB w5 mb 0 []) := by rw [hw5, ← hmb]; exact SetB.made wr
      have HMB : Hid (b0 ≤ mb ∧ wb ≠ mb ∧ eb ≠ mb ∧ rb ≠ mb) := by
        have h1 := HC.out.work.blk.lt
        have h2 := HC.out.ed.lt
        have h3 := HC.out.res.lt
        have h4 := HWB.out
        exact ⟨by omega, by omega, by omega, by omega⟩
      have HC5 := Lib.hid (HC.out.shrink mb hmb HS5.out.lt HB5.out)
      obtain ⟨D2, hD2⟩ : ∃ D2, (fun k => D k ∧ k ≠ mb) = D2 := ⟨_, rfl⟩
      obtain ⟨E2, hE2⟩ : ∃ E2, (fun k => E k ∧ k ≠ mb) = E2 := ⟨_, rfl⟩
      have HDM : Hid (¬ D2 mb) := by rw [← hD2]; exact fun h => h.2 rfl
      have HEM : Hid (¬ E2 mb) := by rw [← hE2]; exact fun h => h.2 rfl
      rw [hD2, hE2] at HC5
      rw [hmb]
      clear hw5 hmm HB5 HC hmb hD2 hE2
      have e1 : w5.cell? ⟨eb, 1, none⟩ = some (.slice aa na ac) := HC5.out.ed.cell rfl
      go_wp2_with fail
      clear e1
      go_loopw [54] (fun iv wr => ∃ (k : Nat), iv = .int .i64 (k : Int) ∧ k ≤ na ∧ Hid (∀ j, j < k → ¬ ClashAt ls e.adds j) ∧ Hid (SetB wr mb k (addNums e.adds k)) ∧ Hid (ApCtx w b0 eb rb wb g A D2 E2 e (.slice da nd dc) (.slice aa na ac) us ls wr)) (fun iv _ => na - (intOf iv).toNat)
      case atStart => exact ⟨0, rfl, by omega, (fun j hj => by omega), HS5.out.congr rfl (fun x => by simp [addNums]), HC5.out⟩
      case round =>
        obtain ⟨k2, rfl, hk2, HNC, HS, HC⟩ := hrel
        clear HS5 HC5
        by_cases hlt2 : k2 < na
        · have t2 : (k2 : Int) < (na : Int) := by omega
          have t3 : 0 ≤ (k2 : Int) := by omega
          have hk1 : k2 < e.adds.length := by rw [HNA.out]; exact hlt2
          obtain ⟨ba, oa, capa, ea, hba, _, hca⟩ := adds_at HC.out.eat.adds (by omega)
          obtain ⟨vl, vm, hil, hvl, hvm, hwf, hc7⟩ := hca k2 hk1
          injection ea with e1 e2 e3
          subst e1 e3
          clear e2 hca
          have HNM := Lib.hid (addNums_more hk1)
          have HCA : Hid (ClashAt ls e.adds k2 ↔ (adat e.adds k2).2.num ∈ addNums e.adds k2 ∨ hasNum ls (adat e.adds k2).2.num = true) := Iff.rfl
          have HCX : Hid (ClashAt ls e.adds k2 → Clash ls e.adds) := fun h => ⟨k2, hk1, h⟩
          obtain ⟨a, hd⟩ : ∃ a, adat e.adds k2 = a := ⟨_, rfl⟩
          rw [hd] at hil hvl hvm hwf hc7 HNM HCA
          obtain ⟨lev, f⟩ := a
          obtain ⟨la, lc, rfl⟩ := hvl.isSlice
          obtain ⟨ma, mc, rfl⟩ := hvm.isSlice
          have HNU : Hid (u64In f.num) := hwf.1
          obtain ⟨c0, c1, c2, c3, c4, c5, c6⟩ := hc7
          clear hil hvl hvm hwf hd hk1 hba
          go_upto_region 15 with fail
          clear c0 c1 c2 c3 c4 c5 c6
          refine wp_gen fun w5 hw5 => ?_
          have HB5 : Hid (Below wr.heap.size wr w5) := by rw [hw5]; exact (Below.refl _ _).alloc (Nat.le_refl _) _
          have HX5 : Hid (Blk w5 wr.heap.size (addCells lev f (.slice la f.least.length lc) (.slice ma f.most.length mc)).toArray 104) := by rw [hw5]; exact Blk.at_new rfl rfl
          have HC5 := Lib.hid (HC.out.below HB5.out)
          have HS5 := Lib.hid (HS.out.below HB5.out)
          clear hw5 HC HS HB5
          generalize wr.heap.size = ab at *
          have x1 : w5.cell? ⟨ab, 1, none⟩ = some (.int .u64 f.num) := HX5.out.cell rfl
          have hlk := HS5.out.look HNU.out
          by_cases hin : f.num ∈ addNums e.adds k2
          · have HQ : Hid (applyW v e = (zeroV, 5)) := applyW_clash HKK.out HDS.out (HCX.out (HCA.out.2 (.inl hin)))
            rw [decide_eq_true hin] at hlk
            clear hin
            obtain ⟨r0, r1, r2, r3, f0, f1, f2, f3⟩ := zero4_cells HC5.out.res
            go_wp2_with fail
            refine bodyPost_ret (results_cell_tmp1 (p := 4) (t := 5) rfl _ _ rb 25 zero4 _ rfl (blk_zero4 HC5.out.res) Try.underlying25 rfl (by kernel_rfl)) rfl ?_
            exact applyPost_zero HQ.out (below_set4 HC5.out.out HRB.out)
          have HNI := Lib.hid hin
          rw [decide_eq_false hin] at hlk
          clear hin
          go_wp2_with fail
          clear hlk x1
          refine Calls.mono (has_any D2 E2 A wb g us ls f.num e.next e.seq e.log w5 HC5.out.work fun i hi => Nat.le_trans (HSM.out.len i hi) (by decide)) ?_
          rintro _ w6 ⟨rfl, hb6⟩
          have HC6 := Lib.hid (HC5.out.below hb6)
          have HS6 := Lib.hid (HS5.out.below hb6)
          have HX6 := Lib.hid (HX5.out.below hb6 HX5.out.lt)
          clear hb6 HC5 HS5 HX5
          obtain ⟨r, hr⟩ : ∃ r, hasNum ls f.num = r := ⟨_, rfl⟩
          have HRR := Lib.hid hr
          rw [hr]
          clear hr
          cases r with
          | true =>
            have HQ : Hid (applyW v e = (zeroV, 5)) := applyW_clash HKK.out HDS.out (HCX.out (HCA.out.2 (.inr HRR.out)))
            obtain ⟨r0, r1, r2, r3, f0, f1, f2, f3⟩ := zero4_cells HC6.out.res
            go_wp2_with fail
            refine bodyPost_ret (results_cell_tmp1 (p := 4) (t := 5) rfl _ _ rb 25 zero4 _ rfl (blk_zero4 HC6.out.res) Try.underlying25 rfl (by kernel_rfl)) rfl ?_
            exact applyPost_zero HQ.out (below_set4 HC6.out.out HRB.out)
          | false =>
            have HNK : Hid (¬ ClashAt ls e.adds k2) := fun h => (HCA.out.1 h).elim HNI.out fun h => by rw [HRR.out] at h; cases h
            have x1 : w6.cell? ⟨ab, 1, none⟩ = some (.int .u64 f.num) := HX6.out.cell rfl
            go_wp2_with (at_mapUpdate; refine wpList_set_put rfl _ _ _ rfl rfl f.num rfl rfl rfl HS6.out HNU.out (by omega) ?_; intro w7 hs7 hw7)
            have HS7 : Hid (SetB w7 mb (k2 + 1) (addNums e.adds (k2 + 1))) := hs7.congr rfl (fun x => by rw [HNM.out]; simp [or_comm])
            have HC7 := Lib.hid (HC6.out.mapped hw7 HDM.out HEM.out HMB.out.2.1 HMB.out.2.2.1 HMB.out.2.2.2 HMB.out.1)
            clear hs7 hw7 HC6 HS6 x1
            go_wp2_with fail
            go_roundw
            · exact ⟨k2 + 1, by go_num, by omega, (fun j hj => by
                by_cases ej : j = k2
                · rw [ej]; exact HNK.out
                · exact HNC.out j (by omega)), HS7.out, HC7.out⟩
            · simp only [intOf]; omega
        · have t2 : ¬ (k2 : Int) < (na : Int) := by omega
          have HCL : Hid (¬ Clash ls e.adds) := fun ⟨j, hj, h⟩ => HNC.out j (by rw [HNA.out] at hj; omega) h
          clear hlt2 hk2 HNC HS
          have e1 : wr.cell? ⟨eb, 1, none⟩ = some (.slice aa na ac) := HC.out.ed.cell rfl
          go_wp2_with fail
          clear e1
          go_loopw [79] (fun iv wr => ∃ (k : Nat), iv = .int .i64 (k : Int) ∧ k ≤ na ∧ Hid (∀ j, j < k → ¬ OddAt e.adds j) ∧ Hid (ApCtx w b0 eb rb wb g A D2 E2 e (.slice da nd dc) (.slice aa na ac) us ls wr)) (fun iv _ => na - (intOf iv).toNat)
          case atStart => exact ⟨0, rfl, by omega, (fun j hj => by omega), HC.out⟩
          case round =>
            obtain ⟨k3, rfl, hk3, HNO, HC3⟩ := hrel
            clear HC
            by_cases hlt3 : k3 < na
            · have t3 : (k3 : Int) < (na : Int) := by omega
              have t4 : 0 ≤ (k3 : Int) := by omega
              have hk1 : k3 < e.adds.length := by rw [HNA.out]; exact hlt3
              obtain ⟨ba, oa, capa, ea, hba, _, hca⟩ := adds_at HC3.out.eat.adds (by omega)
              obtain ⟨vl, vm, hil, hvl, hvm, hwf, hc7⟩ := hca k3 hk1
              injection ea with e1 e2 e3
              subst e1 e3
              clear e2 hca
              have HOA : Hid (OddAt e.adds k3 ↔ ¬ (0 ≤ (adat e.adds k3).1 ∧ (adat e.adds k3).1 < 5)) := Iff.rfl
              have HOX : Hid (OddAt e.adds k3 → OddLev e.adds) := fun h => ⟨k3, hk1, h⟩
              obtain ⟨a, hd⟩ : ∃ a, adat e.adds k3 = a := ⟨_, rfl⟩
              rw [hd] at hil hvl hvm hwf hc7 HOA
              obtain ⟨lev, f⟩ := a
              obtain ⟨la, lc, rfl⟩ := hvl.isSlice
              obtain ⟨ma, mc, rfl⟩ := hvm.isSlice
              obtain ⟨hl1, hl2⟩ := hil
              obtain ⟨c0, c1, c2, c3, c4, c5, c6⟩ := hc7
              clear hvl hvm hwf hd hk1 hba
              go_upto_region 22 with fail
              clear c0 c1 c2 c3 c4 c5 c6
              refine wp_gen fun w5 hw5 => ?_
              have HB5 : Hid (Below wr.heap.size wr w5) := by rw [hw5]; exact (Below.refl _ _).alloc (Nat.le_refl _) _
              have HX5 : Hid (Blk w5 wr.heap.size (addCells lev f (.slice la f.least.length lc) (.slice ma f.most.length mc)).toArray 104) := by rw [hw5]; exact Blk.at_new rfl rfl
              have HC5 := Lib.hid (HC3.out.below HB5.out)
              clear hw5 HC3 HB5
              generalize wr.heap.size = ab at *
              have x0 : w5.cell? ⟨ab, 0, none⟩ = some (.int .i64 lev) := HX5.out.cell rfl
              have y0 : w5.cell? ⟨wb, 0, none⟩ = some (.slice (some ⟨g, 0, none⟩) 5 5) := HC5.out.work.blk.cell rfl
              by_cases hneg : lev < 0
              · have HQ : Hid (applyW v e = (zeroV, 2)) := applyW_odd HKK.out HDS.out HCL.out (HOX.out (HOA.out.2 fun h => by have := h.1; omega))
                obtain ⟨r0, r1, r2, r3, f0, f1, f2, f3⟩ := zero4_cells HC5.out.res
                go_quiet (fail)
                all_goals
                  go_wp2_with fail
                  refine bodyPost_ret (results_cell_tmp1 (p := 4) (t := 5) rfl _ _ rb 25 zero4 _ rfl (blk_zero4 HC5.out.res) Try.underlying25 rfl (by kernel_rfl)) rfl ?_
                  first
                    | exact applyPost_zero HQ.out (below_set4 (below_dn HC5.out.out _) HRB.out)
                    | exact applyPost_zero HQ.out (below_dn (below_set4 HC5.out.out HRB.out) _)
              by_cases hbig : 5 ≤ lev
              · have HQ : Hid (applyW v e = (zeroV, 2)) := applyW_odd HKK.out HDS.out HCL.out (HOX.out (HOA.out.2 fun h => by have := h.2; omega))
                have t0 : decide (lev < 0) = false := decide_eq_false hneg
                obtain ⟨r0, r1, r2, r3, f0, f1, f2, f3⟩ := zero4_cells HC5.out.res
                go_quiet (fail)
                all_goals
                  go_wp2_with fail
                  refine bodyPost_ret (results_cell_tmp1 (p := 4) (t := 5) rfl _ _ rb 25 zero4 _ rfl (blk_zero4 HC5.out.res) Try.underlying25 rfl (by kernel_rfl)) rfl ?_
                  first
                    | exact applyPost_zero HQ.out (below_set4 (below_dn HC5.out.out _) HRB.out)
                    | exact applyPost_zero HQ.out (below_dn (below_set4 HC5.out.out HRB.out) _)
              have HNO2 : Hid (¬ OddAt e.adds k3) := fun h => HOA.out.1 h ⟨by omega, by omega⟩
              have t0 : decide (lev < 0) = false := decide_eq_false hneg
              have t1 : decide ((5 : Int) ≤ lev) = false := decide_eq_false hbig
              have HCq : Hid (∀ n, ApCtx w b0 eb rb wb g A D2 E2 e (.slice da nd dc) (.slice (some ⟨ba, oa, none⟩) na ac) us ls (w5.drewN n)) := fun n => HC5.out.below (below_dn (Below.refl _ _) _)
              go_quiet (fail)
              all_goals
                go_wp2_with fail
                go_roundw
                · exact ⟨k3 + 1, by go_num, by omega, (fun j hj => by
                    by_cases ej : j = k3
                    · rw [ej]; exact HNO2.out
                    · exact HNO.out j (by omega)), HCq.out _⟩
                · simp only [intOf]; omega
            · have t3 : ¬ (k3 : Int) < (na : Int) := by omega
              have HOK : Hid (∀ j, j < na → 0 ≤ (adat e.adds j).1 ∧ (adat e.adds j).1 < 5) := fun j hj => Classical.byContradiction fun h => HNO.out j (by omega) h
              have HNL : Hid (¬ OddLev e.adds) := fun ⟨j, hj, h⟩ => HNO.out j (by rw [HNA.out] at hj; omega) h
              have e1 : wr.cell? ⟨eb, 1, none⟩ = some (.slice aa na ac) := HC3.out.ed.cell rfl
              clear hlt3 hk3 HNO
              go_wp2_with fail
              clear e1
              go_loopw [102] (fun iv wr => ∃ (k : Nat) (us' : List Value) (ls' : List (List Fil)), iv = .int .i64 (k : Int) ∧ k ≤ na ∧ Hid (addsLs ls (e.adds.take k) = ls') ∧ Hid (Small ls' (10000 + k)) ∧ Hid (ApCtx w b0 eb rb wb g A D2 E2 e (.slice da nd dc) (.slice aa na ac) us' ls' wr)) (fun iv _ => na - (intOf iv).toNat)
              case atStart => exact ⟨0, us, ls, rfl, by omega, rfl, HSM.out, HC3.out⟩
              case round =>
                obtain ⟨k4, us', ls', rfl, hk4, HAL, HSL, HC4⟩ := hrel
                clear HC3
                by_cases hlt4 : k4 < na
                · have t4 : (k4 : Int) < (na : Int) := by omega
                  have t5 : 0 ≤ (k4 : Int) := by omega
                  have hk1 : k4 < e.adds.length := by rw [HNA.out]; exact hlt4
                  obtain ⟨ba, oa, capa, ea, hba, _, hca⟩ := adds_at HC4.out.eat.adds (by omega)
                  obtain ⟨vl, vm, hil, hvl, hvm, hwf, hc7⟩ := hca k4 hk1
                  injection ea with e1 e2 e3
                  subst e1 e3
                  clear e2 hca
                  have HMR := Lib.hid (addsLs_more (ls := ls) hk1)
                  have hlo := HOK.out k4 hlt4
                  have HKY := Lib.hid (HK.out _ (adat_mem hk1))
                  obtain ⟨a, hd⟩ : ∃ a, adat e.adds k4 = a := ⟨_, rfl⟩
                  rw [hd] at hil hvl hvm hwf hc7 hlo HMR HKY
                  obtain ⟨lev, f⟩ := a
                  obtain ⟨m, rfl⟩ : ∃ m : Nat, lev = (m : Int) := ⟨lev.toNat, by have := hlo.1; simp at this; omega⟩
                  have hm5 : m < 5 := by have := hlo.2; simp at this; omega
                  obtain ⟨la, lc, rfl⟩ := hvl.isSlice
                  obtain ⟨ma, mc, rfl⟩ := hvm.isSlice
                  have HVL := Lib.hid hvl
                  have HVM := Lib.hid hvm
                  have HFW := Lib.hid hwf
                  obtain ⟨c0, c1, c2, c3, c4, c5, c6⟩ := hc7
                  clear hil hvl hvm hwf hd hk1 hba hlo
                  go_upto_region 28 with fail
                  clear c0 c1 c2 c3 c4 c5 c6
                  refine wp_gen fun w5 hw5 => ?_
                  have HB5 : Hid (Below wr.heap.size wr w5) := by rw [hw5]; exact (Below.refl _ _).alloc (Nat.le_refl _) _
                  have HX5 : Hid (Blk w5 wr.heap.size (addCells (m : Int) f (.slice la f.least.length lc) (.slice ma f.most.length mc)).toArray 104) := by rw [hw5]; exact Blk.at_new rfl rfl
                  have HC5 := Lib.hid (HC4.out.below HB5.out)
                  have HVL5 : Hid (Bytes (fun k => E2 k ∧ k < A) w5 (.slice la f.least.length lc) f.least) := (HVL.out.below HB5.out).mono fun k _ hk => ⟨HC5.out.elo k hk, Nat.lt_of_lt_of_le hk HC5.out.alo⟩
                  have HVM5 : Hid (Bytes (fun k => E2 k ∧ k < A) w5 (.slice ma f.most.length mc) f.most) := (HVM.out.below HB5.out).mono fun k _ hk => ⟨HC5.out.elo k hk, Nat.lt_of_lt_of_le hk HC5.out.alo⟩
                  clear hw5 HC4 HB5 HVL HVM
                  generalize wr.heap.size = ab at *
                  obtain ⟨x0, x1, x2, x3, x4, x5, x6⟩ := C7.blk (a := ((m : Int), f)) HX5.out
                  go_wp2_with fail
                  clear x0 x1 x2 x3 x4 x5 x6
                  refine Calls.mono (add_any D2 E2 A wb g us' ls' m f (.slice la f.least.length lc) (.slice ma f.most.length mc) e.next e.seq e.log w5 HC5.out.work hm5 (by have := HSL.out.len m hm5; omega) HVL5.out HVM5.out HFW.out) ?_
                  rintro _ w6 ⟨us6, rfl, hW6, hw6⟩
                  have HC6 := Lib.hid (HC5.out.step hw6 hW6 (Nat.le_trans HC5.out.alo HC5.out.work.le))
                  have HAL6 : Hid (addsLs ls (e.adds.take (k4 + 1)) = addLs ls' m f) := by
                    show _ = _
                    rw [HMR.out, HAL.out]
                    rfl
                  have HSL6 := Lib.hid (HSL.out.add hm5 HKY.out)
                  clear hW6 hw6 HC5 HX5 HVL5 HVM5
                  go_wp2_with fail
                  go_roundw
                  · exact ⟨k4 + 1, us6, _, by go_num, by omega, HAL6.out, HSL6.out, HC6.out⟩
                  · simp only [intOf]; omega
                · have t4 : ¬ (k4 : Int) < (na : Int) := by omega
                  have HNV : Hid ((newV ls e).levels = ls') := by
                    have h1 := HAL.out
                    rw [List.take_of_length_le (by rw [HNA.out]; omega)] at h1
                    exact h1
                  have HSE : Hid (Small ls' 13000) := ⟨HSL.out.five, fun i hi => Nat.le_trans (HSL.out.len i hi) (by omega), HSL.out.key⟩
                  clear hlt4 hk4 HAL HSL
                  have HVC : Hid (∀ W, Below wr.heap.size wr W → Calls Try.prog 68 #[.agg #[.slice (some ⟨g, 0, none⟩) 5 5]] W fun x w' => ∃ g us, x = .returned (.agg #[.slice (some ⟨g, 0, none⟩) 5 5]) ∧ Fl (fun _ => True) W.heap.size w' (.slice (some ⟨g, 0, none⟩) 5 5) us ls' ∧ Below W.heap.size W w') := fun W hb =>
                    vclone_any Any _ ls' W (HC4.out.work.fl.rows.below hb) HSE.out.five (fun i hi => Nat.le_trans (HSE.out.len i (by rw [← HSE.out.five]; exact hi)) (by decide)) (fun i hi => HSE.out.key i (by rw [← HSE.out.five]; exact hi))
                  have HKP : Hid (∀ W, Below wr.heap.size wr W → W.cell? ⟨wb, 0, none⟩ = some (.slice (some ⟨g, 0, none⟩) 5 5) ∧ W.cell? ⟨wb, 1, none⟩ = some (.int .u64 e.next) ∧ W.cell? ⟨wb, 2, none⟩ = some (.int .u64 e.seq) ∧ W.cell? ⟨wb, 3, none⟩ = some (.int .u64 e.log)) := fun W hb =>
                    have h := HC4.out.work.below hb
                    ⟨h.blk.cell rfl, h.blk.cell rfl, h.blk.cell rfl, h.blk.cell rfl⟩
                  have hfld := run_levels0
                  have HDR : Hid (Below wr.heap.size wr wr.drew) := below_drew (Below.refl _ _)
                  have HSZ : Hid (b0 ≤ wr.heap.size) := Nat.le_trans HC4.out.alo HC4.out.work.le
                  go_upto_region 30 with fail
                  go_cut [17] from 110 to 128 (fun x wx => Hid (EndAt w b0 rb ls e x wx))
                  case first =>
                    refine wp_region_held_drew (S := fun w' => w'.cell? ⟨wb, 0, none⟩ = some (.slice (some ⟨g, 0, none⟩) 5 5) ∧ w'.cell? ⟨wb, 1, none⟩ = some (.int .u64 e.next) ∧ w'.cell? ⟨wb, 2, none⟩ = some (.int .u64 e.seq) ∧ w'.cell? ⟨wb, 3, none⟩ = some (.int .u64 e.log)) (by kernel_rfl) (HKP.out _ HDR.out) (fun hHeld => ?_)
                    refine wpAnyH_take (i := 0) (oi := ?oR_14_0) (v := ?vR_14_0) ?eR_14_0 (by kernel_rfl) (by kernel_rfl) (by kernel_rfl) ?qR_14_0 (Or.inl ⟨?wR_14_0, ?yR_14_0⟩) (by assumption) ?rR_14_0
                    case eR_14_0 => simp only [List.getElem?_toArray, List.getElem?_cons_zero]; rfl
                    case wR_14_0 => rfl
                    case qR_14_0 => exact fun _ _ _ h => h
                    case yR_14_0 => (intro w hSw; (try dsimp only at hSw); go_simp; try with_reducible rfl)
                    try simp only [Act.put, List.setIfInBounds_toArray, List.set_cons_zero, List.set_cons_succ]
                    refine wpAnyH_take (i := 1) (oi := ?oR_15_1) (v := ?vR_15_1) ?eR_15_1 (by kernel_rfl) (by kernel_rfl) (by kernel_rfl) ?qR_15_1 (Or.inl ⟨?wR_15_1, ?yR_15_1⟩) (by assumption) ?rR_15_1
                    case eR_15_1 => simp only [List.getElem?_toArray, List.getElem?_cons_succ, List.getElem?_cons_zero]; rfl
                    case wR_15_1 => rfl
                    case qR_15_1 => exact fun _ _ _ h => h
                    case yR_15_1 => (intro w hSw; (try dsimp only at hSw); go_simp; try with_reducible rfl)
                    try simp only [Act.put, List.setIfInBounds_toArray, List.set_cons_zero, List.set_cons_succ]
                    refine wpAnyH_take (i := 2) (oi := ?oR_16_2) (v := ?vR_16_2) ?eR_16_2 (by kernel_rfl) (by kernel_rfl) (by kernel_rfl) ?qR_16_2 (Or.inl ⟨?wR_16_2, ?yR_16_2⟩) (by assumption) ?rR_16_2
                    case eR_16_2 => simp only [List.getElem?_toArray, List.getElem?_cons_succ, List.getElem?_cons_zero]; rfl
                    case wR_16_2 => rfl
                    case qR_16_2 => exact fun _ _ _ h => h
                    case yR_16_2 => (intro w hSw; (try dsimp only at hSw); go_simp; try with_reducible rfl)
                    try simp only [Act.put, List.setIfInBounds_toArray, List.set_cons_zero, List.set_cons_succ]
                    refine wpAnyH_take (i := 3) (oi := ?oR_17_3) (v := ?vR_17_3) ?eR_17_3 (by kernel_rfl) (by kernel_rfl) (by kernel_rfl) ?qR_17_3 (Or.inl ⟨?wR_17_3, ?yR_17_3⟩) (by assumption) ?rR_17_3
                    case eR_17_3 => simp only [List.getElem?_toArray, List.getElem?_cons_succ, List.getElem?_cons_zero]; rfl
                    case wR_17_3 => rfl
                    case qR_17_3 => exact fun _ _ _ h => h
                    case yR_17_3 => (intro w hSw; (try dsimp only at hSw); go_simp; try with_reducible rfl)
                    try simp only [Act.put, List.setIfInBounds_toArray, List.set_cons_zero, List.set_cons_succ]
                    refine wpAnyH_take (i := 6) (oi := ?oR_18_6) (v := ?vR_18_6) ?eR_18_6 (by kernel_rfl) (by kernel_rfl) (by kernel_rfl) ?qR_18_6 (Or.inl ⟨?wR_18_6, ?yR_18_6⟩) (by assumption) ?rR_18_6
                    case eR_18_6 => simp only [List.getElem?_toArray, List.getElem?_cons_succ, List.getElem?_cons_zero]; rfl
                    case wR_18_6 => rfl
                    case qR_18_6 => exact fun _ _ _ h => h
                    case yR_18_6 => (intro w hSw; (try dsimp only at hSw); go_simp; try with_reducible rfl)
                    try simp only [Act.put, List.setIfInBounds_toArray, List.set_cons_zero, List.set_cons_succ]
                    refine wpAnyH_take (i := 7) (oi := ?oR_19_7) (v := ?vR_19_7) ?eR_19_7 (by kernel_rfl) (by kernel_rfl) (by kernel_rfl) ?qR_19_7 (Or.inl ⟨?wR_19_7, ?yR_19_7⟩) (by assumption) ?rR_19_7
                    case eR_19_7 => simp only [List.getElem?_toArray, List.getElem?_cons_succ, List.getElem?_cons_zero]; rfl
                    case wR_19_7 => rfl
                    case qR_19_7 => exact fun _ _ _ h => h
                    case yR_19_7 => (intro w hSw; (try dsimp only at hSw); go_simp; try with_reducible rfl)
                    try simp only [Act.put, List.setIfInBounds_toArray, List.set_cons_zero, List.set_cons_succ]
                    refine wpAnyH_take (i := 8) (oi := ?oR_20_8) (v := ?vR_20_8) ?eR_20_8 (by kernel_rfl) (by kernel_rfl) (by kernel_rfl) ?qR_20_8 (Or.inl ⟨?wR_20_8, ?yR_20_8⟩) (by assumption) ?rR_20_8
                    case eR_20_8 => simp only [List.getElem?_toArray, List.getElem?_cons_succ, List.getElem?_cons_zero]; rfl
                    case wR_20_8 => rfl
                    case qR_20_8 => exact fun _ _ _ h => h
                    case yR_20_8 => (intro w hSw; (try dsimp only at hSw); go_simp; try with_reducible rfl)
                    try simp only [Act.put, List.setIfInBounds_toArray, List.set_cons_zero, List.set_cons_succ]
                    refine wpAnyH_take (i := 9) (oi := ?oR_21_9) (v := ?vR_21_9) ?eR_21_9 (by kernel_rfl) (by kernel_rfl) (by kernel_rfl) ?qR_21_9 (Or.inl ⟨?wR_21_9, ?yR_21_9⟩) (by assumption) ?rR_21_9
                    case eR_21_9 => simp only [List.getElem?_toArray, List.getElem?_cons_succ, List.getElem?_cons_zero]; rfl
                    case wR_21_9 => rfl
                    case qR_21_9 => exact fun _ _ _ h => h
                    case yR_21_9 => (intro w hSw; (try dsimp only at hSw); go_simp; try with_reducible rfl)
                    try simp only [Act.put, List.setIfInBounds_toArray, List.set_cons_zero, List.set_cons_succ]
                    refine wpAnyH_take (i := 10) (oi := ?oR_22_10) (v := ?vR_22_10) ?eR_22_10 (by kernel_rfl) (by kernel_rfl) (by kernel_rfl) ?qR_22_10 (Or.inl ⟨?wR_22_10, ?yR_22_10⟩) (by assumption) ?rR_22_10
                    case eR_22_10 => simp only [List.getElem?_toArray, List.getElem?_cons_succ, List.getElem?_cons_zero]; rfl
                    case wR_22_10 => rfl
                    case qR_22_10 => exact fun _ _ _ h => h
                    case yR_22_10 => (intro w hSw; (try dsimp only at hSw); go_simp; try with_reducible rfl)
                    try simp only [Act.put, List.setIfInBounds_toArray, List.set_cons_zero, List.set_cons_succ]
                    refine wpAnyH_take (i := 11) (oi := ?oR_23_11) (v := ?vR_23_11) ?eR_23_11 (by kernel_rfl) (by kernel_rfl) (by kernel_rfl) ?qR_23_11 (Or.inl ⟨?wR_23_11, ?yR_23_11⟩) (by assumption) ?rR_23_11
                    case eR_23_11 => simp only [List.getElem?_toArray, List.getElem?_cons_succ, List.getElem?_cons_zero]; rfl
                    case wR_23_11 => rfl
                    case qR_23_11 => exact fun _ _ _ h => h
                    case yR_23_11 => (intro w hSw; (try dsimp only at hSw); go_simp; try with_reducible rfl)
                    try simp only [Act.put, List.setIfInBounds_toArray, List.set_cons_zero, List.set_cons_succ]
                    refine wpAnyH_take (i := 12) (oi := ?oR_24_12) (v := ?vR_24_12) ?eR_24_12 (by kernel_rfl) (by kernel_rfl) (by kernel_rfl) ?qR_24_12 (Or.inl ⟨?wR_24_12, ?yR_24_12⟩) (by assumption) ?rR_24_12
                    case eR_24_12 => simp only [List.getElem?_toArray, List.getElem?_cons_succ, List.getElem?_cons_zero]; rfl
                    case wR_24_12 => rfl
                    case qR_24_12 => exact fun _ _ _ h => h
                    case yR_24_12 => (intro w hSw; (try dsimp only at hSw); go_simp; try with_reducible rfl)
                    try simp only [Act.put, List.setIfInBounds_toArray, List.set_cons_zero, List.set_cons_succ]
                    refine wpAnyH_take (i := 13) (oi := ?oR_25_13) (v := ?vR_25_13) ?eR_25_13 (by kernel_rfl) (by kernel_rfl) (by kernel_rfl) ?qR_25_13 (Or.inl ⟨?wR_25_13, ?yR_25_13⟩) (by assumption) ?rR_25_13
                    case eR_25_13 => simp only [List.getElem?_toArray, List.getElem?_cons_succ, List.getElem?_cons_zero]; rfl
                    case wR_25_13 => rfl
                    case qR_25_13 => exact fun _ _ _ h => h
                    case yR_25_13 => (intro w hSw; (try dsimp only at hSw); go_simp; try with_reducible rfl)
                    try simp only [Act.put, List.setIfInBounds_toArray, List.set_cons_zero, List.set_cons_succ]
                    refine wpAnyH_take (i := 14) (oi := ?oR_26_14) (v := ?vR_26_14) ?eR_26_14 (by kernel_rfl) (by kernel_rfl) (by kernel_rfl) ?qR_26_14 (Or.inl ⟨?wR_26_14, ?yR_26_14⟩) (by assumption) ?rR_26_14
                    case eR_26_14 => simp only [List.getElem?_toArray, List.getElem?_cons_succ, List.getElem?_cons_zero]; rfl
                    case wR_26_14 => rfl
                    case qR_26_14 => exact fun _ _ _ h => h
                    case yR_26_14 => (intro w hSw; (try dsimp only at hSw); go_simp; try with_reducible rfl)
                    try simp only [Act.put, List.setIfInBounds_toArray, List.set_cons_zero, List.set_cons_succ]
                    refine wpAnyH_take (i := 15) (oi := ?oR_27_15) (v := ?vR_27_15) ?eR_27_15 (by kernel_rfl) (by kernel_rfl) (by kernel_rfl) ?qR_27_15 (Or.inl ⟨?wR_27_15, ?yR_27_15⟩) (by assumption) ?rR_27_15
                    case eR_27_15 => simp only [List.getElem?_toArray, List.getElem?_cons_succ, List.getElem?_cons_zero]; rfl
                    case wR_27_15 => rfl
                    case qR_27_15 => exact fun _ _ _ h => h
                    case yR_27_15 => (intro w hSw; (try dsimp only at hSw); go_simp; try with_reducible rfl)
                    try simp only [Act.put, List.setIfInBounds_toArray, List.set_cons_zero, List.set_cons_succ]
                    refine wpAnyH_take (i := 16) (oi := ?oR_28_16) (v := ?vR_28_16) ?eR_28_16 (by kernel_rfl) (by kernel_rfl) (by kernel_rfl) ?qR_28_16 (Or.inl ⟨?wR_28_16, ?yR_28_16⟩) (by assumption) ?rR_28_16
                    case eR_28_16 => simp only [List.getElem?_toArray, List.getElem?_cons_succ, List.getElem?_cons_zero]; rfl
                    case wR_28_16 => rfl
                    case qR_28_16 => exact fun _ _ _ h => h
                    case yR_28_16 => (intro w hSw; (try dsimp only at hSw); go_simp; try with_reducible rfl)
                    try simp only [Act.put, List.setIfInBounds_toArray, List.set_cons_zero, List.set_cons_succ]
                    refine wpAnyH_take (i := 17) (oi := ?oR_29_17) (v := ?vR_29_17) ?eR_29_17 (by kernel_rfl) (by kernel_rfl) (by kernel_rfl) ?qR_29_17 (Or.inl ⟨?wR_29_17, ?yR_29_17⟩) (by assumption) ?rR_29_17
                    case eR_29_17 => simp only [List.getElem?_toArray, List.getElem?_cons_succ, List.getElem?_cons_zero]; rfl
                    case wR_29_17 => rfl
                    case qR_29_17 => exact fun _ _ _ h => h
                    case yR_29_17 => (intro w hSw; (try dsimp only at hSw); go_simp; try with_reducible rfl)
                    try simp only [Act.put, List.setIfInBounds_toArray, List.set_cons_zero, List.set_cons_succ]
                    have hOld := hHeld
                    clear hHeld
                    refine wpAnyH_ready (rs := [4, 19]) (by kernel_rfl) (by simp) ?_
                    refine AllReadyH.cons (o := ?oR_30) ?eR_30 (fun K hK => ?_) (AllReadyH.cons (o := ?pR_30) ?fR_30 (fun K hK => ?_) AllReadyH.nil)
                    case eR_30 => simp only [List.getElem?_toArray, List.getElem?_cons_succ, List.getElem?_cons_zero]; rfl
                    case fR_30 => simp only [List.getElem?_toArray, List.getElem?_cons_succ, List.getElem?_cons_zero]; rfl
                    · go_simp
                      (go_at_call 68; refine Calls.mono (HVC.out _ HDR.out) ?_; rintro _ w9 ⟨g9, us9, rfl, hf9, hb9⟩)
                      try go_wp2_with fail
                      refine hK.out _ _ (HKP.out _ (HDR.out.trans hb9)) (fun hHeld => ?_)
                      clear hK hOld
                      try simp only [Act.put, List.setIfInBounds_toArray, List.set_cons_zero, List.set_cons_succ]
                      refine wpAnyH_take (i := 5) (oi := ?oR_31_5) (v := ?vR_31_5) ?eR_31_5 (by kernel_rfl) (by kernel_rfl) (by kernel_rfl) ?qR_31_5 (Or.inl ⟨?wR_31_5, ?yR_31_5⟩) (by assumption) ?rR_31_5
                      case eR_31_5 => simp only [List.getElem?_toArray, List.getElem?_cons_succ, List.getElem?_cons_zero]; rfl
                      case wR_31_5 => rfl
                      case qR_31_5 => exact fun _ _ _ h => h
                      case yR_31_5 => (intro w hSw; (try dsimp only at hSw); go_simp; try with_reducible rfl)
                      try simp only [Act.put, List.setIfInBounds_toArray, List.set_cons_zero, List.set_cons_succ]
                      refine wpAnyH_take (i := 18) (oi := ?oR_32_18) (v := ?vR_32_18) ?eR_32_18 (by kernel_rfl) (by kernel_rfl) (by kernel_rfl) ?qR_32_18 (Or.inl ⟨?wR_32_18, ?yR_32_18⟩) (by assumption) ?rR_32_18
                      case eR_32_18 => simp only [List.getElem?_toArray, List.getElem?_cons_succ, List.getElem?_cons_zero]; rfl
                      case wR_32_18 => rfl
                      case qR_32_18 => exact fun _ _ _ h => h
                      case yR_32_18 => (intro w hSw; (try dsimp only at hSw); go_simp; try with_reducible rfl)
                      try simp only [Act.put, List.setIfInBounds_toArray, List.set_cons_zero, List.set_cons_succ]
                      have hOld := hHeld
                      clear hHeld
                      refine wpAnyH_ready (rs := [19]) (by kernel_rfl) (by simp) ?_
                      refine AllReadyH.cons (o := ?oR_33_19) ?eR_33_19 (fun K hK => ?_) AllReadyH.nil
                      case eR_33_19 => simp only [List.getElem?_toArray, List.getElem?_cons_succ, List.getElem?_cons_zero]; rfl
                      go_simp
                      skip
                      try go_wp2_with fail
                      refine hK.out _ _ (HKP.out _ ((HDR.out.trans hb9).alloc hb9.size _)) (fun hHeld => ?_)
                      clear hK hOld
                      try simp only [Act.put, List.setIfInBounds_toArray, List.set_cons_zero, List.set_cons_succ]
                      have hOld := hHeld
                      clear hHeld
                      refine wpAnyH_ready (rs := [20]) (by kernel_rfl) (by simp) ?_
                      refine AllReadyH.cons (o := ?oR_34_20) ?eR_34_20 (fun K hK => ?_) AllReadyH.nil
                      case eR_34_20 => simp only [List.getElem?_toArray, List.getElem?_cons_succ, List.getElem?_cons_zero]; rfl
                      go_simp
                      skip
                      try go_wp2_with fail
                      refine hK.out _ _ (HKP.out _ ((HDR.out.trans hb9).alloc hb9.size _)) (fun hHeld => ?_)
                      clear hK hOld
                      try simp only [Act.put, List.setIfInBounds_toArray, List.set_cons_zero, List.set_cons_succ]
                      refine wpAnyH_done (by kernel_rfl) ?_ _
                      go_wp2_with fail
                      go_meet
                      exact endAt_1 hf9 HNV.out (HC4.out.out.trans ((HDR.out.trans hb9).mono HSZ.out)) (HC4.out.res.below (HDR.out.trans hb9) HC4.out.res.lt) HC4.out.res.lt HRB.out
                    · go_simp
                      skip
                      try go_wp2_with fail
                      refine hK.out _ _ (HKP.out _ (HDR.out.alloc (Nat.le_refl _) _)) (fun hHeld => ?_)
                      clear hK hOld
                      try simp only [Act.put, List.setIfInBounds_toArray, List.set_cons_zero, List.set_cons_succ]
                      have hOld := hHeld
                      clear hHeld
                      refine wpAnyH_ready (rs := [4]) (by kernel_rfl) (by simp) ?_
                      refine AllReadyH.cons (o := ?oR_35_4) ?eR_35_4 (fun K hK => ?_) AllReadyH.nil
                      case eR_35_4 => simp only [List.getElem?_toArray, List.getElem?_cons_succ, List.getElem?_cons_zero]; rfl
                      go_simp
                      (go_at_call 68; refine Calls.mono (HVC.out _ (HDR.out.alloc (Nat.le_refl _) _)) ?_; rintro _ w9 ⟨g9, us9, rfl, hf9, hb9⟩; have HB9 : Hid (Below wr.heap.size wr w9) := below_ad hb9; have HZ9 : Hid (Blk w9 wr.heap.size zero4 25) := blk_ad hb9; obtain ⟨r0, r1, r2, r3, f0, f1, f2, f3⟩ := zero4_cells HZ9.out)
                      try go_wp2_with fail
                      refine hK.out _ _ (HKP.out _ HB9.out) (fun hHeld => ?_)
                      clear hK hOld
                      try simp only [Act.put, List.setIfInBounds_toArray, List.set_cons_zero, List.set_cons_succ]
                      refine wpAnyH_take (i := 5) (oi := ?oR_36_5) (v := ?vR_36_5) ?eR_36_5 (by kernel_rfl) (by kernel_rfl) (by kernel_rfl) ?qR_36_5 (Or.inl ⟨?wR_36_5, ?yR_36_5⟩) (by assumption) ?rR_36_5
                      case eR_36_5 => simp only [List.getElem?_toArray, List.getElem?_cons_succ, List.getElem?_cons_zero]; rfl
                      case wR_36_5 => rfl
                      case qR_36_5 => exact fun _ _ _ h => h
                      case yR_36_5 => (intro w hSw; (try dsimp only at hSw); go_simp; try with_reducible rfl)
                      try simp only [Act.put, List.setIfInBounds_toArray, List.set_cons_zero, List.set_cons_succ]
                      refine wpAnyH_take (i := 18) (oi := ?oR_37_18) (v := ?vR_37_18) ?eR_37_18 (by kernel_rfl) (by kernel_rfl) (by kernel_rfl) ?qR_37_18 (Or.inl ⟨?wR_37_18, ?yR_37_18⟩) (by assumption) ?rR_37_18
                      case eR_37_18 => simp only [List.getElem?_toArray, List.getElem?_cons_succ, List.getElem?_cons_zero]; rfl
                      case wR_37_18 => rfl
                      case qR_37_18 => exact fun _ _ _ h => h
                      case yR_37_18 => (intro w hSw; (try dsimp only at hSw); go_simp; try with_reducible rfl)
                      try simp only [Act.put, List.setIfInBounds_toArray, List.set_cons_zero, List.set_cons_succ]
                      have hOld := hHeld
                      clear hHeld
                      refine wpAnyH_ready (rs := [20]) (by kernel_rfl) (by simp) ?_
                      refine AllReadyH.cons (o := ?oR_38_20) ?eR_38_20 (fun K hK => ?_) AllReadyH.nil
                      case eR_38_20 => simp only [List.getElem?_toArray, List.getElem?_cons_succ, List.getElem?_cons_zero]; rfl
                      go_simp
                      skip
                      try go_wp2_with fail
                      refine hK.out _ _ (HKP.out _ (below_set4 HB9.out (Nat.le_refl _))) (fun hHeld => ?_)
                      clear hK hOld
                      try simp only [Act.put, List.setIfInBounds_toArray, List.set_cons_zero, List.set_cons_succ]
                      refine wpAnyH_done (by kernel_rfl) ?_ _
                      go_wp2_with fail
                      go_meet
                      exact endAt_2 HZ9.out hf9 HNV.out (HC4.out.out.trans (HB9.out.mono HSZ.out)) (HC4.out.res.below HB9.out HC4.out.res.lt) (by show wr.heap.size < (wr.alloc _).heap.size; simp) HRB.out HC4.out.res.lt
                  case rest =>
                    obtain ⟨ob, g2, rfl, hob, hrw, hbw, hres⟩ := hcut.out
                    have HOB := Lib.hid hob
                    have HRW := Lib.hid hrw
                    have HBW := Lib.hid hbw
                    have HRS := Lib.hid hres
                    have HCN : Hid (cntTo (newV ls e).levels (newV ls e).levels.length ≤ 1000000) := by
                      show _ ≤ _
                      rw [HNV.out]
                      have := HSE.out.cnt
                      omega
                    have HVW : Hid (newV ls e).wf := ⟨HC4.out.eat.next, HC4.out.eat.seq, HC4.out.eat.log⟩
                    have HCK := Lib.hid (check_any _ (newV ls e) (.slice (some ⟨g2, 0, none⟩) 5 5) wc HRW.out HVW.out HCN.out)
                    unfold verCells newV at HCK
                    have x0 : wc.cell? ⟨ob, 0, none⟩ = some (.slice (some ⟨g2, 0, none⟩) 5 5) := HOB.out.cell rfl
                    have x1 : wc.cell? ⟨ob, 1, none⟩ = some (.int .u64 e.next) := HOB.out.cell rfl
                    have x2 : wc.cell? ⟨ob, 2, none⟩ = some (.int .u64 e.seq) := HOB.out.cell rfl
                    have x3 : wc.cell? ⟨ob, 3, none⟩ = some (.int .u64 e.log) := HOB.out.cell rfl
                    clear hob hrw hbw hres hcut HVC HKP hfld
                    go_wp2_with fail
                    clear x0 x1 x2 x3
                    refine Calls.mono HCK.out ?_
                    rintro _ w9 ⟨rfl, hb9⟩
                    have HOB9 := Lib.hid (HOB.out.below hb9 HOB.out.lt)
                    have HRW9 := Lib.hid (HRW.out.below hb9)
                    have HBW9 : Hid (Below b0 w w9) := HBW.out.trans (hb9.mono (Nat.le_trans HRB.out (Nat.le_of_lt HRS.out.lt)))
                    have HRS9 := Lib.hid (HRS.out.below hb9 HRS.out.lt)
                    clear hb9 HOB HRW HBW HRS HCK
                    obtain ⟨c, hc⟩ : ∃ c, chkW (newV ls e) = c := ⟨_, rfl⟩
                    have HKN := Lib.hid hc
                    unfold newV at hc
                    rw [hc]
                    clear hc
                    by_cases hc0 : c = 0
                    case neg =>
                      have g1 : (c != 0) = true := by simpa using hc0
                      have HQ : Hid (applyW v e = (zeroV, c)) := by
                        show _ = _
                        rw [applyW_bad HKK.out HDS.out HCL.out HNL.out (by rw [HKN.out]; exact hc0), HKN.out]
                      clear hc0
                      obtain ⟨r0, r1, r2, r3, f0, f1, f2, f3⟩ := zero4_cells HRS9.out
                      go_wp2_with fail
                      refine bodyPost_ret (results_cell_tmp1 (p := 4) (t := 5) rfl _ _ rb 25 zero4 _ rfl (blk_zero4 HRS9.out) Try.underlying25 rfl (by kernel_rfl)) rfl ?_
                      exact applyPost_zero HQ.out (below_set4 HBW9.out HRB.out)
                    subst hc0
                    have HQ : Hid (applyW v e = (newV ls e, 0)) := applyW_ok HKK.out HDS.out HCL.out HNL.out HKN.out
                    have x0 : w9.cell? ⟨ob, 0, none⟩ = some (.slice (some ⟨g2, 0, none⟩) 5 5) := HOB9.out.cell rfl
                    have x1 : w9.cell? ⟨ob, 1, none⟩ = some (.int .u64 e.next) := HOB9.out.cell rfl
                    have x2 : w9.cell? ⟨ob, 2, none⟩ = some (.int .u64 e.seq) := HOB9.out.cell rfl
                    have x3 : w9.cell? ⟨ob, 3, none⟩ = some (.int .u64 e.log) := HOB9.out.cell rfl
                    obtain ⟨r0, r1, r2, r3, f0, f1, f2, f3⟩ := zero4_cells HRS9.out
                    go_wp2_with fail
                    refine bodyPost_ret (results_cell_tmp1 (p := 4) (t := 5) rfl _ _ rb 25 (verCells (newV ls e) (.slice (some ⟨g2, 0, none⟩) 5 5)).toArray _ rfl ((((HRS9.out.set 0 _).set 1 _).set 2 _).set 3 _) Try.underlying25 rfl (by kernel_rfl)) rfl ?_
                    have hw : Wrote (fun k => k = rb) w9 ((((w9.setCell ⟨rb, 0, none⟩ (.slice (some ⟨g2, 0, none⟩) 5 5)).setCell ⟨rb, 1, none⟩ (.int .u64 e.next)).setCell ⟨rb, 2, none⟩ (.int .u64 e.seq)).setCell ⟨rb, 3, none⟩ (.int .u64 e.log)) :=
                      Wrote.setCell (S := fun k => k = rb) (Wrote.setCell (S := fun k => k = rb) (Wrote.setCell (S := fun k => k = rb) (Wrote.setCell (S := fun k => k = rb) (Wrote.of_below (Below.refl _ _)) _ _ (.inl rfl)) _ _ (.inl rfl)) _ _ (.inl rfl)) _ _ (.inl rfl)
                    refine ⟨.slice (some ⟨g2, 0, none⟩) 5 5, by rw [HQ.out]; rfl, ?_, below_set4 HBW9.out HRB.out⟩
                    rw [HQ.out]
                    exact (HRW9.out.keep fun k hk hF => hw.block k hk hF.2).mono fun k _ hk => hk.1

theorem apply_any (F G : Nat → Prop) (v : Ver) (e : Edi) (lv dv av : Value) (w : World) (h : Rw (rowK filK) F w lv v.levels) (hw : v.wf) (hfew : cntTo v.levels v.levels.length ≤ 1000000) (he : EdiAt G w e dv av) (hd : e.drops.length ≤ 3000) (ha : e.adds.length ≤ 3000) (hk : ∀ a ∈ e.adds, a.2.least.length ≤ 100000000 ∧ a.2.most.length ≤ 100000000) :
    Calls Try.prog 28 #[.agg (verCells v lv).toArray, .agg (ediCells e dv av).toArray] w (ApplyPost (applyW v e) w.heap.size w) :=
  apply_at F G v e lv dv av w _ rfl h hw hfew he hd ha hk
end Go.Proofs.Ytkcohhldmhdcfaa
