/- Chapter 14: the file of the least number. -/
import Derived.Test.YtkcohhldmhdcfaaPkE
import Derived.Test.YtkcohhldmhdcfaaVeY
namespace Go.Proofs.Ytkcohhldmhdcfaa
open Go.RowKit

set_option maxRecDepth 100000 in
theorem next1_any (f g : Fil) (f1 f2 g1 g2 : Value) (w : World) :
    Calls Try.prog 57 #[.agg (filCells f f1 f2).toArray, .agg (filCells g g1 g2).toArray] w fun e w' => e = .returned (.int .i64 (Ent.sgn f.num g.num)) ∧ Below w.heap.size w w' := by
  unfold filCells
  go_enter Try.func57, Try.ntmps57
  go_upto_region 1 with fail
  refine wp_gen fun w1 hw1 => ?_
  have HF1 : Hid (Blk w1 w.heap.size (filCells f f1 f2).toArray 42) := by rw [hw1]; exact (Blk.at_new rfl rfl).alloc _
  have HG1 : Hid (Blk w1 (w.heap.size + 1) (filCells g g1 g2).toArray 42) := by rw [hw1]; exact blk_two _ _ _ _
  have HW1 : Hid (Below w.heap.size w w1) := by rw [hw1]; exact below_two _ _ _
  clear hw1
  have c0 : w1.cell? ⟨w.heap.size, 0, none⟩ = some (.int .u64 f.num) := HF1.out.cell rfl
  have d0 : w1.cell? ⟨w.heap.size + 1, 0, none⟩ = some (.int .u64 g.num) := HG1.out.cell rfl
  go_wp2_with fail
  refine Calls.mono (cmpU64_any f.num g.num w1) ?_
  rintro _ _ ⟨rfl, rfl⟩
  go_wp2_with fail
  go_ret
  exact ⟨rfl, HW1.out⟩

/-- The file of the least number, of the first k. -/
def minTo (l : List Fil) : Nat → Fil
  | 0 => fil0
  | k + 1 => if k = 0 ∨ (fat l k).num < (minTo l k).num then fat l k else minTo l k
def minF (l : List Fil) : Fil := minTo l l.length
theorem minTo_mem (l : List Fil) : ∀ k, k < l.length → minTo l (k + 1) ∈ l
  | 0, h => by rw [minTo, if_pos (.inl rfl)]; exact fat_mem h
  | k + 1, h => by
    rw [minTo]
    split
    · exact fat_mem h
    · exact minTo_mem l k (by omega)
theorem sgn_neg {a b : Int} : Ent.sgn a b < 0 ↔ a < b := by unfold Ent.sgn; split <;> (try split) <;> omega
structure MinAt (F : Nat → Prop) (mb zb : Nat) (w0 : World) (f : Fil) (w : World) : Prop where
  m : ∃ vl vm, Blk w mb (filCells f vl vm).toArray 42 ∧ Bytes (fun k => F k ∧ k < w0.heap.size) w vl f.least ∧ Bytes (fun k => F k ∧ k < w0.heap.size) w vm f.most ∧ f.wf
  z : Blk w zb zeroFil.cells 42
  b : Below w0.heap.size w0 w

def set6 (w : World) (b : Nat) (f : Fil) (vl vm : Value) : World := (((((w.setCell ⟨b, 0, none⟩ (.int .u64 f.num)).setCell ⟨b, 1, none⟩ (.int .i64 f.size)).setCell ⟨b, 2, none⟩ vl).setCell ⟨b, 3, none⟩ vm).setCell ⟨b, 4, none⟩ (.int .i64 f.ents)).setCell ⟨b, 5, none⟩ (.int .u64 f.mseq)
theorem below_set6 {b0 b : Nat} {w W : World} {f : Fil} {vl vm : Value} (h : Below b0 w W) (hr : b0 ≤ b) : Below b0 w (set6 W b f vl vm) := (((((h.setCell hr _).setCell hr _).setCell hr _).setCell hr _).setCell hr _).setCell hr _
theorem Blk.set6 {b : Nat} {W : World} {f m : Fil} {vl vm ul um : Value} {T : TypeId} (h : Blk W b (filCells m ul um).toArray T) : Blk (set6 W b f vl vm) b (filCells f vl vm).toArray T := (((((h.set 0 _).set 1 _).set 2 _).set 3 _).set 4 _).set 5 _
theorem Blk.set6z {b : Nat} {W : World} {f : Fil} {vl vm : Value} {T : TypeId} (h : Blk W b zeroFil.cells T) : Blk (Go.Proofs.Ytkcohhldmhdcfaa.set6 W b f vl vm) b (filCells f vl vm).toArray T := (((((h.set 0 _).set 1 _).set 2 _).set 3 _).set 4 _).set 5 _
theorem Blk.set6_other {b k : Nat} {W : World} {f : Fil} {vl vm : Value} {T : TypeId} {c : Array Value} (h : Blk W k c T) (hne : b ≠ k) : Blk (Go.Proofs.Ytkcohhldmhdcfaa.set6 W b f vl vm) k c T := (((((h.set_other _ _ hne).set_other _ _ hne).set_other _ _ hne).set_other _ _ hne).set_other _ _ hne).set_other _ _ hne
theorem MinAt.put {F : Nat → Prop} {mb zb : Nat} {w0 w3 : World} {g m : Fil} {vl vm ul um : Value} (h3 : Blk w3 mb (filCells m vl vm).toArray 42) (hz : Blk w3 zb zeroFil.cells 42) (hb : Below w0.heap.size w0 w3) (hzl : zb < mb) (hw : w0.heap.size ≤ mb) (hwf : g.wf) (hl : Bytes (fun k => F k ∧ k < w0.heap.size) w0 ul g.least) (hm : Bytes (fun k => F k ∧ k < w0.heap.size) w0 um g.most) :
    MinAt F mb zb w0 g (Go.Proofs.Ytkcohhldmhdcfaa.set6 w3 mb g ul um) := by
  have hb' := below_set6 (f := g) (vl := ul) (vm := um) hb hw
  exact ⟨⟨_, _, h3.set6, hl.below hb', hm.below hb', hwf⟩, hz.set6_other (by omega), hb'⟩
theorem Bytes.blk6 {F : Nat → Prop} {w : World} {v : Value} {bs : List UInt8} {b : Nat} {f : Fil} {vl vm : Value} (h : Bytes F w v bs) (hF : ∀ k, F k → k ≠ b) : Bytes F (set6 w b f vl vm) v bs := by
  refine h.keep fun k _ hk => ?_
  unfold set6
  rw [heap_setCell_other _ _ _ _ (hF k hk), heap_setCell_other _ _ _ _ (hF k hk), heap_setCell_other _ _ _ _ (hF k hk), heap_setCell_other _ _ _ _ (hF k hk), heap_setCell_other _ _ _ _ (hF k hk), heap_setCell_other _ _ _ _ (hF k hk)]
theorem MinAt.fin {F : Nat → Prop} {zb : Nat} {w0 w3 : World} {m : Fil} {vl vm : Value} (hz : Blk w3 zb zeroFil.cells 42) (hl : Bytes (fun k => F k ∧ k < w0.heap.size) w3 vl m.least) (hm : Bytes (fun k => F k ∧ k < w0.heap.size) w3 vm m.most) (hwf : m.wf) (hb : Below w0.heap.size w0 w3) (hw : w0.heap.size ≤ zb) :
    Blk (Go.Proofs.Ytkcohhldmhdcfaa.set6 w3 zb m vl vm) zb (filCells m vl vm).toArray 42 ∧ Bytes (fun k => F k ∧ k < w0.heap.size) (Go.Proofs.Ytkcohhldmhdcfaa.set6 w3 zb m vl vm) vl m.least ∧ Bytes (fun k => F k ∧ k < w0.heap.size) (Go.Proofs.Ytkcohhldmhdcfaa.set6 w3 zb m vl vm) vm m.most ∧ m.wf ∧ Below w0.heap.size w0 (Go.Proofs.Ytkcohhldmhdcfaa.set6 w3 zb m vl vm) :=
  ⟨hz.set6z, hl.blk6 (fun k hk e => by have := hk.2; omega), hm.blk6 (fun k hk e => by have := hk.2; omega), hwf, below_set6 hb hw⟩
set_option maxRecDepth 100000 in
set_option maxHeartbeats 4000000 in
theorem minfunc_any (F : Nat → Prop) (v : Value) (l : List Fil) (w : World) (h : Rw filK F w v l) (hpos : 0 < l.length) (hfew : l.length ≤ 1000000) :
    Calls Try.prog 56 #[v, .func (.func 57) #[] #[]] w fun e w' => ∃ vl vm, e = .returned (.agg (filCells (minF l) vl vm).toArray) ∧ Bytes (fun k => F k ∧ k < w.heap.size) w' vl (minF l).least ∧ Bytes (fun k => F k ∧ k < w.heap.size) w' vm (minF l).most ∧ (minF l).wf ∧ Below w.heap.size w w' := by
  obtain ⟨xa, ca, rfl⟩ := h.isSlice
  have HA : Hid (Rw filK (fun k => F k ∧ k < w.heap.size) w (.slice xa l.length ca) l) := h.mono fun k hk hF => ⟨hF, hk⟩
  clear h
  obtain ⟨n, hn⟩ : ∃ n, l.length = n := ⟨_, rfl⟩
  have HN := Lib.hid hn
  rw [hn] at HA hpos hfew
  rw [hn]
  clear hn
  obtain ⟨mf, hmf⟩ : ∃ f, minF l = f := ⟨_, rfl⟩
  have HMF : Hid (minTo l n = mf) := by show _ = _; rw [← hmf, minF, HN.out]
  rw [hmf]
  clear hmf
  have t0 : ¬ (n : Int) < 1 := by omega
  have t00 : 0 < (n : Int) := by omega
  obtain ⟨ba, oa, capa, ea, ⟨_, hba⟩, _, hca⟩ := fils_at HA.out (by rw [HN.out]; exact hpos)
  obtain ⟨vl, vm, hvl, hvm, hwf, hc6⟩ := hca 0 (by rw [HN.out]; exact hpos)
  rw [HN.out] at ea
  injection ea with e1 e2 e3
  subst e1 e3
  have HC : Hid (∀ i, i < n → ∃ vl vm, Bytes (fun k => F k ∧ k < w.heap.size) w vl (fat l i).least ∧ Bytes (fun k => F k ∧ k < w.heap.size) w vm (fat l i).most ∧ (fat l i).wf ∧ C6 ba (oa + i * 6) (fat l i) vl vm w) := fun i hi => hca i (by rw [HN.out]; exact hi)
  clear hca e2
  have HM1 : Hid (minTo l 1 = fat l 0) := rfl
  obtain ⟨f, hf⟩ : ∃ f, fat l 0 = f := ⟨_, rfl⟩
  rw [hf] at hvl hvm hwf hc6 HM1
  clear hf
  obtain ⟨fa, fc, rfl⟩ := hvl.isSlice
  obtain ⟨ga, gc, rfl⟩ := hvm.isSlice
  have HVL := Lib.hid hvl
  have HVM := Lib.hid hvm
  have HWF := Lib.hid hwf
  clear hvl hvm hwf
  go_enter Try.func56, Try.ntmps56
  go_upto_region 1 with fail
  refine wp_gen fun w1 hw1 => ?_
  have HZ1 : Hid (Blk w1 w.heap.size zeroFil.cells 42) := by rw [hw1]; exact Blk.at_new rfl rfl
  have HB1 : Hid (Below w.heap.size w w1) := by rw [hw1]; exact (Below.refl _ _).alloc (Nat.le_refl _) _
  clear hw1
  obtain ⟨c0, c1, c2, c3, c4, c5⟩ := hc6.keep HB1.out hba
  have c0 : w1.cell? ⟨ba, oa, none⟩ = some (.int .u64 f.num) := c0
  have c1 : w1.cell? ⟨ba, oa + 1, none⟩ = some (.int .i64 f.size) := c1
  have c2 : w1.cell? ⟨ba, oa + 2, none⟩ = some (.slice fa f.least.length fc) := c2
  have c3 : w1.cell? ⟨ba, oa + 3, none⟩ = some (.slice ga f.most.length gc) := c3
  have c4 : w1.cell? ⟨ba, oa + 4, none⟩ = some (.int .i64 f.ents) := c4
  have c5 : w1.cell? ⟨ba, oa + 5, none⟩ = some (.int .u64 f.mseq) := c5
  go_upto_region 4 with fail
  clear c0 c1 c2 c3 c4 c5 hc6
  refine wp_gen fun w2 hw2 => ?_
  have HMA : Hid (MinAt F w1.heap.size w.heap.size w f w2) := by
    have hb : Below w.heap.size w w2 := by rw [hw2]; exact HB1.out.alloc HB1.out.size _
    exact ⟨⟨_, _, by rw [hw2]; exact Blk.at_new rfl rfl, HVL.out.below hb, HVM.out.below hb, HWF.out⟩, by rw [hw2]; exact HZ1.out.alloc _, hb⟩
  have HZL : Hid (w.heap.size < w1.heap.size) := HZ1.out.lt
  clear hw2 HVL HVM HWF HZ1 HB1
  generalize w1.heap.size = mb at *
  go_wp2_with fail
  go_loopw [6] (fun kv wr => ∃ (k : Nat), kv = .int .i64 (k : Int) ∧ 1 ≤ k ∧ k ≤ n ∧ Hid (MinAt F mb w.heap.size w (minTo l k) wr)) (fun kv _ => n - (intOf kv).toNat)
  case atStart => exact ⟨1, rfl, by omega, by omega, by show MinAt _ _ _ _ _ _; rw [HM1.out]; exact HMA.out⟩
  case round =>
    obtain ⟨k, rfl, hk1, hk, HK⟩ := hrel
    clear HMA
    by_cases hkn : k < n
    · have t6 : (k : Int) < (n : Int) := by omega
      have t7 : 0 ≤ (k : Int) := by omega
      obtain ⟨ul, um, hul, hum, hwf, hc6⟩ := HC.out k hkn
      have HMS : Hid (minTo l (k + 1) = if k = 0 ∨ (fat l k).num < (minTo l k).num then fat l k else minTo l k) := rfl
      obtain ⟨g, hg⟩ : ∃ f, fat l k = f := ⟨_, rfl⟩
      rw [hg] at hul hum hwf hc6 HMS
      obtain ⟨m, hm⟩ : ∃ f, minTo l k = f := ⟨_, rfl⟩
      rw [hm] at HK HMS
      clear hg hm
      obtain ⟨ka, kc, rfl⟩ := hul.isSlice
      obtain ⟨ja, jc, rfl⟩ := hum.isSlice
      obtain ⟨ml, mm, hmb, hml, hmm, hmw⟩ := HK.out.m
      obtain ⟨la, lc, rfl⟩ := hml.isSlice
      obtain ⟨pa, pc, rfl⟩ := hmm.isSlice
      have HMB := Lib.hid hmb
      have HUL := Lib.hid hul
      have HUM := Lib.hid hum
      have HWF := Lib.hid hwf
      have hc6 := hc6.keep HK.out.b hba
      have HC6 := Lib.hid hc6
      have hc6d : C6 ba (oa + k * 6) g (.slice ka g.least.length kc) (.slice ja g.most.length jc) wr.drew := hc6
      obtain ⟨c0, c1, c2, c3, c4, c5⟩ := hc6d
      have hmbd : Blk wr.drew mb (filCells m (.slice la m.least.length lc) (.slice pa m.most.length pc)).toArray 42 := hmb
      obtain ⟨d0, d1, d2, d3, d4, d5⟩ := C6.blk hmbd
      have hbd : ∀ (args : Array Value) (w : World), (callFunc 57 args).run Try.prog w = .ok (.enter 57 args) w := fun _ _ => by kernel_rfl
      clear hul hum hwf hc6 hmb hml hmm hmw hmbd
      go_upto_region 7 with fail
      go_still_tail 6, (by kernel_rfl)
      change wpList _ _ _ _ _ wr.drew
      go_wp2_with fail
      clear hbd c0 c1 c2 c3 c4 c5 d0 d1 d2 d3 d4 d5
      refine Calls.mono (next1_any g m _ _ _ _ wr.drew) ?_
      rintro _ w3 ⟨rfl, hb⟩
      have hb := below_of_drew hb
      have HM3 := Lib.hid (HMB.out.below hb HMB.out.lt)
      have HB3 : Hid (Below w.heap.size w w3) := HK.out.b.trans (hb.mono HK.out.b.size)
      have HZ3 := Lib.hid (HK.out.z.below hb HK.out.z.lt)
      have HML3 : Hid (∃ vl vm, Blk w3 mb (filCells m vl vm).toArray 42 ∧ Bytes (fun k => F k ∧ k < w.heap.size) w3 vl m.least ∧ Bytes (fun k => F k ∧ k < w.heap.size) w3 vm m.most ∧ m.wf) := by
        obtain ⟨y1, y2, g1, g2, g3, g4⟩ := HK.out.m
        exact ⟨y1, y2, g1.below hb g1.lt, g2.below hb, g3.below hb, g4⟩
      have HC7 := Lib.hid (HC6.out.keep hb (Nat.lt_of_lt_of_le hba HK.out.b.size))
      clear hb HMB HK
      by_cases hlt : g.num < m.num
      · have g1 : Ent.sgn g.num m.num < 0 := sgn_neg.2 hlt
        have HR : Hid (minTo l (k + 1) = g) := by show _ = _; rw [HMS.out, if_pos (.inr hlt)]
        obtain ⟨c0, c1, c2, c3, c4, c5⟩ := HC7.out
        obtain ⟨d0, d1, d2, d3, d4, d5⟩ := C6.blk HM3.out
        have e0 := HM3.out.free 0
        have e1 := HM3.out.free 1
        have e2 := HM3.out.free 2
        have e3 := HM3.out.free 3
        have e4 := HM3.out.free 4
        have e5 := HM3.out.free 5
        go_wp2_with fail
        clear c0 c1 c2 c3 c4 c5 d0 d1 d2 d3 d4 d5 e0 e1 e2 e3 e4 e5
        have HP := Lib.hid (MinAt.put HM3.out HZ3.out HB3.out HZL.out (Nat.le_of_lt HZL.out) HWF.out HUL.out HUM.out)
        go_roundw
        · exact ⟨k + 1, by go_num, by omega, by omega, by show MinAt _ _ _ _ _ _; rw [HR.out]; exact HP.out⟩
        · simp only [intOf]; omega
      · have g1 : ¬ Ent.sgn g.num m.num < 0 := fun e => hlt (sgn_neg.1 e)
        have HR : Hid (minTo l (k + 1) = m) := by show _ = _; rw [HMS.out, if_neg fun e => e.elim (fun e => by omega) hlt]
        go_wp2_with fail
        go_roundw
        · exact ⟨k + 1, by go_num, by omega, by omega, by show MinAt _ _ _ _ _ _; rw [HR.out]; exact ⟨HML3.out, HZ3.out, HB3.out⟩⟩
        · simp only [intOf]; omega
    · have t6 : ¬ (k : Int) < (n : Int) := by omega
      have hkn' : k = n := by omega
      subst hkn'
      rw [HMF.out] at HK
      clear HMF
      obtain ⟨ml, mm, hmb, hml, hmm, hmw⟩ := HK.out.m
      obtain ⟨la, lc, rfl⟩ := hml.isSlice
      obtain ⟨pa, pc, rfl⟩ := hmm.isSlice
      have HP := Lib.hid (MinAt.fin HK.out.z hml hmm hmw HK.out.b (Nat.le_refl _))
      obtain ⟨d0, d1, d2, d3, d4, d5⟩ := C6.blk hmb
      have e0 := HK.out.z.free 0
      have e1 := HK.out.z.free 1
      have e2 := HK.out.z.free 2
      have e3 := HK.out.z.free 3
      have e4 := HK.out.z.free 4
      have e5 := HK.out.z.free 5
      have z0 : wr.cell? ⟨w.heap.size, 0, none⟩ = some (.int .u64 0) := HK.out.z.cell rfl
      have z1 : wr.cell? ⟨w.heap.size, 1, none⟩ = some (.int .i64 0) := HK.out.z.cell rfl
      have z2 : wr.cell? ⟨w.heap.size, 2, none⟩ = some (.slice none 0 0) := HK.out.z.cell rfl
      have z3 : wr.cell? ⟨w.heap.size, 3, none⟩ = some (.slice none 0 0) := HK.out.z.cell rfl
      have z4 : wr.cell? ⟨w.heap.size, 4, none⟩ = some (.int .i64 0) := HK.out.z.cell rfl
      have z5 : wr.cell? ⟨w.heap.size, 5, none⟩ = some (.int .u64 0) := HK.out.z.cell rfl
      clear hmb hml hmm hmw HK
      go_wp2_with fail
      clear d0 d1 d2 d3 d4 d5 e0 e1 e2 e3 e4 e5 z0 z1 z2 z3 z4 z5
      refine bodyPost_ret (results_cell1 (p := 4) rfl _ _ w.heap.size 42 (filCells mf (.slice la mf.least.length lc) (.slice pa mf.most.length pc)).toArray _ rfl HP.out.1 Try.underlying42 rfl (by kernel_rfl)) rfl ?_
      exact ⟨_, _, rfl, HP.out.2.1, HP.out.2.2.1, HP.out.2.2.2.1, HP.out.2.2.2.2⟩
end Go.Proofs.Ytkcohhldmhdcfaa
