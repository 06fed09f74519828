/- Chapter 14: the file of the least number. Chapter 14: slices.Grow of nothing, slices.Concat of two. Chapter 14: the next job. -/
import Derived.Test.YtkcohhldmhdcfaaPkGa
import Derived.Test.YtkcohhldmhdcfaaVeY
namespace Go.Proofs.Ytkcohhldmhdcfaa
open Go.RowKit

set_option maxRecDepth 100000 in
theorem next1_any (f g : Fil) (f1 f2 g1 g2 : Value) (w : World) :
    Calls Try.prog 57 #[.agg (filCells f f1 f2).toArray, .agg (filCells g g1 g2).toArray] w fun e w' => e = .returned (.int .i64 (Ent.sgn f.num g.num)) ∧ Below w.heap.size w w' := by
  unfold filCells
  go_enter Try.func57, Try.ntmps57
  go_upto_region 1 with fail
  refine wp_gen fun w1 hw1 => ?_
  have HF1 : Hid (Blk w1 w.heap.size (filCells f f1 f2).toArray 42) := by rw [hw1]; exact (Blk.at_new rfl rfl).alloc _
  have HG1 : Hid (Blk w1 (w.heap.size + 1) (filCells g g1 g2).toArray 42) := by rw [hw1]; exact blk_two _ _ _ _
  have HW1 : Hid (Below w.heap.size w w1) := by rw [hw1]; exact below_two _ _ _
  clear hw1
  have c0 : w1.cell? ⟨w.heap.size, 0, none⟩ = some (.int .u64 f.num) := HF1.out.cell rfl
  have d0 : w1.cell? ⟨w.heap.size + 1, 0, none⟩ = some (.int .u64 g.num) := HG1.out.cell rfl
  go_wp2_with fail
  refine Calls.mono (cmpU64_any f.num g.num w1) ?_
  rintro _ _ ⟨rfl, rfl⟩
  go_wp2_with fail
  go_ret
  exact ⟨rfl, HW1.out⟩

/-- The file of the least number, of the first k. -/
def minTo (l : List Fil) : Nat → Fil
  | 0 => fil0
  | k + 1 => if k = 0 ∨ (fat l k).num < (minTo l k).num then fat l k else minTo l k
def minF (l : List Fil) : Fil := minTo l l.length
theorem minTo_mem (l : List Fil) : ∀ k, k < l.length → minTo l (k + 1) ∈ l
  | 0, h => by rw [minTo, if_pos (.inl rfl)]; exact fat_mem h
  | k + 1, h => by
    rw [minTo]
    split
    · exact fat_mem h
    · exact minTo_mem l k (by omega)
theorem sgn_neg {a b : Int} : Ent.sgn a b < 0 ↔ a < b := by unfold Ent.sgn; split <;> (try split) <;> omega
structure MinAt (F : Nat → Prop) (mb zb : Nat) (w0 : World) (f : Fil) (w : World) : Prop where
  m : ∃ vl vm, Blk w mb (filCells f vl vm).toArray 42 ∧ Bytes (fun k => F k ∧ k < w0.heap.size) w vl f.least ∧ Bytes (fun k => F k ∧ k < w0.heap.size) w vm f.most ∧ f.wf
  z : Blk w zb zeroFil.cells 42
  b : Below w0.heap.size w0 w

def set6 (w : World) (b : Nat) (f : Fil) (vl vm : Value) : World := (((((w.setCell ⟨b, 0, none⟩ (.int .u64 f.num)).setCell ⟨b, 1, none⟩ (.int .i64 f.size)).setCell ⟨b, 2, none⟩ vl).setCell ⟨b, 3, none⟩ vm).setCell ⟨b, 4, none⟩ (.int .i64 f.ents)).setCell ⟨b, 5, none⟩ (.int .u64 f.mseq)
theorem below_set6 {b0 b : Nat} {w W : World} {f : Fil} {vl vm : Value} (h : Below b0 w W) (hr : b0 ≤ b) : Below b0 w (set6 W b f vl vm) := (((((h.setCell hr _).setCell hr _).setCell hr _).setCell hr _).setCell hr _).setCell hr _
theorem Blk.set6 {b : Nat} {W : World} {f m : Fil} {vl vm ul um : Value} {T : TypeId} (h : Blk W b (filCells m ul um).toArray T) : Blk (set6 W b f vl vm) b (filCells f vl vm).toArray T := (((((h.set 0 _).set 1 _).set 2 _).set 3 _).set 4 _).set 5 _
theorem Blk.set6z {b : Nat} {W : World} {f : Fil} {vl vm : Value} {T : TypeId} (h : Blk W b zeroFil.cells T) : Blk (Go.Proofs.Ytkcohhldmhdcfaa.set6 W b f vl vm) b (filCells f vl vm).toArray T := (((((h.set 0 _).set 1 _).set 2 _).set 3 _).set 4 _).set 5 _
theorem Blk.set6_other {b k : Nat} {W : World} {f : Fil} {vl vm : Value} {T : TypeId} {c : Array Value} (h : Blk W k c T) (hne : b ≠ k) : Blk (Go.Proofs.Ytkcohhldmhdcfaa.set6 W b f vl vm) k c T := (((((h.set_other _ _ hne).set_other _ _ hne).set_other _ _ hne).set_other _ _ hne).set_other _ _ hne).set_other _ _ hne
theorem MinAt.put {F : Nat → Prop} {mb zb : Nat} {w0 w3 : World} {g m : Fil} {vl vm ul um : Value} (h3 : Blk w3 mb (filCells m vl vm).toArray 42) (hz : Blk w3 zb zeroFil.cells 42) (hb : Below w0.heap.size w0 w3) (hzl : zb < mb) (hw : w0.heap.size ≤ mb) (hwf : g.wf) (hl : Bytes (fun k => F k ∧ k < w0.heap.size) w0 ul g.least) (hm : Bytes (fun k => F k ∧ k < w0.heap.size) w0 um g.most) :
    MinAt F mb zb w0 g (Go.Proofs.Ytkcohhldmhdcfaa.set6 w3 mb g ul um) := by
  have hb' := below_set6 (f := g) (vl := ul) (vm := um) hb hw
  exact ⟨⟨_, _, h3.set6, hl.below hb', hm.below hb', hwf⟩, hz.set6_other (by omega), hb'⟩
theorem Bytes.blk6 {F : Nat → Prop} {w : World} {v : Value} {bs : List UInt8} {b : Nat} {f : Fil} {vl vm : Value} (h : Bytes F w v bs) (hF : ∀ k, F k → k ≠ b) : Bytes F (set6 w b f vl vm) v bs := by
  refine h.keep fun k _ hk => ?_
  unfold set6
  rw [heap_setCell_other _ _ _ _ (hF k hk), heap_setCell_other _ _ _ _ (hF k hk), heap_setCell_other _ _ _ _ (hF k hk), heap_setCell_other _ _ _ _ (hF k hk), heap_setCell_other _ _ _ _ (hF k hk), heap_setCell_other _ _ _ _ (hF k hk)]
theorem MinAt.fin {F : Nat → Prop} {zb : Nat} {w0 w3 : World} {m : Fil} {vl vm : Value} (hz : Blk w3 zb zeroFil.cells 42) (hl : Bytes (fun k => F k ∧ k < w0.heap.size) w3 vl m.least) (hm : Bytes (fun k => F k ∧ k < w0.heap.size) w3 vm m.most) (hwf : m.wf) (hb : Below w0.heap.size w0 w3) (hw : w0.heap.size ≤ zb) :
    Blk (Go.Proofs.Ytkcohhldmhdcfaa.set6 w3 zb m vl vm) zb (filCells m vl vm).toArray 42 ∧ Bytes (fun k => F k ∧ k < w0.heap.size) (Go.Proofs.Ytkcohhldmhdcfaa.set6 w3 zb m vl vm) vl m.least ∧ Bytes (fun k => F k ∧ k < w0.heap.size) (Go.Proofs.Ytkcohhldmhdcfaa.set6 w3 zb m vl vm) vm m.most ∧ m.wf ∧ Below w0.heap.size w0 (Go.Proofs.Ytkcohhldmhdcfaa.set6 w3 zb m vl vm) :=
  ⟨hz.set6z, hl.blk6 (fun k hk e => by have := hk.2; omega), hm.blk6 (fun k hk e => by have := hk.2; omega), hwf, below_set6 hb hw⟩
set_option maxRecDepth 100000 in
set_option maxHeartbeats 4000000 in
theorem minfunc_any (F : Nat → Prop) (v : Value) (l : List Fil) (w : World) (h : Rw filK F w v l) (hpos : 0 < l.length) (hfew : l.length ≤ 1000000) :
    Calls Try.prog 56 #[v, .func (.func 57) #[] #[]] w fun e w' => ∃ vl vm, e = .returned (.agg (filCells (minF l) vl vm).toArray) ∧ Bytes (fun k => F k ∧ k < w.heap.size) w' vl (minF l).least ∧ Bytes (fun k => F k ∧ k < w.heap.size) w' vm (minF l).most ∧ (minF l).wf ∧ Below w.heap.size w w' := by
  obtain ⟨xa, ca, rfl⟩ := h.isSlice
  have HA : Hid (Rw filK (fun k => F k ∧ k < w.heap.size) w (.slice xa l.length ca) l) := h.mono fun k hk hF => ⟨hF, hk⟩
  clear h
  obtain ⟨n, hn⟩ : ∃ n, l.length = n := ⟨_, rfl⟩
  have HN := Lib.hid hn
  rw [hn] at HA hpos hfew
  rw [hn]
  clear hn
  obtain ⟨mf, hmf⟩ : ∃ f, minF l = f := ⟨_, rfl⟩
  have HMF : Hid (minTo l n = mf) := by show _ = _; rw [← hmf, minF, HN.out]
  rw [hmf]
  clear hmf
  have t0 : ¬ (n : Int) < 1 := by omega
  have t00 : 0 < (n : Int) := by omega
  obtain ⟨ba, oa, capa, ea, ⟨_, hba⟩, _, hca⟩ := fils_at HA.out (by rw [HN.out]; exact hpos)
  obtain ⟨vl, vm, hvl, hvm, hwf, hc6⟩ := hca 0 (by rw [HN.out]; exact hpos)
  rw [HN.out] at ea
  injection ea with e1 e2 e3
  subst e1 e3
  have HC : Hid (∀ i, i < n → ∃ vl vm, Bytes (fun k => F k ∧ k < w.heap.size) w vl (fat l i).least ∧ Bytes (fun k => F k ∧ k < w.heap.size) w vm (fat l i).most ∧ (fat l i).wf ∧ C6 ba (oa + i * 6) (fat l i) vl vm w) := fun i hi => hca i (by rw [HN.out]; exact hi)
  clear hca e2
  have HM1 : Hid (minTo l 1 = fat l 0) := rfl
  obtain ⟨f, hf⟩ : ∃ f, fat l 0 = f := ⟨_, rfl⟩
  rw [hf] at hvl hvm hwf hc6 HM1
  clear hf
  obtain ⟨fa, fc, rfl⟩ := hvl.isSlice
  obtain ⟨ga, gc, rfl⟩ := hvm.isSlice
  have HVL := Lib.hid hvl
  have HVM := Lib.hid hvm
  have HWF := Lib.hid hwf
  clear hvl hvm hwf
  go_enter Try.func56, Try.ntmps56
  go_upto_region 1 with fail
  refine wp_gen fun w1 hw1 => ?_
  have HZ1 : Hid (Blk w1 w.heap.size zeroFil.cells 42) := by rw [hw1]; exact Blk.at_new rfl rfl
  have HB1 : Hid (Below w.heap.size w w1) := by rw [hw1]; exact (Below.refl _ _).alloc (Nat.le_refl _) _
  clear hw1
  obtain ⟨c0, c1, c2, c3, c4, c5⟩ := hc6.keep HB1.out hba
  have c0 : w1.cell? ⟨ba, oa, none⟩ = some (.int .u64 f.num) := c0
  have c1 : w1.cell? ⟨ba, oa + 1, none⟩ = some (.int .i64 f.size) := c1
  have c2 : w1.cell? ⟨ba, oa + 2, none⟩ = some (.slice fa f.least.length fc) := c2
  have c3 : w1.cell? ⟨ba, oa + 3, none⟩ = some (.slice ga f.most.length gc) := c3
  have c4 : w1.cell? ⟨ba, oa + 4, none⟩ = some (.int .i64 f.ents) := c4
  have c5 : w1.cell? ⟨ba, oa + 5, none⟩ = some (.int .u64 f.mseq) := c5
  go_upto_region 4 with fail
  clear c0 c1 c2 c3 c4 c5 hc6
  refine wp_gen fun w2 hw2 => ?_
  have HMA : Hid (MinAt F w1.heap.size w.heap.size w f w2) := by
    have hb : Below w.heap.size w w2 := by rw [hw2]; exact HB1.out.alloc HB1.out.size _
    exact ⟨⟨_, _, by rw [hw2]; exact Blk.at_new rfl rfl, HVL.out.below hb, HVM.out.below hb, HWF.out⟩, by rw [hw2]; exact HZ1.out.alloc _, hb⟩
  have HZL : Hid (w.heap.size < w1.heap.size) := HZ1.out.lt
  clear hw2 HVL HVM HWF HZ1 HB1
  generalize w1.heap.size = mb at *
  go_wp2_with fail
  go_loopw [6] (fun kv wr => ∃ (k : Nat), kv = .int .i64 (k : Int) ∧ 1 ≤ k ∧ k ≤ n ∧ Hid (MinAt F mb w.heap.size w (minTo l k) wr)) (fun kv _ => n - (intOf kv).toNat)
  case atStart => exact ⟨1, rfl, by omega, by omega, by show MinAt _ _ _ _ _ _; rw [HM1.out]; exact HMA.out⟩
  case round =>
    obtain ⟨k, rfl, hk1, hk, HK⟩ := hrel
    clear HMA
    by_cases hkn : k < n
    · have t6 : (k : Int) < (n : Int) := by omega
      have t7 : 0 ≤ (k : Int) := by omega
      obtain ⟨ul, um, hul, hum, hwf, hc6⟩ := HC.out k hkn
      have HMS : Hid (minTo l (k + 1) = if k = 0 ∨ (fat l k).num < (minTo l k).num then fat l k else minTo l k) := rfl
      obtain ⟨g, hg⟩ : ∃ f, fat l k = f := ⟨_, rfl⟩
      rw [hg] at hul hum hwf hc6 HMS
      obtain ⟨m, hm⟩ : ∃ f, minTo l k = f := ⟨_, rfl⟩
      rw [hm] at HK HMS
      clear hg hm
      obtain ⟨ka, kc, rfl⟩ := hul.isSlice
      obtain ⟨ja, jc, rfl⟩ := hum.isSlice
      obtain ⟨ml, mm, hmb, hml, hmm, hmw⟩ := HK.out.m
      obtain ⟨la, lc, rfl⟩ := hml.isSlice
      obtain ⟨pa, pc, rfl⟩ := hmm.isSlice
      have HMB := Lib.hid hmb
      have HUL := Lib.hid hul
      have HUM := Lib.hid hum
      have HWF := Lib.hid hwf
      have hc6 := hc6.keep HK.out.b hba
      have HC6 := Lib.hid hc6
      have hc6d : C6 ba (oa + k * 6) g (.slice ka g.least.length kc) (.slice ja g.most.length jc) wr.drew := hc6
      obtain ⟨c0, c1, c2, c3, c4, c5⟩ := hc6d
      have hmbd : Blk wr.drew mb (filCells m (.slice la m.least.length lc) (.slice pa m.most.length pc)).toArray 42 := hmb
      obtain ⟨d0, d1, d2, d3, d4, d5⟩ := C6.blk hmbd
      have hbd : ∀ (args : Array Value) (w : World), (callFunc 57 args).run Try.prog w = .ok (.enter 57 args) w := fun _ _ => by kernel_rfl
      clear hul hum hwf hc6 hmb hml hmm hmw hmbd
      go_upto_region 7 with fail
      go_still_tail 6, (by kernel_rfl)
      change wpList _ _ _ _ _ wr.drew
      go_wp2_with fail
      clear hbd c0 c1 c2 c3 c4 c5 d0 d1 d2 d3 d4 d5
      refine Calls.mono (next1_any g m _ _ _ _ wr.drew) ?_
      rintro _ w3 ⟨rfl, hb⟩
      have hb := below_of_drew hb
      have HM3 := Lib.hid (HMB.out.below hb HMB.out.lt)
      have HB3 : Hid (Below w.heap.size w w3) := HK.out.b.trans (hb.mono HK.out.b.size)
      have HZ3 := Lib.hid (HK.out.z.below hb HK.out.z.lt)
      have HML3 : Hid (∃ vl vm, Blk w3 mb (filCells m vl vm).toArray 42 ∧ Bytes (fun k => F k ∧ k < w.heap.size) w3 vl m.least ∧ Bytes (fun k => F k ∧ k < w.heap.size) w3 vm m.most ∧ m.wf) := by
        obtain ⟨y1, y2, g1, g2, g3, g4⟩ := HK.out.m
        exact ⟨y1, y2, g1.below hb g1.lt, g2.below hb, g3.below hb, g4⟩
      have HC7 := Lib.hid (HC6.out.keep hb (Nat.lt_of_lt_of_le hba HK.out.b.size))
      clear hb HMB HK
      by_cases hlt : g.num < m.num
      · have g1 : Ent.sgn g.num m.num < 0 := sgn_neg.2 hlt
        have HR : Hid (minTo l (k + 1) = g) := by show _ = _; rw [HMS.out, if_pos (.inr hlt)]
        obtain ⟨c0, c1, c2, c3, c4, c5⟩ := HC7.out
        obtain ⟨d0, d1, d2, d3, d4, d5⟩ := C6.blk HM3.out
        have e0 := HM3.out.free 0
        have e1 := HM3.out.free 1
        have e2 := HM3.out.free 2
        have e3 := HM3.out.free 3
        have e4 := HM3.out.free 4
        have e5 := HM3.out.free 5
        go_wp2_with fail
        clear c0 c1 c2 c3 c4 c5 d0 d1 d2 d3 d4 d5 e0 e1 e2 e3 e4 e5
        have HP := Lib.hid (MinAt.put HM3.out HZ3.out HB3.out HZL.out (Nat.le_of_lt HZL.out) HWF.out HUL.out HUM.out)
        go_roundw
        · exact ⟨k + 1, by go_num, by omega, by omega, by show MinAt _ _ _ _ _ _; rw [HR.out]; exact HP.out⟩
        · simp only [intOf]; omega
      · have g1 : ¬ Ent.sgn g.num m.num < 0 := fun e => hlt (sgn_neg.1 e)
        have HR : Hid (minTo l (k + 1) = m) := by show _ = _; rw [HMS.out, if_neg fun e => e.elim (fun e => by omega) hlt]
        go_wp2_with fail
        go_roundw
        · exact ⟨k + 1, by go_num, by omega, by omega, by show MinAt _ _ _ _ _ _; rw [HR.out]; exact ⟨HML3.out, HZ3.out, HB3.out⟩⟩
        · simp only [intOf]; omega
    · have t6 : ¬ (k : Int) < (n : Int) := by omega
      have hkn' : k = n := by omega
      subst hkn'
      rw [HMF.out] at HK
      clear HMF
      obtain ⟨ml, mm, hmb, hml, hmm, hmw⟩ := HK.out.m
      obtain ⟨la, lc, rfl⟩ := hml.isSlice
      obtain ⟨pa, pc, rfl⟩ := hmm.isSlice
      have HP := Lib.hid (MinAt.fin HK.out.z hml hmm hmw HK.out.b (Nat.le_refl _))
      obtain ⟨d0, d1, d2, d3, d4, d5⟩ := C6.blk hmb
      have e0 := HK.out.z.free 0
      have e1 := HK.out.z.free 1
      have e2 := HK.out.z.free 2
      have e3 := HK.out.z.free 3
      have e4 := HK.out.z.free 4
      have e5 := HK.out.z.free 5
      have z0 : wr.cell? ⟨w.heap.size, 0, none⟩ = some (.int .u64 0) := HK.out.z.cell rfl
      have z1 : wr.cell? ⟨w.heap.size, 1, none⟩ = some (.int .i64 0) := HK.out.z.cell rfl
      have z2 : wr.cell? ⟨w.heap.size, 2, none⟩ = some (.slice none 0 0) := HK.out.z.cell rfl
      have z3 : wr.cell? ⟨w.heap.size, 3, none⟩ = some (.slice none 0 0) := HK.out.z.cell rfl
      have z4 : wr.cell? ⟨w.heap.size, 4, none⟩ = some (.int .i64 0) := HK.out.z.cell rfl
      have z5 : wr.cell? ⟨w.heap.size, 5, none⟩ = some (.int .u64 0) := HK.out.z.cell rfl
      clear hmb hml hmm hmw HK
      go_wp2_with fail
      clear d0 d1 d2 d3 d4 d5 e0 e1 e2 e3 e4 e5 z0 z1 z2 z3 z4 z5
      refine bodyPost_ret (results_cell1 (p := 4) rfl _ _ w.heap.size 42 (filCells mf (.slice la mf.least.length lc) (.slice pa mf.most.length pc)).toArray _ rfl HP.out.1 Try.underlying42 rfl (by kernel_rfl)) rfl ?_
      exact ⟨_, _, rfl, HP.out.2.1, HP.out.2.2.1, HP.out.2.2.2.1, HP.out.2.2.2.2⟩
end Go.Proofs.Ytkcohhldmhdcfaa

namespace Go.Proofs.Ytkcohhldmhdcfaa
open Go.RowKit

/-- append of zeros to nothing: a new row. -/
theorem wpList_append_zeros0 {P : Program} {ops : Array Oper} {rest : List Oper} {w : World} {o : Oper} {a : Act} {Q : Exit → Act → World → Prop} (hgd : o.guard = none) (s x : Operand) (t tn e : TypeId)
    (ho : o.op = .call { callee := .builtin .append, args := #[s, x], argTypes := #[t, tn] }) (ht : P.underlying t = some (.slice e)) (htn : P.underlying tn = some (.int .i64)) (z : Value) (size bytes : Nat)
    (hinfo : (P.info? e).map (fun i => (i.zero, i.size, i.bytes)) = some (some z, size, bytes)) (hzs : z.cells.size = size) (hsz : 0 < size)
    (hs : a.eval s = .slice none 0 0) (k : Nat) (kz : Int) (hkz : kz = (k : Int)) (hx : a.eval x = .int .i64 kz)
    (hk : 0 < k) (hfew : k ≤ 1000000) (hby : bytes ≤ 100000)
    (h : ∀ w' g' cap' cur', w.heap.size ≤ g' → Blk w' g' cur' e → cur'.size = cap' * size → k ≤ cap' → cap' ≤ maxLen → Below w.heap.size w w' → wpList P ops Q rest (a.put o.dst (.slice (some ⟨g', 0, none⟩) k cap')) w') : wpList P ops Q (o :: rest) a w := by
  subst hkz
  obtain ⟨i0, hi, hz0, hz1, hz2⟩ := info_parts hinfo
  subst hz1 hz2
  have hold := run_firstCells_none (P := P) w.drew i0.size 0 0 0
  have hb1 : k * i0.bytes ≤ 140737488355328 := Nat.le_trans (Nat.mul_le_mul hfew hby) (by decide)
  have hr := Lib.run_append_grow_zeros (P := P) w t tn o.type e i0 z .i64 .i64 ht htn hi hz0 none 0 0 _ hold k hk hsz (by omega) (by omega) (by omega) (growslice_fits (by omega) (by rw [Nat.zero_add]; omega))
  have hge := grownCap_ge w (0 + k) 0 e
  have hcm := grownCap_le_maxLen w (0 + k) 0 e (by simp only [maxLen]; omega)
  rw [Nat.zero_add] at hr hge hcm
  refine wpList_plain hgd fun K hK => ?_
  unfold Oper.wp execOp
  simp only [ho, resolve, invoke, builtin, Sem.run_bind, Sem.run_pure, Result.andThen_ok, List.map_toArray, List.map_cons, List.map_nil, hs, hx, hr]
  refine hK _ _ (h _ _ _ _ (Nat.le_refl _) (heap_alloc_new w.drew _) ?_ hge hcm ((below_of_drew (Below.refl _ _)).alloc (Nat.le_refl _) _))
  simp only [Array.size_append, size_zeroCells, hzs]
  rw [show (#[] : Array Value).size = 0 from rfl, Nat.zero_add, ← Nat.add_mul]
  congr 1
  omega
set_option maxRecDepth 100000 in
set_option maxHeartbeats 2000000 in
theorem grow0_any (F : Nat → Prop) (n : Nat) (w : World) (hn : n ≤ 1000000) :
    Calls Try.prog 104 #[.slice none 0 0, .int .i64 (n : Int)] w fun e w' => ∃ a c, e = .returned (.slice a 0 c) ∧ ROwnF filK F w.heap.size 42 w' (.slice a 0 c) [] ∧ Below w.heap.size w w' := by
  have t0 : ¬ (n : Int) < 0 := by omega
  by_cases h0 : 0 < n
  · have t1 : 0 < (n : Int) := by omega
    go_enter Try.func104, Try.ntmps104
    have hX0 : ∀ w, (Instr.slice 33 (.slice none 0 0) none (some (.int .i64 0)) none).run Try.prog w = .ok (.slice none 0 0) w := fun w => by kernel_rfl
    go_wp2_with (with_reducible refine pause_append ?_)
    refine Pause.go (wpList_append_zeros0 rfl _ _ 33 3 42 rfl under_fils Try.underlying3 zeroFil 6 80 info_filO rfl (by decide) rfl n _ ?_ rfl h0 hn (by decide) ?_)
    · first | rfl | simp
    intro w2 g2 cap2 cur2 hg2 hb2 hs2 hc2 hm2 hbel
    have HB := Lib.hid hbel
    have HO : Hid (ROwnF filK F w.heap.size 42 w2 (.slice (some ⟨g2, 0, none⟩) 0 cap2) []) := ⟨[], ⟨rfl, .inr ⟨g2, cap2, cur2, rfl, hg2, hb2, Nat.zero_le _, hm2, hs2, by simp⟩⟩, rfl⟩
    have hX := fsl_h g2 n cap2 0 (by omega)
    clear hbel hb2 hs2
    go_wp2_with fail
    go_ret
    exact ⟨_, _, rfl, HO.out, HB.out⟩
  · obtain rfl : n = 0 := by omega
    have t1 : ¬ (0 : Int) < 0 := by omega
    go_enter Try.func104, Try.ntmps104
    go_wp2_with fail
    go_ret
    exact ⟨_, _, rfl, ROwnF.nil _ _ _ _ _, Below.refl _ _⟩

set_option maxRecDepth 100000 in
set_option maxHeartbeats 4000000 in
theorem concat_any (F : Nat → Prop) (b : Nat) (v1 v2 : Value) (l1 l2 : List Fil) (w : World) (hb : Blk w b #[v1, v2] 33) (h1 : Rw filK F w v1 l1) (h2 : Rw filK F w v2 l2) (hfew : l1.length + l2.length ≤ 1000000) :
    Calls Try.prog 60 #[.slice (some ⟨b, 0, none⟩) 2 2] w fun e w' => ∃ r, e = .returned r ∧ Rw filK (fun k => w.heap.size ≤ k ∨ F k) w' r (l1 ++ l2) ∧ Below w.heap.size w w' := by
  have H1 : Hid (Rw filK (fun k => F k ∧ k < w.heap.size) w v1 l1) := h1.mono fun k hk hF => ⟨hF, hk⟩
  have H2 : Hid (Rw filK (fun k => F k ∧ k < w.heap.size) w v2 l2) := h2.mono fun k hk hF => ⟨hF, hk⟩
  obtain ⟨a1, c1, rfl⟩ := h1.isSlice
  obtain ⟨a2, c2, rfl⟩ := h2.isSlice
  clear h1 h2
  have HBK := Lib.hid hb
  have x0 : w.cell? ⟨b, 0, none⟩ = some (.slice a1 l1.length c1) := hb.cell rfl
  have x1 : w.cell? ⟨b, 1, none⟩ = some (.slice a2 l2.length c2) := hb.cell rfl
  obtain ⟨n1, hn1⟩ : ∃ n, l1.length = n := ⟨_, rfl⟩
  obtain ⟨n2, hn2⟩ : ∃ n, l2.length = n := ⟨_, rfl⟩
  have HN1 := Lib.hid hn1
  have HN2 := Lib.hid hn2
  rw [hn1] at H1 x0 HBK hfew
  rw [hn2] at H2 x1 HBK hfew
  clear hb hn1 hn2
  have t0 : ¬ (n1 : Int) < 0 := by omega
  have t1 : ¬ (n1 : Int) + (n2 : Int) < 0 := by omega
  go_enter Try.func60, Try.ntmps60
  go_wp2_with fail
  refine wp_loop_rounds 3 ?_
  rw [rounds_succ]
  go_wp2_with fail
  rw [rounds_succ]
  go_wp2_with fail
  rw [rounds_succ]
  go_wp2_with fail
  have hg := grow0_any (fun k => F k ∧ k < w.heap.size) (n1 + n2) w hfew
  rw [Int.natCast_add] at hg
  refine Calls.mono hg ?_
  rintro _ w2 ⟨ga, gc, rfl, hro, hb2⟩
  have HRO := Lib.hid hro
  have HB2 := Lib.hid hb2
  have y0 : w2.cell? ⟨b, 0, none⟩ = some (.slice a1 n1 c1) := (HBK.out.below hb2 HBK.out.lt).cell rfl
  have y1 : w2.cell? ⟨b, 1, none⟩ = some (.slice a2 n2 c2) := (HBK.out.below hb2 HBK.out.lt).cell rfl
  clear hg hro hb2 x0 x1
  go_wp2_with fail
  refine wp_loop_rounds 3 ?_
  rw [rounds_succ]
  go_wp2_with (with_reducible refine pause_append ?_)
  clear y0 y1
  obtain ⟨cs1, hs1, he1⟩ := H1.out.below HB2.out
  refine Pause.go (wpList_append_elsF (K := filK) 33 42 _ 80 Try.underlying33 info_filO rfl (fun k => F k ∧ k < w.heap.size) w.heap.size _ [] _ l1 rfl _ _ rfl rfl rfl HRO.out cs1 (fun k => F k ∧ k < w.heap.size) (by rw [HN1.out]; rw [HN1.out] at hs1; exact hs1) (he1.mono fun j _ hj => ⟨hj, fun e0 => by have := (HRO.out.lt j e0).1; have := hj.2; omega⟩) (by rw [HN1.out]; simp only [List.length_nil]; omega) (by decide) HB2.out.size ?_)
  intro v3 w3 hro hgw
  rw [List.nil_append] at hro
  have HB3 : Hid (Below w.heap.size w w3) := HB2.out.trans (hgw.below HB2.out.size fun j e0 => (HRO.out.lt j e0).1)
  have HRO3 := Lib.hid hro
  have z1 : w3.cell? ⟨b, 1, none⟩ = some (.slice a2 n2 c2) := (HBK.out.below HB3.out HBK.out.lt).cell rfl
  obtain ⟨a3, c3, rfl⟩ := hro.isSlice
  clear hro hgw hs1 he1 HRO HB2
  go_wp2_with fail
  rw [rounds_succ]
  go_wp2_with (with_reducible refine pause_append ?_)
  clear z1
  obtain ⟨cs2, hs2, he2⟩ := H2.out.below HB3.out
  refine Pause.go (wpList_append_elsF (K := filK) 33 42 _ 80 Try.underlying33 info_filO rfl (fun k => F k ∧ k < w.heap.size) w.heap.size _ l1 _ l2 rfl _ _ rfl rfl rfl HRO3.out cs2 (fun k => F k ∧ k < w.heap.size) (by rw [HN2.out]; rw [HN2.out] at hs2; exact hs2) (he2.mono fun j _ hj => ⟨hj, fun e0 => by have := (HRO3.out.lt j e0).1; have := hj.2; omega⟩) (by rw [HN1.out, HN2.out]; omega) (by decide) HB3.out.size ?_)
  intro v4 w4 hro hgw
  have HB4 : Hid (Below w.heap.size w w4) := HB3.out.trans (hgw.below HB3.out.size fun j e0 => (HRO3.out.lt j e0).1)
  have HRO4 : Hid (Rw filK (fun k => w.heap.size ≤ k ∨ F k) w4 v4 (l1 ++ l2)) := hro.rows.mono fun k _ hk => hk.elim (fun e => .inl (hro.lt k e).1) fun e => .inr e.1.1
  obtain ⟨a4, c4, rfl⟩ := hro.isSlice
  obtain ⟨n4, hn4⟩ : ∃ n, (l1 ++ l2).length = n := ⟨_, rfl⟩
  rw [hn4] at HRO4 ⊢
  clear hro hgw hs2 he2 HRO3 HB3
  go_wp2_with fail
  rw [rounds_succ]
  go_wp2_with fail
  go_ret
  exact ⟨_, rfl, HRO4.out, HB4.out⟩
end Go.Proofs.Ytkcohhldmhdcfaa

namespace Go.Proofs.Ytkcohhldmhdcfaa
open Go.RowKit

/-- What pick.Next answers. -/
noncomputable def nextW (v : Ver) (s : Stp) : Int := if mayW v s ≠ 0 then mayW v s else if (worstTo v s 5).2 < 100 then 6 else 0
noncomputable def jLev (v : Ver) (s : Stp) : Nat := (worstTo v s 5).1
def jUp (v : Ver) (i : Nat) : List Fil := if i = 0 then gathL (lat v.levels 0) else [minF (lat v.levels i)]
noncomputable def jLo (v : Ver) (i : Nat) : List Fil := overB v ((i : Int) + 1) (leastOf (jUp v i)) (mostOf (jUp v i))
noncomputable def jAll (v : Ver) (i : Nat) : List Fil := jUp v i ++ jLo v i
noncomputable def jBot (v : Ver) (i : Nat) : Bool := deepB v ((i : Int) + 1) (leastOf (jAll v i)) (mostOf (jAll v i))

theorem worstTo_is (v : Ver) (s : Stp) : ∀ k, ((worstTo v s k).2 = 0) ∨ (scoreW v s (worstTo v s k).1 = (worstTo v s k).2)
  | 0 => .inl rfl
  | k + 1 => by
    rw [worstTo]
    split
    · exact .inr rfl
    · exact worstTo_is v s k
theorem bytesOfLev_nil {v : Ver} {i : Nat} (h : lat v.levels i = []) : bytesOfLev v (i : Int) = 0 := by
  unfold bytesOfLev
  split
  · rw [Int.toNat_natCast, h]; rfl
  · rfl
/-- A level whose score is not 0 has a file, and is not the last. -/
theorem score_some {v : Ver} {s : Stp} {i : Nat} (h : scoreW v s i ≠ 0) : 0 < (lat v.levels i).length ∧ i < 4 := by
  unfold scoreW at h
  split at h
  · exact absurd rfl h
  · rename_i hb
    refine ⟨?_, ?_⟩
    · cases hl : lat v.levels i with
      | cons a l => exact Nat.succ_pos _
      | nil =>
        exfalso
        apply h
        by_cases h0 : i = 0
        · subst h0; rw [if_pos rfl, hl]; simp
        · rw [if_neg h0, bytesOfLev_nil hl]; simp
    · by_cases h4 : i < 4
      · exact h4
      · exfalso
        apply hb
        unfold boundW
        split
        · rfl
        · rw [if_neg (by omega), if_neg (by omega), if_neg (by omega), if_neg (by omega)]
theorem jLev_ok {v : Ver} {s : Stp} (h : nextW v s = 0) : 0 < (lat v.levels (jLev v s)).length ∧ jLev v s < 4 ∧ mayW v s = 0 ∧ 100 ≤ (worstTo v s 5).2 := by
  unfold nextW at h
  split at h
  · rename_i h1; exact absurd h h1
  · rename_i h1
    split at h
    · cases h
    · rename_i h2
      have h3 : 100 ≤ (worstTo v s 5).2 := by omega
      have h4 := score_some (v := v) (s := s) (i := (worstTo v s 5).1) (by rcases worstTo_is v s 5 with e | e <;> omega)
      exact ⟨h4.1, h4.2, by simpa using h1, h3⟩
theorem gath_le (L : List Fil) : ∀ n out, out.length ≤ L.length → (gath L n out).length ≤ L.length
  | 0, _, h => h
  | n + 1, out, h => by
    rw [gath]
    split
    · exact h
    · exact gath_le L n _ (List.length_filter_le _ _)
theorem jUp_le (v : Ver) (i : Nat) : (jUp v i).length ≤ (lat v.levels 0).length + 1 := by
  unfold jUp
  split
  · have := gath_le (lat v.levels 0) (lat v.levels 0).length ((lat v.levels 0).take 1) (by rw [List.length_take]; omega)
    unfold gathL
    omega
  · simp
theorem over_le (v : Ver) (lev : Int) (ls ms : List UInt8) (h : chkW v = 0) : (overB v lev ls ms).length ≤ 10000 := by
  unfold overB
  split
  · rename_i h1
    refine Nat.le_trans (List.length_filter_le _ _) ?_
    exact Nat.le_trans (lev_le_cnt (by omega)) (chkW_good h).2.2
  · exact Nat.zero_le _

theorem gath_mem (L : List Fil) : ∀ n out, (∀ f ∈ out, f ∈ L) → ∀ f ∈ gath L n out, f ∈ L
  | 0, _, h => h
  | n + 1, out, h => by
    rw [gath]
    split
    · exact h
    · exact gath_mem L n _ fun f hf => (List.mem_filter.1 hf).1
theorem jUp_mem {v : Ver} {i : Nat} (hp : 0 < (lat v.levels i).length) : ∀ f ∈ jUp v i, f ∈ lat v.levels i := by
  unfold jUp
  split
  · rename_i h0
    subst h0
    exact gath_mem _ _ _ fun f hf => List.mem_of_mem_take hf
  · intro f hf
    rw [List.mem_singleton.1 hf]
    unfold minF
    obtain ⟨n, hn⟩ : ∃ n, (lat v.levels i).length = n + 1 := ⟨(lat v.levels i).length - 1, by omega⟩
    rw [hn]
    exact minTo_mem _ n (by omega)
theorem over_mem {v : Ver} {lev : Int} {ls ms : List UInt8} : ∀ f ∈ overB v lev ls ms, chkW v = 0 ∧ 0 ≤ lev ∧ lev < v.levels.length ∧ f ∈ lat v.levels lev.toNat := by
  intro f hf
  unfold overB at hf
  split at hf
  · rename_i h; exact ⟨h.1, h.2.1, h.2.2, (List.mem_filter.1 hf).1⟩
  · cases hf
theorem jAll_fine {v : Ver} {i : Nat} (hc : chkW v = 0) (hp : 0 < (lat v.levels i).length) (hi : i < 5) : ∀ f ∈ jAll v i, f.Fine := by
  have h5 := (good_small hc).1
  intro f hf
  rcases List.mem_append.1 hf with h | h
  · exact (chkW_good hc).2.1.fine i (by omega) f (jUp_mem hp f h)
  · obtain ⟨_, h0, h1, hm⟩ := over_mem f h
    exact (chkW_good hc).2.1.fine _ (by omega) f hm
theorem leastTo_in (l : List Fil) : ∀ k, k < l.length → ∃ f ∈ l, leastTo l (k + 1) = f.least
  | 0, h => ⟨_, fat_mem h, by rw [leastTo, if_pos (.inl rfl)]⟩
  | k + 1, h => by
    rw [leastTo]
    split
    · exact ⟨_, fat_mem h, rfl⟩
    · exact leastTo_in l k (by omega)
theorem mostTo_in (l : List Fil) : ∀ k, k < l.length → ∃ f ∈ l, mostTo l (k + 1) = f.most
  | 0, h => ⟨_, fat_mem h, by rw [mostTo, if_pos (.inl rfl)]⟩
  | k + 1, h => by
    rw [mostTo]
    split
    · exact ⟨_, fat_mem h, rfl⟩
    · exact mostTo_in l k (by omega)
theorem leastOf_in {l : List Fil} (h : 0 < l.length) : ∃ f ∈ l, leastOf l = f.least := by
  obtain ⟨n, hn⟩ : ∃ n, l.length = n + 1 := ⟨l.length - 1, by omega⟩
  unfold leastOf
  rw [hn]
  exact leastTo_in l n (by omega)
theorem mostOf_in {l : List Fil} (h : 0 < l.length) : ∃ f ∈ l, mostOf l = f.most := by
  obtain ⟨n, hn⟩ : ∃ n, l.length = n + 1 := ⟨l.length - 1, by omega⟩
  unfold mostOf
  rw [hn]
  exact mostTo_in l n (by omega)
theorem ends_len {l : List Fil} (hf : ∀ f ∈ l, f.Fine) : (leastOf l).length ≤ 4096 ∧ (mostOf l).length ≤ 4096 := by
  by_cases h : 0 < l.length
  · obtain ⟨f, hm, e⟩ := leastOf_in h
    obtain ⟨g, hg, e2⟩ := mostOf_in h
    rw [e, e2]
    exact ⟨(keyOk_len (hf f hm).least).2, (keyOk_len (hf g hg).most).2⟩
  · obtain rfl : l = [] := List.eq_nil_of_length_eq_zero (by omega)
    exact ⟨Nat.zero_le _, Nat.zero_le _⟩
/-- A job's cells. -/
def jobC (lev : Int) (u lo le mo : Value) (b : Bool) : List Value := [.int .i64 lev, u, lo, le, mo, .bool b]
def job0 : List Value := jobC 0 (.slice none 0 0) (.slice none 0 0) (.slice none 0 0) (.slice none 0 0) false
structure JAt (b1 b2 rb jb : Nat) (v : Ver) (lv : Value) (s : Stp) (jc : List Value) (w0 w : World) : Prop where
  bx : Boxed w b1 b2 v lv s
  rz : Blk w rb job0.toArray 36
  j : Blk w jb jc.toArray 36
  bel : Below w0.heap.size w0 w
  ne : jb ≠ b1 ∧ jb ≠ b2 ∧ jb ≠ rb
  le : w0.heap.size ≤ jb ∧ w0.heap.size ≤ rb
theorem JAt.below {b1 b2 rb jb : Nat} {v : Ver} {lv : Value} {s : Stp} {jc : List Value} {w0 w w' : World} (h : JAt b1 b2 rb jb v lv s jc w0 w) (hb : Below w.heap.size w w') : JAt b1 b2 rb jb v lv s jc w0 w' :=
  ⟨h.bx.below hb, h.rz.below hb h.rz.lt, h.j.below hb h.j.lt, h.bel.trans (hb.mono h.bel.size), h.ne, h.le⟩
theorem JAt.set {b1 b2 rb jb : Nat} {v : Ver} {lv : Value} {s : Stp} {jc jc' : List Value} {w0 w : World} (h : JAt b1 b2 rb jb v lv s jc w0 w) (i : Nat) (x : Value) (hj : jc.toArray.setIfInBounds i x = jc'.toArray) : JAt b1 b2 rb jb v lv s jc' w0 (w.setCell ⟨jb, i, none⟩ x) :=
  ⟨⟨h.bx.ver.set_other _ _ h.ne.1, h.bx.stp.set_other _ _ h.ne.2.1⟩, h.rz.set_other _ _ h.ne.2.2, by rw [← hj]; exact h.j.set i x, h.bel.setCell h.le.1 _, h.ne, h.le⟩
theorem Rw.off_set {α : Type} {K : Kind α} {F : Nat → Prop} {w : World} {v : Value} {xs : List α} (h : Rw K F w v xs) (a : Addr) (x : Value) (hF : ∀ k, F k → k ≠ a.block) : Rw K F (w.setCell a x) v xs := h.keep fun k _ hk => heap_setCell_other _ _ _ _ (hF k hk)
theorem Bytes.off_set {F : Nat → Prop} {w : World} {v : Value} {bs : List UInt8} (h : Bytes F w v bs) (a : Addr) (x : Value) (hF : ∀ k, F k → k ≠ a.block) : Bytes F (w.setCell a x) v bs := h.keep fun k _ hk => heap_setCell_other _ _ _ _ (hF k hk)
end Go.Proofs.Ytkcohhldmhdcfaa
