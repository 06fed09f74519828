/- Chapter 17's document: Order tells the spans in order. -/
import Derived.Test.YtiofhmlmimbngaaCmpC
import Derived.Deep.CutBlock
import Derived.Test.YtiofhmlmimbngaaElsF
import Derived.Test.YtiofhmlmimbngaaIntakeF
namespace Go.Proofs.Ytiofhmlmimbngaa
open Go.RowKit

/-- The cells of a span, from place o of block b on. -/
def CA (b o : Nat) (s : Sp.T) (v : Value) (w' : World) : Prop :=
  w'.cell? ⟨b, o, none⟩ = some (.int .u64 s.hi) ∧ w'.cell? ⟨b, o + 1, none⟩ = some (.int .u64 s.lo) ∧ w'.cell? ⟨b, o + 2, none⟩ = some (.int .u64 s.id) ∧ w'.cell? ⟨b, o + 3, none⟩ = some (.int .u64 s.parent) ∧ w'.cell? ⟨b, o + 4, none⟩ = some (.string s.service) ∧ w'.cell? ⟨b, o + 5, none⟩ = some (.string s.name) ∧ w'.cell? ⟨b, o + 6, none⟩ = some (.int .i64 s.kind) ∧ w'.cell? ⟨b, o + 7, none⟩ = some (.int .i64 s.start) ∧ w'.cell? ⟨b, o + 8, none⟩ = some (.int .i64 s.length) ∧ w'.cell? ⟨b, o + 9, none⟩ = some (.bool s.fails) ∧ w'.cell? ⟨b, o + 10, none⟩ = some (v)
theorem CA.of {b o : Nat} {s : Sp.T} {v : Value} {w : World} (h : ∀ j u, (spanCells s v)[j]? = some u → w.cell? ⟨b, o + j, none⟩ = some u) : CA b o s v w :=
  ⟨h 0 _ rfl, h 1 _ rfl, h 2 _ rfl, h 3 _ rfl, h 4 _ rfl, h 5 _ rfl, h 6 _ rfl, h 7 _ rfl, h 8 _ rfl, h 9 _ rfl, h 10 _ rfl⟩
theorem CA.keep {B b o : Nat} {s : Sp.T} {v : Value} {w w' : World} (h : CA b o s v w) (hb : Below B w w') (hB : b < B) : CA b o s v w' := by
  have e : ∀ i, w'.cell? ⟨b, i, none⟩ = w.cell? ⟨b, i, none⟩ := fun i => World.cell?_of_block (hb.block b hB)
  unfold CA at *
  simp only [e]
  exact h

/-- The rest's copy stands while the row is written. -/
theorem rest_keep {B H : Nat} {w4 w5 w7 : World} {ov ov' v7 rest : Value} {md : List Sp.T} (hR : ROwnF spanK (fun k => B ≤ k ∧ ov.ownBlock ≠ some k ∧ k < H) H 35 w4 rest md)
    (hov : ∀ k, ov.ownBlock = some k → k < H) (h5 : Below w4.heap.size w4 w5) (hg : Grew w5 w7 ov' v7) (hoe : ov'.ownBlock = ov.ownBlock) (hH : H ≤ w4.heap.size) :
    ∃ cs2, Sl (fun _ => True) w7 spanK.sz rest md.length cs2 ∧ Els spanK (fun k => B ≤ k ∧ v7.ownBlock ≠ some k) w7 cs2 md := by
  have hlt := hR.lt
  obtain ⟨cs, h1, h2⟩ := hR
  have hk : ∀ k, k < w4.heap.size → ov.ownBlock ≠ some k → w7.heap[k]? = w4.heap[k]? := fun k hk hn =>
    (hg.grown.block k (Nat.lt_of_lt_of_le hk h5.size) (fun e => hn (by rw [← hoe]; exact e.symm))).trans (h5.block k hk)
  refine ⟨cs, ((Sl.of_owns h1).keep fun k hk' e => hk k hk' fun e2 => ?_).mono fun _ _ _ => trivial, (h2.keep fun k hk' hF => hk k hk' hF.1.2.1).mono fun k _ hF => ⟨hF.1.1, fun e => ?_⟩⟩
  · have := (hlt k e).1
    have := hov k e2
    omega
  · rcases hg.own k e with e2 | e2
    · exact hF.1.2.1 (by rw [← hoe]; exact e2)
    · have := hF.1.2.2
      have := h5.size
      omega

def OrderPost (l : List Sp.T) (w : World) (e : Ending) (w' : World) : Prop :=
  ∃ v' m, e = .returned v' ∧ Rw spanK (fun k => w.heap.size ≤ k) w' v' m ∧ m.Perm l ∧ Sorted m ∧ Below w.heap.size w w'

set_option maxRecDepth 100000 in
set_option maxHeartbeats 4000000 in
theorem order_any (F : Nat → Prop) (v : Value) (l : List Sp.T) (w : World) (hv : Rw spanK F w v l) (hl : l.length ≤ 10000) (htg : ∀ s ∈ l, s.tags.length ≤ 1000000) :
    Calls Try.prog 20 #[v] w (OrderPost l w) := by
  obtain ⟨a, c, rfl⟩ := hv.isSlice
  have HV := Lib.hid hv
  have HTG := Lib.hid htg
  clear hv htg
  go_enter Try.func20, Try.ntmps20
  go_wp2_with fail
  go_loopw [3, 4] (fun o i wr => ∃ (j : Nat) (m : List Sp.T), i = .int .i64 (j : Int) ∧ j ≤ l.length ∧ Hid (ROwnF spanK (fun k => w.heap.size ≤ k) w.heap.size 35 wr o m) ∧ Hid (m.Perm (l.take j)) ∧ Hid (Sorted m) ∧ Hid (Below w.heap.size w wr)) (fun _ i _ => l.length - (intOf i).toNat)
  case atStart => exact ⟨0, [], rfl, by omega, ROwnF.nil _ _ _ _ _, List.Perm.refl _, List.Pairwise.nil, Below.refl _ _⟩
  case round =>
    obtain ⟨j, m, rfl, hj, HO, HP, HS, HW⟩ := hrel
    obtain ⟨oa, oc, e⟩ := HO.out.isSlice
    subst e
    by_cases hlt : j < l.length
    · have hjl : (j : Int) < (l.length : Int) := by omega
      have hmj : m.length ≤ 10000 := by have := HP.out.length_eq; rw [List.length_take] at this; omega
      obtain ⟨sb, off, cap, ea, _, hsb, hc⟩ := spans_at HV.out (by omega)
      injection ea with e1 e2 e3
      subst e1 e3
      clear e2
      obtain ⟨vt, ht, hcs⟩ := hc j hlt
      obtain ⟨ta, tc, rfl⟩ := ht.isSlice
      have HT := Lib.hid ht
      have HTl : Hid (l[j].tags.length ≤ 1000000) := HTG.out _ (List.getElem_mem _)
      have HC : Hid (CA sb (off + j * 11) l[j] (.slice ta l[j].tags.length tc) w) := CA.of hcs
      have HTk : Hid (l.take (j + 1) = l.take j ++ [l[j]]) := List.take_succ_eq_append_getElem hlt
      clear hc ht hcs
      generalize l[j] = s at *
      generalize wr = W0 at *
      have HC0 := Lib.hid (HC.out.keep HW.out hsb)
      have HT0 := Lib.hid (HT.out.below HW.out)
      have HZ0 : Hid (sb < W0.heap.size) := Nat.lt_of_lt_of_le hsb HW.out.size
      go_upto_block 2 with fail
      go_cut [5] from 7 to 48 (fun k wx => ∃ kk : Nat, k = .int .i64 (kk : Int) ∧ kk ≤ m.length ∧ Hid (∀ y ∈ m.drop kk, Sp.cmp s y < 0) ∧ Hid (∀ y, 0 < kk → m[kk - 1]? = some y → ¬ Sp.cmp s y < 0) ∧ Hid (Below W0.heap.size W0 wx))
      case first =>
        go_wp2_with fail
        go_loopw [5] (fun k wi => ∃ kk : Nat, k = .int .i64 (kk : Int) ∧ kk ≤ m.length ∧ Hid (∀ y ∈ m.drop kk, Sp.cmp s y < 0) ∧ Hid (Below W0.heap.size W0 wi)) (fun k _ => (intOf k).toNat)
        case atStart => exact ⟨m.length, rfl, Nat.le_refl _, (by intro y hy; rw [List.drop_length] at hy; cases hy), Below.refl _ _⟩
        case round =>
          obtain ⟨kk, rfl, hk, HD, HWi⟩ := hrel
          by_cases h0 : 0 < kk
          · have h0' : (0 : Int) < (kk : Int) := by omega
            have hkl : kk - 1 < m.length := by omega
            obtain ⟨ob, oo, ocap, eo, _, hob, hoc⟩ := spans_at (HO.out.below HWi.out).rows (by omega)
            injection eo with e1 e2 e3
            subst e1 e3
            clear e2
            obtain ⟨vy, hy, hycs⟩ := hoc (kk - 1) hkl
            obtain ⟨ya, yc, rfl⟩ := hy.isSlice
            have hw : IntKind.i64.wrap ((kk : Int) - 1) = (kk : Int) - 1 := wrap_pred kk h0 (by omega)
            have hk1 : 0 ≤ IntKind.i64.wrap ((kk : Int) - 1) ∧ IntKind.i64.wrap ((kk : Int) - 1) < (m.length : Int) := by omega
            have HCy : Hid (CA ob (oo + (IntKind.i64.wrap ((kk : Int) - 1)).toNat * 11) (m[kk - 1]'hkl) (.slice ya (m[kk - 1]'hkl).tags.length yc) wr.drew) := by
              rw [hw, show ((kk : Int) - 1).toNat = kk - 1 by omega]
              exact CA.of hycs
            have HYi : Hid (Rw tagK _ wr.drew (.slice ya (m[kk - 1]'hkl).tags.length yc) (m[kk - 1]'hkl).tags) := hy.below (below_drew (Below.refl _ _))
            have HD1 : Hid (Sp.cmp s (m[kk - 1]'hkl) < 0 → ∀ y ∈ m.drop (kk - 1), Sp.cmp s y < 0) := fun h y hy => by
              rw [List.drop_eq_getElem_cons hkl] at hy
              rcases List.mem_cons.1 hy with e | e
              · rw [e]; exact h
              · rw [show kk - 1 + 1 = kk by omega] at e
                exact HD.out y e
            have HG : Hid (m[kk - 1]? = some (m[kk - 1]'hkl)) := List.getElem?_eq_getElem hkl
            have HCs : Hid (CA sb (off + j * 11) s (.slice ta s.tags.length tc) wr.drew) := HC0.out.keep (below_drew HWi.out) HZ0.out
            have HTi : Hid (Rw tagK F wr.drew (.slice ta s.tags.length tc) s.tags) := HT0.out.below (below_drew HWi.out)
            have HZi : Hid (sb < wr.drew.heap.size) := Nat.lt_of_lt_of_le HZ0.out HWi.out.size
            have HZo : Hid (ob < wr.drew.heap.size) := hob
            clear hw hy hycs hoc hob
            generalize (m[kk - 1]'hkl) = y at *
            obtain ⟨r, hr⟩ : ∃ r, Sp.cmp s y = r := ⟨_, rfl⟩
            have HR := Lib.hid hr
            clear hr
            by_cases hr0 : r < 0
            · go_wp2_with fail
              go_region_held3 (fun w' => (w'.cell? ⟨sb, off + j * 11, none⟩ = some (.int .u64 s.hi) ∧ w'.cell? ⟨sb, off + j * 11 + 1, none⟩ = some (.int .u64 s.lo) ∧ w'.cell? ⟨sb, off + j * 11 + 2, none⟩ = some (.int .u64 s.id) ∧ w'.cell? ⟨sb, off + j * 11 + 3, none⟩ = some (.int .u64 s.parent) ∧ w'.cell? ⟨sb, off + j * 11 + 4, none⟩ = some (.string s.service) ∧ w'.cell? ⟨sb, off + j * 11 + 5, none⟩ = some (.string s.name) ∧ w'.cell? ⟨sb, off + j * 11 + 6, none⟩ = some (.int .i64 s.kind) ∧ w'.cell? ⟨sb, off + j * 11 + 7, none⟩ = some (.int .i64 s.start) ∧ w'.cell? ⟨sb, off + j * 11 + 8, none⟩ = some (.int .i64 s.length) ∧ w'.cell? ⟨sb, off + j * 11 + 9, none⟩ = some (.bool s.fails) ∧ w'.cell? ⟨sb, off + j * 11 + 10, none⟩ = some (.slice ta s.tags.length tc)) ∧ (w'.cell? ⟨ob, oo + (IntKind.i64.wrap ((kk : Int) - 1)).toNat * 11, none⟩ = some (.int .u64 y.hi) ∧ w'.cell? ⟨ob, oo + (IntKind.i64.wrap ((kk : Int) - 1)).toNat * 11 + 1, none⟩ = some (.int .u64 y.lo) ∧ w'.cell? ⟨ob, oo + (IntKind.i64.wrap ((kk : Int) - 1)).toNat * 11 + 2, none⟩ = some (.int .u64 y.id) ∧ w'.cell? ⟨ob, oo + (IntKind.i64.wrap ((kk : Int) - 1)).toNat * 11 + 3, none⟩ = some (.int .u64 y.parent) ∧ w'.cell? ⟨ob, oo + (IntKind.i64.wrap ((kk : Int) - 1)).toNat * 11 + 4, none⟩ = some (.string y.service) ∧ w'.cell? ⟨ob, oo + (IntKind.i64.wrap ((kk : Int) - 1)).toNat * 11 + 5, none⟩ = some (.string y.name) ∧ w'.cell? ⟨ob, oo + (IntKind.i64.wrap ((kk : Int) - 1)).toNat * 11 + 6, none⟩ = some (.int .i64 y.kind) ∧ w'.cell? ⟨ob, oo + (IntKind.i64.wrap ((kk : Int) - 1)).toNat * 11 + 7, none⟩ = some (.int .i64 y.start) ∧ w'.cell? ⟨ob, oo + (IntKind.i64.wrap ((kk : Int) - 1)).toNat * 11 + 8, none⟩ = some (.int .i64 y.length) ∧ w'.cell? ⟨ob, oo + (IntKind.i64.wrap ((kk : Int) - 1)).toNat * 11 + 9, none⟩ = some (.bool y.fails) ∧ w'.cell? ⟨ob, oo + (IntKind.i64.wrap ((kk : Int) - 1)).toNat * 11 + 10, none⟩ = some (.slice ya y.tags.length yc)))
                (first | exact ⟨HCs.out, HCy.out⟩ | exact ⟨HCs.out.keep hbx1 HZi.out, HCy.out.keep hbx1 HZo.out⟩)
                (first | (go_at_call 37; refine Calls.mono (compare_at _ _ s y r HR.out _ _ _ HTi.out HYi.out) ?_; rintro e x1 ⟨rfl, hbx1⟩; skip))
              have HWx : Hid (Below W0.heap.size W0 x1) := HWi.out.trans ((below_of_drew hbx1).mono HWi.out.size)
              clear hbx1 HCs HCy
              go_wp2_with fail
              go_roundw
              · exact ⟨kk - 1, int_eq (by omega), by omega, HD1.out (by rw [HR.out]; exact hr0), HWx⟩
              · simp only [intOf]; omega
            · have hr0' : decide (r < 0) = false := by simpa using hr0
              go_wp2_with fail
              go_region_held3 (fun w' => (w'.cell? ⟨sb, off + j * 11, none⟩ = some (.int .u64 s.hi) ∧ w'.cell? ⟨sb, off + j * 11 + 1, none⟩ = some (.int .u64 s.lo) ∧ w'.cell? ⟨sb, off + j * 11 + 2, none⟩ = some (.int .u64 s.id) ∧ w'.cell? ⟨sb, off + j * 11 + 3, none⟩ = some (.int .u64 s.parent) ∧ w'.cell? ⟨sb, off + j * 11 + 4, none⟩ = some (.string s.service) ∧ w'.cell? ⟨sb, off + j * 11 + 5, none⟩ = some (.string s.name) ∧ w'.cell? ⟨sb, off + j * 11 + 6, none⟩ = some (.int .i64 s.kind) ∧ w'.cell? ⟨sb, off + j * 11 + 7, none⟩ = some (.int .i64 s.start) ∧ w'.cell? ⟨sb, off + j * 11 + 8, none⟩ = some (.int .i64 s.length) ∧ w'.cell? ⟨sb, off + j * 11 + 9, none⟩ = some (.bool s.fails) ∧ w'.cell? ⟨sb, off + j * 11 + 10, none⟩ = some (.slice ta s.tags.length tc)) ∧ (w'.cell? ⟨ob, oo + (IntKind.i64.wrap ((kk : Int) - 1)).toNat * 11, none⟩ = some (.int .u64 y.hi) ∧ w'.cell? ⟨ob, oo + (IntKind.i64.wrap ((kk : Int) - 1)).toNat * 11 + 1, none⟩ = some (.int .u64 y.lo) ∧ w'.cell? ⟨ob, oo + (IntKind.i64.wrap ((kk : Int) - 1)).toNat * 11 + 2, none⟩ = some (.int .u64 y.id) ∧ w'.cell? ⟨ob, oo + (IntKind.i64.wrap ((kk : Int) - 1)).toNat * 11 + 3, none⟩ = some (.int .u64 y.parent) ∧ w'.cell? ⟨ob, oo + (IntKind.i64.wrap ((kk : Int) - 1)).toNat * 11 + 4, none⟩ = some (.string y.service) ∧ w'.cell? ⟨ob, oo + (IntKind.i64.wrap ((kk : Int) - 1)).toNat * 11 + 5, none⟩ = some (.string y.name) ∧ w'.cell? ⟨ob, oo + (IntKind.i64.wrap ((kk : Int) - 1)).toNat * 11 + 6, none⟩ = some (.int .i64 y.kind) ∧ w'.cell? ⟨ob, oo + (IntKind.i64.wrap ((kk : Int) - 1)).toNat * 11 + 7, none⟩ = some (.int .i64 y.start) ∧ w'.cell? ⟨ob, oo + (IntKind.i64.wrap ((kk : Int) - 1)).toNat * 11 + 8, none⟩ = some (.int .i64 y.length) ∧ w'.cell? ⟨ob, oo + (IntKind.i64.wrap ((kk : Int) - 1)).toNat * 11 + 9, none⟩ = some (.bool y.fails) ∧ w'.cell? ⟨ob, oo + (IntKind.i64.wrap ((kk : Int) - 1)).toNat * 11 + 10, none⟩ = some (.slice ya y.tags.length yc)))
                (first | exact ⟨HCs.out, HCy.out⟩ | exact ⟨HCs.out.keep hbx1 HZi.out, HCy.out.keep hbx1 HZo.out⟩)
                (first | (go_at_call 37; refine Calls.mono (compare_at _ _ s y r HR.out _ _ _ HTi.out HYi.out) ?_; rintro e x1 ⟨rfl, hbx1⟩; skip))
              have HWx : Hid (Below W0.heap.size W0 x1) := HWi.out.trans ((below_of_drew hbx1).mono HWi.out.size)
              clear hbx1 HCs HCy
              go_wp2_with fail
              go_meet
              exact ⟨kk, rfl, hk, HD, (fun y' _ h => by have h2 := HG.out; rw [h2] at h; injection h with h; rw [← h, HR.out]; exact hr0), HWx⟩
          · have h0' : decide ((0 : Int) < (kk : Int)) = false := by simp; omega
            go_wp2_with fail
            go_quiet (fail)
            go_wp2_with fail
            go_meet
            exact ⟨kk, rfl, hk, HD, (fun _ h _ => absurd h h0), below_dn HWi.out _⟩
      case rest =>
        obtain ⟨kk, rfl, hk, HD, HE, HWc⟩ := hcut
        have HOc := Lib.hid (HO.out.below HWc.out)
        have HWcz := HWc
        have HWc0 : Hid (Below w.heap.size w wc) := HW.out.trans (HWc.out.mono HW.out.size)
        obtain ⟨ra, rc, cs0, hr8, g1, g2⟩ := HOc.out.slice_l under_spans size_span kk hk
        have HLT : Hid (∀ k, (Value.slice oa m.length oc).ownBlock = some k → w.heap.size ≤ k ∧ k < wc.heap.size) := HOc.out.lt
        obtain ⟨md, hmd⟩ : ∃ md, md = m.drop kk := ⟨_, rfl⟩
        obtain ⟨mt, hmt⟩ : ∃ mt, mt = m.take kk := ⟨_, rfl⟩
        have HL1 : Hid (mt.length + md.length ≤ 10000) := by
          show _ ≤ _
          rw [hmt, hmd, List.length_take, List.length_drop]; omega
        rw [← hmd] at hr8 g1 g2
        have HMT := Lib.hid hmt
        have HMD := Lib.hid hmd
        have G1 := Lib.hid g1
        have G2 := Lib.hid g2
        clear hmd hmt g1 g2 HO HC HT
        go_wp2_with (with_reducible refine pause_append ?_)
        refine list_gen fun W2 hW2 => ?_
        have HX2 : Hid (Below wc.heap.size wc W2) := by rw [hW2]; exact (Below.refl _ _).alloc (Nat.le_refl _) _
        have HL2 : Hid (ROwnF spanK (fun k => w.heap.size ≤ k ∧ (Value.slice oa m.length oc).ownBlock ≠ some k ∧ k < wc.heap.size) wc.heap.size 35 W2 (.slice (some ⟨wc.heap.size, 0, none⟩) 0 0) []) := by rw [hW2]; exact ROwnF.lit_at spanK _ _ rfl
        clear hW2 hr8
        refine Pause.go (wpList_append_elsF (K := spanK) 37 35 _ 120 Try.underlying37 info_span rfl (fun k => w.heap.size ≤ k ∧ (Value.slice oa m.length oc).ownBlock ≠ some k ∧ k < wc.heap.size) wc.heap.size _ [] _ md rfl _ _ rfl rfl rfl HL2.out cs0 _ (G1.out.below HX2.out)
          (((G2.out.mono (F' := fun k => w.heap.size ≤ k ∧ (Value.slice oa m.length oc).ownBlock ≠ some k ∧ k < wc.heap.size) fun k hk h => ⟨h.1, h.2, hk⟩).keep fun k hk _ => HX2.out.block k hk).mono fun k _ h => ⟨h, by intro e; injection e with e; have := h.2.2; have e : wc.heap.size = k := e; omega⟩)
          (by have := HL1.out; simp only [List.length_nil]; omega) (by decide) HX2.out.size ?_)
        intro v3 W3 ho3 hg3
        rw [List.nil_append] at ho3
        obtain ⟨va, vc, e⟩ := ho3.isSlice
        subst e
        have HX3 : Hid (Below wc.heap.size wc W3) := HX2.out.trans (hg3.below HX2.out.size fun k e => (HL2.out.lt k e).1)
        have HW3 : Hid (Below w.heap.size w W3) := HWc0.out.trans (HX3.out.mono HWc0.out.size)
        have HR3 := Lib.hid ho3
        have HO3 := Lib.hid (HOc.out.below HX3.out)
        clear ho3 hg3 HL2 HX2 G1 G2
        obtain ⟨ov, hr9, ho9, hoe, pa, pc, e⟩ := HO3.out.slice_h under_spans size_span kk hk
        subst e
        rw [← HMT.out] at ho9
        have HOE := Lib.hid hoe
        have HO9 : Hid (ROwnF spanK (fun k => w.heap.size ≤ k) w.heap.size 35 W3.drew (.slice pa kk pc) mt) := ho9.below (below_drew (Below.refl _ _))
        have HR9 := Lib.hid (HR3.out.below (w' := W3.drew) (below_drew (Below.refl _ _)))
        have HT9 : Hid (Rw tagK F W3.drew (.slice ta s.tags.length tc) s.tags) := HT0.out.keep fun k hk _ => by
          have hk2 : k < wc.heap.size := Nat.lt_of_lt_of_le hk HWcz.out.size
          exact (HX3.out.block k hk2).trans (HWcz.out.block k hk)
        have HC9 : Hid (CA sb (off + j * 11) s (.slice ta s.tags.length tc) W3.drew) := HC0.out.keep (below_drew (HWcz.out.trans (HX3.out.mono HWcz.out.size))) HZ0.out
        have HZ9 : Hid (sb < W3.drew.heap.size) := Nat.lt_of_lt_of_le HZ0.out (Nat.le_trans HWcz.out.size HX3.out.size)
        have HWd : Hid (Below w.heap.size w W3.drew) := below_drew HW3.out
        have HZc : Hid (wc.heap.size ≤ W3.drew.heap.size) := HX3.out.size
        have HLV : Hid (∀ k, (Value.slice pa kk pc).ownBlock = some k → w.heap.size ≤ k ∧ k < wc.heap.size) := fun k e => HLT.out k (by rw [← HOE.out]; exact e)
        clear hoe ho9 HO3 HR3 HOc HX3 HW3 HC0 HT0
        go_upto_region 9 with fail
        go_region_held3 (fun w' => (w'.cell? ⟨sb, off + j * 11, none⟩ = some (.int .u64 s.hi) ∧ w'.cell? ⟨sb, off + j * 11 + 1, none⟩ = some (.int .u64 s.lo) ∧ w'.cell? ⟨sb, off + j * 11 + 2, none⟩ = some (.int .u64 s.id) ∧ w'.cell? ⟨sb, off + j * 11 + 3, none⟩ = some (.int .u64 s.parent) ∧ w'.cell? ⟨sb, off + j * 11 + 4, none⟩ = some (.string s.service) ∧ w'.cell? ⟨sb, off + j * 11 + 5, none⟩ = some (.string s.name) ∧ w'.cell? ⟨sb, off + j * 11 + 6, none⟩ = some (.int .i64 s.kind) ∧ w'.cell? ⟨sb, off + j * 11 + 7, none⟩ = some (.int .i64 s.start) ∧ w'.cell? ⟨sb, off + j * 11 + 8, none⟩ = some (.int .i64 s.length) ∧ w'.cell? ⟨sb, off + j * 11 + 9, none⟩ = some (.bool s.fails) ∧ w'.cell? ⟨sb, off + j * 11 + 10, none⟩ = some (.slice ta s.tags.length tc)))
          (first | exact HC9.out | exact HC9.out.keep hb4 HZ9.out | exact HC9.out.keep (hb4.alloc hb4.size _) HZ9.out | exact HC9.out.keep HW7.out hsb | exact HC9.out.keep HW8.out hsb)
          (first
            | (go_at_call 38; refine Calls.mono (rcopy_any F s (.slice ta s.tags.length tc) _ HT9.out HTl.out) ?_; rintro e w4 ⟨vt', rfl, hr4, hb4⟩; obtain ⟨ua, uc, rfl⟩ := hr4.isSlice; have HR4 := Lib.hid hr4; unfold spanCells)
            | (refine step_of_wp rfl (wp_append_elsF (K := spanK) 37 35 _ 120 Try.underlying37 info_span rfl (fun k => w.heap.size ≤ k) w.heap.size v7 (mt ++ [s]) (.slice va md.length vc) md _ _ rfl rfl rfl ho7 c7 _ hsl7 hel7 (by have := HL1.out; simp only [List.length_append, List.length_singleton]; omega) (by decide) (Nat.le_trans HWd.out.size HW7.out.size) ?_)
               intro v8 w8 ho8 hg8
               have HW8 : Hid (Below w.heap.size W3.drew w8) := HW7.out.trans (hg8.below (Nat.le_trans HWd.out.size HW7.out.size) (fun k e => (ho7.lt k e).1)))
            | (refine step_of_wp rfl (wp_append_elF (K := spanK) 37 35 _ 120 Try.underlying37 info_span rfl (fun k => w.heap.size ≤ k) w.heap.size (.slice pa kk pc) mt w4.heap.size 35 _ s _ _ rfl rfl rfl (HO9.out.below (hb4.alloc hb4.size _)) (Blk.at_new rfl rfl)
                ⟨.slice ua s.tags.length uc, rfl, (HR4.out.below ((Below.refl _ _).alloc (Nat.le_refl _) _)).mono fun k _ hk => ⟨Nat.le_trans HWd.out.size hk, fun e => (by have := (HLV.out k e).2; have := HZc.out; omega)⟩⟩
                (by have := HL1.out; omega) (by decide) (Nat.le_trans HWd.out.size (hb4.alloc hb4.size _).size) ?_)
               intro v7 w7 ho7 hg7
               obtain ⟨c7, hsl7, hel7⟩ := rest_keep (HR9.out.below hb4) (fun k e => (HLT.out k e).2) ((Below.refl _ _).alloc (Nat.le_refl _) _) hg7 HOE.out (Nat.le_trans HZc.out hb4.size)
               have HW7 : Hid (Below w.heap.size W3.drew w7) := ((hb4.alloc hb4.size _).mono HWd.out.size).trans (hg7.below (Nat.le_trans HWd.out.size (hb4.alloc hb4.size _).size) (fun k e => (HLV.out k e).1))))
        have HWe : Hid (Below w.heap.size w w8) := HWd.out.trans HW8.out
        have HO8 := Lib.hid ho8
        have HE8 : Hid (mt ++ [s] ++ md = m.take kk ++ s :: m.drop kk) := by show _ = _; rw [HMT.out, HMD.out, List.append_assoc]; rfl
        have HP8 : Hid ((mt ++ [s] ++ md).Perm (l.take (j + 1))) := by
          show List.Perm _ _
          rw [HE8.out, HTk.out]
          exact (insert_perm kk).trans (HP.out.append_right [s])
        have HS8 : Hid (Sorted (mt ++ [s] ++ md)) := by
          show Sorted _
          rw [HE8.out]
          exact sorted_insert kk HS.out hk HD.out fun h => (by have := HE.out _ h (List.getElem?_eq_getElem (by omega)); omega)
        clear ho7 hg7 hsl7 hel7 ho8 hg8 hb4 hr4 HR4 HO9 HR9
        go_wp2_with fail
        go_roundw
        · exact ⟨j + 1, mt ++ [s] ++ md, by go_num, by omega, HO8, HP8, HS8, HWe⟩
        · simp only [intOf]; omega
    · have hjl : decide ((j : Int) < (l.length : Int)) = false := by simp; omega
      have HP2 : Hid (m.Perm l) := by
        have := HP.out
        rwa [List.take_of_length_le (by omega)] at this
      go_wp2_with fail
      go_ret
      exact ⟨_, m, rfl, HO.out.rows.mono (fun k _ hk => by
        rcases hk with e | e
        · exact (HO.out.lt k e).1
        · exact e.1), HP2.out, HS.out, HW.out⟩
end Go.Proofs.Ytiofhmlmimbngaa
