/- The law VersionBack: what lies in memory between its rounds; the small plain laws of its walk. -/
import Derived.Test.YtkcohhldmhdcfaaVzVhJa
import Derived.Test.YtkcohhldmhdcfaaVzVhOa
import Derived.Test.YtkcohhldmhdcfaaVzVgH
import Derived.Test.YtkcohhldmhdcfaaVzVgI
import Derived.Test.YtkcohhldmhdcfaaVzVeZb
namespace Go.Proofs.Ytkcohhldmhdcfaa
open Go.RowKit

/-- What lies in memory between the rounds. -/
structure VbAt (w0 : World) (vb : Nat) (v : Ver) (lv : Value) (i : Nat) (w : World) : Prop where
  blk : Blk w vb (verCells v lv).toArray 25
  rows : Rw (rowK filK) (fun k => k ≠ vb) w lv v.levels
  wf : v.wf
  chk : chkW v = 0
  tot : tot v.levels 5 ≤ 100 * i
  bel : Below w0.heap.size w0 w
  lt : w0.heap.size ≤ vb
theorem VbAt.below {w0 : World} {vb : Nat} {v : Ver} {lv : Value} {i : Nat} {w w' : World} (h : VbAt w0 vb v lv i w) (hb : Below w.heap.size w w') : VbAt w0 vb v lv i w' :=
  ⟨h.blk.below hb h.blk.lt, h.rows.below hb, h.wf, h.chk, h.tot, h.bel.trans (hb.mono h.bel.size), h.lt⟩
theorem VbAt.cells {w0 : World} {vb : Nat} {v : Ver} {lv : Value} {i : Nat} {w : World} (h : VbAt w0 vb v lv i w) : w.cell? ⟨vb, 0, none⟩ = some lv ∧ w.cell? ⟨vb, 1, none⟩ = some (.int .u64 v.next) ∧ w.cell? ⟨vb, 2, none⟩ = some (.int .u64 v.seq) ∧ w.cell? ⟨vb, 3, none⟩ = some (.int .u64 v.log) :=
  ⟨h.blk.cell rfl, h.blk.cell rfl, h.blk.cell rfl, h.blk.cell rfl⟩
theorem VbAt.five {w0 : World} {vb : Nat} {v : Ver} {lv : Value} {i : Nat} {w : World} (h : VbAt w0 vb v lv i w) : v.levels.length = 5 := (good_small h.chk).1
/-- What Apply told, in its own block. -/
def ApAt (w0 : World) (vb : Nat) (v : Ver) (lv : Value) (i : Nat) (R : Ver × Int) (pv ev : Value) (w : World) : Prop :=
  ∃ tb lv', pv = .pointer (some ⟨tb, 0, none⟩) ∧ ev = .int .i64 R.2 ∧ Blk w tb (verCells R.1 lv').toArray 25 ∧ Rw (rowK filK) (fun k => k ≠ vb) w lv' R.1.levels ∧ VbAt w0 vb v lv i w ∧ vb < tb
theorem apAt_1 {w0 w4 w5 : World} {vb i : Nat} {v A : Ver} {lv lv5 : Value} {x : Int} {B : Nat} (h : VbAt w0 vb v lv i w4) (hr : Rw (rowK filK) (fun k => B ≤ k) w5 lv5 A.levels) (hb : Below w4.heap.size w4 w5) (hB : w4.heap.size ≤ B) :
    ApAt w0 vb v lv i (A, x) (.pointer (some ⟨w5.heap.size, 0, none⟩)) (.int .i64 x) (w5.alloc (.cells (verCells A lv5).toArray 25)) := by
  have hb6 : Below w5.heap.size w5 (w5.alloc (.cells (verCells A lv5).toArray 25)) := (Below.refl _ _).alloc (Nat.le_refl _) _
  have h1 := h.blk.lt
  have h2 := hb.size
  exact ⟨_, lv5, rfl, rfl, Blk.at_new rfl rfl, (hr.below hb6).mono fun k _ hk => by omega, (h.below hb).below hb6, by omega⟩
theorem apAt_2 {w0 w4 w5 : World} {vb i zb : Nat} {v A : Ver} {lv lv5 : Value} {x : Int} {B : Nat} (h : VbAt w0 vb v lv i w4) (hz : Blk w5 zb zero4 25) (hr : Rw (rowK filK) (fun k => B ≤ k) w5 lv5 A.levels) (hb : Below w4.heap.size w4 w5) (hB : zb < B) (hzb : w4.heap.size ≤ zb) :
    ApAt w0 vb v lv i (A, x) (.pointer (some ⟨zb, 0, none⟩)) (.int .i64 x) ((((w5.setCell ⟨zb, 0, none⟩ lv5).setCell ⟨zb, 1, none⟩ (.int .u64 A.next)).setCell ⟨zb, 2, none⟩ (.int .u64 A.seq)).setCell ⟨zb, 3, none⟩ (.int .u64 A.log)) := by
  have h1 := h.blk.lt
  have hw : Wrote (fun k => k = zb) w5 ((((w5.setCell ⟨zb, 0, none⟩ lv5).setCell ⟨zb, 1, none⟩ (.int .u64 A.next)).setCell ⟨zb, 2, none⟩ (.int .u64 A.seq)).setCell ⟨zb, 3, none⟩ (.int .u64 A.log)) :=
    ((((Wrote.refl (fun k => k = zb) _).setCell ⟨zb, 0, none⟩ _ (.inl rfl)).setCell ⟨zb, 1, none⟩ _ (.inl rfl)).setCell ⟨zb, 2, none⟩ _ (.inl rfl)).setCell ⟨zb, 3, none⟩ _ (.inl rfl)
  exact ⟨_, lv5, rfl, rfl, (((hz.set 0 _).set 1 _).set 2 _).set 3 _, (hr.keep fun k hk hF => hw.block k hk (by omega)).mono fun k _ hk => by omega, h.below (below_set4 hb hzb), by omega⟩
theorem firstV_wf : firstV.wf := ⟨⟨by decide, by decide⟩, ⟨by decide, by decide⟩, ⟨by decide, by decide⟩⟩
theorem firstV_tot : tot firstV.levels 5 = 0 := rfl
theorem VbAt.step {w0 : World} {vb : Nat} {v : Ver} {lv : Value} {i : Nat} {w : World} (h : VbAt w0 vb v lv i w) : VbAt w0 vb v lv (i + 1) w :=
  ⟨h.blk, h.rows, h.wf, h.chk, Nat.le_trans h.tot (by omega), h.bel, h.lt⟩
theorem VbAt.store {w0 w : World} {vb i : Nat} {v A : Ver} {lv lv' : Value} (h : VbAt w0 vb v lv i w) (hR : Rw (rowK filK) (fun k => k ≠ vb) w lv' A.levels) (hA : A.wf) (hc : chkW A = 0) (ht : Go.Proofs.Ytkcohhldmhdcfaa.tot A.levels 5 ≤ 100 * (i + 1)) :
    VbAt w0 vb A lv' (i + 1) ((((w.setCell ⟨vb, 0, none⟩ lv').setCell ⟨vb, 1, none⟩ (.int .u64 A.next)).setCell ⟨vb, 2, none⟩ (.int .u64 A.seq)).setCell ⟨vb, 3, none⟩ (.int .u64 A.log)) := by
  have hw : Wrote (fun k => k = vb) w ((((w.setCell ⟨vb, 0, none⟩ lv').setCell ⟨vb, 1, none⟩ (.int .u64 A.next)).setCell ⟨vb, 2, none⟩ (.int .u64 A.seq)).setCell ⟨vb, 3, none⟩ (.int .u64 A.log)) :=
    ((((Wrote.refl (fun k => k = vb) _).setCell ⟨vb, 0, none⟩ _ (.inl rfl)).setCell ⟨vb, 1, none⟩ _ (.inl rfl)).setCell ⟨vb, 2, none⟩ _ (.inl rfl)).setCell ⟨vb, 3, none⟩ _ (.inl rfl)
  exact ⟨(((h.blk.set 0 _).set 1 _).set 2 _).set 3 _, hR.keep fun k hk hF => hw.block k hk hF, hA, hc, ht, below_set4 h.bel h.lt, h.lt⟩
theorem verq_cells {w : World} {b : Nat} {T : TypeId} {v : Ver} {lv : Value} (h : Blk w b (verCells v lv).toArray T) : w.cell? ⟨b, 0, none⟩ = some lv ∧ w.cell? ⟨b, 1, none⟩ = some (.int .u64 v.next) ∧ w.cell? ⟨b, 2, none⟩ = some (.int .u64 v.seq) ∧ w.cell? ⟨b, 3, none⟩ = some (.int .u64 v.log) := ⟨h.cell rfl, h.cell rfl, h.cell rfl, h.cell rfl⟩
theorem ediq_cells {w : World} {b : Nat} {T : TypeId} {e : Edi} {dv av : Value} (h : Blk w b (ediCells e dv av).toArray T) : w.cell? ⟨b, 0, none⟩ = some dv ∧ w.cell? ⟨b, 1, none⟩ = some av ∧ w.cell? ⟨b, 2, none⟩ = some (.int .u64 e.next) ∧ w.cell? ⟨b, 3, none⟩ = some (.int .u64 e.seq) ∧ w.cell? ⟨b, 4, none⟩ = some (.int .u64 e.log) := ⟨h.cell rfl, h.cell rfl, h.cell rfl, h.cell rfl, h.cell rfl⟩
/-- A round whose edit was taken. -/
theorem round_zero {v A : Ver} {e : Edi} {x : Int} (hR : applyW v e = (A, x)) (hx : x = 0) (hn : u64In e.next ∧ u64In e.seq ∧ u64In e.log) (nd : e.drops.length ≤ 100) (na : e.adds.length ≤ 100) (hw : ∀ a ∈ e.adds, a.2.wf) {i : Nat} (ht : tot v.levels 5 ≤ 100 * i) :
    e.Bound ∧ chkW A = 0 ∧ A.wf ∧ tot A.levels 5 ≤ 100 * (i + 1) := by
  have h2 : (applyW v e).2 = 0 := by rw [hR]; exact hx
  obtain ⟨b, c, -⟩ := apply_bound h2 hn (by omega) (by omega) hw
  have t := apply_tot h2
  obtain ⟨-, ls, -, -, -, he⟩ := applyW_zero h2
  rw [hR] at c t he
  have hA : A = newV ls e := congrArg Prod.fst he
  refine ⟨b, c, by rw [hA]; exact hn, ?_⟩
  show tot A.levels 5 ≤ 100 * (i + 1)
  have t' : tot A.levels 5 ≤ tot v.levels 5 + e.adds.length := t
  omega
theorem encE_len {e : Edi} (hd : ∀ d ∈ e.drops, i64In d.1 ∧ u64In d.2) (ha : ∀ a ∈ e.adds, i64In a.1 ∧ a.2.wf ∧ a.2.least.length ≤ 10000 ∧ a.2.most.length ≤ 10000) (hn : u64In e.next ∧ u64In e.seq ∧ u64In e.log) (nd : e.drops.length ≤ 3000) (na : e.adds.length ≤ 3000) : (encE e).length ≤ 1000000000 := by
  have g1 : (headE e).length ≤ 40 := by
    refine encNs_len (ns := [e.next.toNat, e.seq.toNat, e.log.toNat, e.drops.length]) fun n hm => ?_
    have := hn.1.2
    have := hn.2.1.2
    have := hn.2.2.2
    simp only [List.mem_cons, List.not_mem_nil, or_false] at hm
    rcases hm with rfl | rfl | rfl | rfl <;> omega
  have g2 := encDs_len hd
  have g3 := encAs_len ha
  have g4 : (encNs [e.adds.length]).length ≤ 10 := by
    refine encNs_len (ns := [e.adds.length]) fun n hm => ?_
    simp only [List.mem_cons, List.not_mem_nil, or_false] at hm
    omega
  unfold encE
  simp only [List.length_append]
  omega
/-- What Append told, as Parse takes it. -/
theorem appPost_any {e : Edi} {w w' : World} {x : Ending} (h : AppPost e w x w') (hl : (encE e).length ≤ 1000000000) :
    ∃ a c all, x = .returned (.tuple #[.slice a (all : List UInt8).length c, .int .i64 (appC e)]) ∧ Bytes Any w' (.slice a all.length c) all ∧ all.length ≤ 1000000000 ∧ (appC e = 0 → all = encE e) ∧ Below w.heap.size w w' := by
  obtain ⟨h1, h2, hb⟩ := h
  by_cases hc : appC e = 0
  · obtain ⟨r, rfl, ho⟩ := h2 hc
    have hB := ho.bytes.any
    obtain ⟨a, c, rfl⟩ := hB.isSlice
    exact ⟨a, c, encE e, by rw [hc], hB, hl, fun _ => rfl, hb⟩
  · exact ⟨none, 0, [], h1 hc, Bytes.nil _ _, by decide, fun h => absurd h hc, hb⟩
theorem edi_len {F : Nat → Prop} {w : World} {e : Edi} {dv av : Value} (h : EdiAt F w e dv av) (nd : e.drops.length ≤ 3000) (na : e.adds.length ≤ 3000) (hk : ∀ a ∈ e.adds, a.2.least.length ≤ 10000 ∧ a.2.most.length ≤ 10000) : (encE e).length ≤ 1000000000 :=
  encE_len h.drops.dwf (fun a ha => ⟨(h.adds.awf a ha).1, (h.adds.awf a ha).2, hk a ha⟩) ⟨h.next, h.seq, h.log⟩ nd na
/-- The end: the whole edit of the last version. -/
theorem back_end {v : Ver} (h : chkW v = 0) (hw : v.wf) (ht : tot v.levels 5 ≤ 2000) (hf : ∀ i, i < v.levels.length → ∀ f ∈ lat v.levels i, f.wf) :
    wholeW v = (wholeE v, 0) ∧ appC (wholeE v) = 0 ∧ parseW (encE (wholeE v)) = (wholeE v, 0) ∧ applyW firstV (wholeE v) = (v, 0) ∧ (wholeE v).drops.length = 0 ∧ (wholeE v).adds.length ≤ 2000 ∧ (∀ a ∈ (wholeE v).adds, a.2.least.length ≤ 4096 ∧ a.2.most.length ≤ 4096) := by
  have hl : (wholeE v).adds.length ≤ 2000 := by
    show (wAdds v.levels 5).length ≤ 2000
    rw [tot_cnt]
    exact ht
  have hb := whole_back h chk_first
  have h5 := (good_small h).1
  have hB := (apply_bound (v := firstV) (e := wholeE v) (by rw [hb]) hw (Nat.zero_le _) (by omega) (fun a ha => by
    obtain ⟨j, hj, -, h2⟩ := wAdds_mem v.levels 5 a ha
    exact hf j (by rw [h5]; exact hj) _ h2)).1
  exact ⟨wholeW_ok h, whole_appC h (by omega), parse_back hB, hb, rfl, hl, whole_keys h⟩
theorem VbAt.fin {w0 : World} {vb : Nat} {v : Ver} {lv : Value} {i : Nat} {w : World} (h : VbAt w0 vb v lv i w) (hi : i ≤ 20) :
    wholeW v = (wholeE v, 0) ∧ appC (wholeE v) = 0 ∧ parseW (encE (wholeE v)) = (wholeE v, 0) ∧ applyW firstV (wholeE v) = (v, 0) ∧ (wholeE v).drops.length = 0 ∧ (wholeE v).adds.length ≤ 2000 ∧ (∀ a ∈ (wholeE v).adds, a.2.least.length ≤ 4096 ∧ a.2.most.length ≤ 4096) :=
  back_end h.chk h.wf (Nat.le_trans h.tot (by omega)) h.rows.lwf
theorem VbAt.cnt {w0 : World} {vb : Nat} {v : Ver} {lv : Value} {i : Nat} {w : World} (h : VbAt w0 vb v lv i w) (hi : i ≤ 20) : cntTo v.levels v.levels.length ≤ 1000000 := by
  rw [h.five, cnt_tot]
  have := h.tot
  omega
end Go.Proofs.Ytkcohhldmhdcfaa
