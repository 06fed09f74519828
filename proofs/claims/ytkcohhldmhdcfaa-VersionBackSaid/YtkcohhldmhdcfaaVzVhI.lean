/- version.Parse. -/
import Derived.Test.YtkcohhldmhdcfaaVzVhEa
import Derived.Deep.CutBlock
namespace Go.Proofs.Ytkcohhldmhdcfaa
open Go.RowKit

def i64W (x : Nat) : Int := IntKind.i64.wrap (x : Int)
theorem i64W_in (x : Nat) : i64In (i64W x) := by
  unfold i64W i64In
  simp [IntKind.wrap, IntKind.signed, IntKind.bits]
  omega
theorem i64W_w64 (x : Nat) : RowKit.wrap64 (x : Int) = i64W x := by
  unfold i64W RowKit.wrap64
  simp [IntKind.wrap, IntKind.signed, IntKind.bits]
  omega
/-- The drops that are read. -/
def dropsS (all : List UInt8) : Nat → RS → List (Int × Int) → List (Int × Int) × RS
  | 0, s, ds => (ds, s)
  | n + 1, s, ds =>
    if faultW s.e s.ve ≠ 0 then (ds, ⟨s.i, s.e, faultW s.e s.ve⟩)
    else
      let a := numS all ⟨s.i, s.e, faultW s.e s.ve⟩
      let b := numS all a.2
      dropsS all n b.2 (ds ++ [(i64W a.1, (b.1 : Int))])
/-- One add that is read. -/
def addS (all : List UInt8) (s : RS) : (Int × Fil) × RS :=
  let l := numS all s
  let a := numS all l.2
  let b := numS all a.2
  let c := numS all b.2
  let d := numS all c.2
  let f := faultW d.2.e d.2.ve
  if f = 0 then
    let p := pieceW all d.2.i d.2.e
    let q := pieceW all p.2.1 p.2.2
    ((i64W l.1, ⟨(a.1 : Int), i64W b.1, p.1, q.1, i64W c.1, (d.1 : Int)⟩), ⟨q.2.1, q.2.2, f⟩)
  else ((i64W l.1, ⟨(a.1 : Int), i64W b.1, [], [], i64W c.1, (d.1 : Int)⟩), ⟨d.2.i, d.2.e, f⟩)
/-- The adds that are read. -/
def addsS (all : List UInt8) : Nat → RS → List (Int × Fil) → List (Int × Fil) × RS
  | 0, s, xs => (xs, s)
  | n + 1, s, xs =>
    if faultW s.e s.ve ≠ 0 then (xs, ⟨s.i, s.e, faultW s.e s.ve⟩)
    else
      let a := addS all ⟨s.i, s.e, faultW s.e s.ve⟩
      addsS all n a.2 (xs ++ [a.1])
/-- What Parse tells. -/
def parseW (all : List UInt8) : Edi × Nat :=
  let a := numS all ⟨0, 0, 0⟩
  let b := numS all a.2
  let c := numS all b.2
  let n := countS all c.2
  let ds := dropsS all n.1 n.2 []
  let m := countS all ds.2
  let xs := addsS all m.1 m.2 []
  let f := faultW xs.2.e xs.2.ve
  if f ≠ 0 then (zeroE, f)
  else if endW all xs.2.i xs.2.e ≠ 0 then (zeroE, endW all xs.2.i xs.2.e)
  else (⟨ds.1, xs.1, (a.1 : Int), (b.1 : Int), (c.1 : Int)⟩, 0)
theorem WR.mono {F F' : Nat → Prop} {r : Nat} {v : Value} {all : List UInt8} {i e : Nat} {w : World} (h : WR F r v all i e w) (hF : ∀ k, k < w.heap.size → F k → F' k) (hr : ¬ F' r) : WR F' r v all i e w :=
  ⟨h.blk, h.bytes.mono hF, hr, h.le, h.small, h.short⟩
/-- What lies in memory while the drops are read. -/
structure Pa1 (A B B1 q r eb rb : Nat) (v : Value) (all : List UInt8) (s : RS) (dv : Value) (ds : List (Int × Int)) (a b c : Nat) (w0 w : World) : Prop where
  rd : RD A B q r v all s.i s.e s.ve w
  out : Blk w eb #[dv, .slice none 0 0, .int .u64 (a : Int), .int .u64 (b : Int), .int .u64 (c : Int)] 57
  res : Blk w rb zero5 57
  row : ROwnF dropK (fun _ => False) B1 100 w dv ds
  bel : Below w0.heap.size w0 w
  ord : w0.heap.size ≤ rb ∧ rb < A ∧ A ≤ B ∧ B ≤ eb ∧ eb < B1 ∧ B1 ≤ w.heap.size
theorem ROwnF.wrote {α : Type} {K : Kind α} {F : Nat → Prop} {base e : Nat} {w w' : World} {v : Value} {xs : List α} {S : Nat → Prop} (h : ROwnF K F base e w v xs) (hw : Wrote S w w') (hb : ∀ k, base ≤ k → ¬ S k) (hF : ∀ k, F k → ¬ S k) : ROwnF K F base e w' v xs :=
  h.keep fun k hk hx => hw.block k hk (by
    rcases hx with e | ⟨e, -⟩
    · exact hb k (h.lt k e).1
    · exact hF k e)
theorem Pa1.read {A B B1 q r eb rb : Nat} {v : Value} {all : List UInt8} {s s2 : RS} {dv : Value} {ds : List (Int × Int)} {a b c : Nat} {w0 w w' : World} (h : Pa1 A B B1 q r eb rb v all s dv ds a b c w0 w) (hr : RD A B q r v all s2.i s2.e s2.ve w') (hw : Wrote (fun k => k = r ∨ k = q) w w') : Pa1 A B B1 q r eb rb v all s2 dv ds a b c w0 w' := by
  obtain ⟨o1, o2, o3, o4, o5, o6⟩ := h.ord
  have hr1 := h.rd.lr
  have hq1 := h.rd.lq
  refine ⟨hr, h.out.same (hw.block _ h.out.lt (by omega)), h.res.same (hw.block _ h.res.lt (by omega)), h.row.wrote hw (fun k hk => by omega) (fun _ h => h.elim), h.bel.trans (hw.below h.bel.size (fun k hk => by rcases hk with rfl | rfl <;> omega)), ⟨o1, o2, o3, o4, o5, Nat.le_trans o6 hw.size⟩⟩
theorem Pa1.below {A B B1 q r eb rb : Nat} {v : Value} {all : List UInt8} {s : RS} {dv : Value} {ds : List (Int × Int)} {a b c : Nat} {w0 w w' : World} (h : Pa1 A B B1 q r eb rb v all s dv ds a b c w0 w) (hb : Below w.heap.size w w') : Pa1 A B B1 q r eb rb v all s dv ds a b c w0 w' :=
  ⟨h.rd.below hb, h.out.below hb h.out.lt, h.res.below hb h.res.lt, h.row.below hb, h.bel.trans (hb.mono h.bel.size), by have := h.ord; have := hb.size; omega⟩
theorem info_dropO : (Try.prog.info? 100).map (fun i => (i.zero, i.size, i.bytes)) = some (some (.agg #[.int .i64 0, .int .u64 0]), dropK.sz, 16) := by kernel_rfl
theorem Pa1.grow {A B B1 q r eb rb : Nat} {v : Value} {all : List UInt8} {s : RS} {dv dv' : Value} {ds ds' : List (Int × Int)} {a b c : Nat} {w0 w w' : World} (h : Pa1 A B B1 q r eb rb v all s dv ds a b c w0 w) (hb : Below B1 w w') (hr : ROwnF dropK (fun _ => False) B1 100 w' dv' ds') :
    Pa1 A B B1 q r eb rb v all s dv' ds' a b c w0 (w'.setCell ⟨eb, 0, none⟩ dv') := by
  obtain ⟨o1, o2, o3, o4, o5, o6⟩ := h.ord
  have hr1 := h.rd.lr
  have hq1 := h.rd.lq
  have hw : Wrote (fun k => B1 ≤ k ∨ k = eb) w (w'.setCell ⟨eb, 0, none⟩ dv') := ⟨hb.os, hb.tape, hb.output, by simpa using hb.size, fun k hk hn => (heap_setCell_other _ _ _ _ (fun e => hn (.inr e))).trans (hb.block k (by omega))⟩
  refine ⟨h.rd.wrote hw (by omega) (by omega) (fun k h1 h2 _ _ => by omega), (h.out.same (hb.block _ o5)).set 0 _, h.res.same (hw.block _ h.res.lt (by omega)), hr.keep fun k hk hx => heap_setCell_other _ _ _ _ ?_, h.bel.trans (hw.below h.bel.size (fun k hk => by omega)), ⟨o1, o2, o3, o4, o5, Nat.le_trans o6 (by simpa using hb.size)⟩⟩
  show k ≠ eb
  rcases hx with e | ⟨e, -⟩
  · have := (hr.lt k e).1; omega
  · exact e.elim
theorem countS_le (all : List UInt8) (s : RS) : (countS all s).1 ≤ 10000 := by
  unfold countS
  simp only []
  split
  · exact Nat.zero_le _
  · split
    · exact Nat.zero_le _
    · simp only []; omega
/-- What lies in memory while the adds are read. -/
structure Pa2 (A B B2 M q r eb rb : Nat) (v : Value) (all : List UInt8) (s : RS) (dv : Value) (ds : List (Int × Int)) (av : Value) (xs : List (Int × Fil)) (a b c : Nat) (w0 w : World) : Prop where
  rd : RD A B q r v all s.i s.e s.ve w
  out : Blk w eb #[dv, av, .int .u64 (a : Int), .int .u64 (b : Int), .int .u64 (c : Int)] 57
  res : Blk w rb zero5 57
  drs : Rw dropK (fun k => (B ≤ k ∧ k < B2) ∧ k ≠ eb) w dv ds
  row : ROwnF addK (fun k => B2 ≤ k ∧ k < M) B2 104 w av xs
  own : ∀ k, av.ownBlock = some k → k < M
  bel : Below w0.heap.size w0 w
  ord : w0.heap.size ≤ rb ∧ rb < A ∧ A ≤ B ∧ B ≤ eb ∧ eb < B2 ∧ B2 ≤ M ∧ M ≤ w.heap.size
theorem Pa2.of {A B B1 q r eb rb : Nat} {v : Value} {all : List UInt8} {s : RS} {dv : Value} {ds : List (Int × Int)} {a b c : Nat} {w0 w : World} (h : Pa1 A B B1 q r eb rb v all s dv ds a b c w0 w) : Pa2 A B w.heap.size w.heap.size q r eb rb v all s dv ds (.slice none 0 0) [] a b c w0 w := by
  obtain ⟨o1, o2, o3, o4, o5, o6⟩ := h.ord
  refine ⟨h.rd, h.out, h.res, h.row.rows.mono fun k hk hx => ?_, ROwnF.nil _ _ _ _ _, (fun k e => by cases e), h.bel, ⟨o1, o2, o3, o4, Nat.lt_of_lt_of_le o5 o6, Nat.le_refl _, Nat.le_refl _⟩⟩
  rcases hx with e | ⟨e, -⟩
  · have := (h.row.lt k e).1
    exact ⟨⟨by omega, hk⟩, by omega⟩
  · exact e.elim
theorem Pa2.top {A B B2 M q r eb rb : Nat} {v : Value} {all : List UInt8} {s : RS} {dv : Value} {ds : List (Int × Int)} {av : Value} {xs : List (Int × Fil)} {a b c : Nat} {w0 w : World} (h : Pa2 A B B2 M q r eb rb v all s dv ds av xs a b c w0 w) : Pa2 A B B2 w.heap.size q r eb rb v all s dv ds av xs a b c w0 w :=
  ⟨h.rd, h.out, h.res, h.drs, h.row.mono fun k hk hF _ => ⟨hF.1, hk⟩, fun k e => (h.row.lt k e).2, h.bel, by have := h.ord; omega⟩
theorem Pa2.read {s2 : RS} {A B B2 M q r eb rb : Nat} {v : Value} {all : List UInt8} {s : RS} {dv : Value} {ds : List (Int × Int)} {av : Value} {xs : List (Int × Fil)} {a b c : Nat} {w0 w w' : World} (h : Pa2 A B B2 M q r eb rb v all s dv ds av xs a b c w0 w) (hr : RD A B q r v all s2.i s2.e s2.ve w') (hw : Wrote (fun k => k = r ∨ k = q) w w') : Pa2 A B B2 M q r eb rb v all s2 dv ds av xs a b c w0 w' := by
  obtain ⟨o1, o2, o3, o4, o5, o6, o7⟩ := h.ord
  have hr1 := h.rd.lr
  have hq1 := h.rd.lq
  refine ⟨hr, h.out.same (hw.block _ h.out.lt (by omega)), h.res.same (hw.block _ h.res.lt (by omega)), h.drs.keep fun k hk hx => hw.block k hk (by omega), h.row.wrote hw (fun k hk => by omega) (fun k hk => by omega), h.own, h.bel.trans (hw.below h.bel.size (fun k hk => by rcases hk with rfl | rfl <;> omega)), ⟨o1, o2, o3, o4, o5, o6, Nat.le_trans o7 hw.size⟩⟩
theorem Pa2.wire {i2 e2 : Nat} {A B B2 M q r eb rb : Nat} {v : Value} {all : List UInt8} {s : RS} {dv : Value} {ds : List (Int × Int)} {av : Value} {xs : List (Int × Fil)} {a b c : Nat} {w0 w w' : World} (h : Pa2 A B B2 M q r eb rb v all s dv ds av xs a b c w0 w) (hr : WR (fun k => (A ≤ k ∧ k < B) ∧ k ≠ r ∧ k ≠ q) r v all i2 e2 w') (hw : Wrote (· = r) w w') : Pa2 A B B2 M q r eb rb v all ⟨i2, e2, s.ve⟩ dv ds av xs a b c w0 w' :=
  h.read (s2 := ⟨i2, e2, s.ve⟩) (h.rd.wire hr hw) ⟨hw.os, hw.tape, hw.output, hw.size, fun k hk hn => hw.block k hk (fun e => hn (.inl e))⟩
theorem Pa2.below {A B B2 M q r eb rb : Nat} {v : Value} {all : List UInt8} {s : RS} {dv : Value} {ds : List (Int × Int)} {av : Value} {xs : List (Int × Fil)} {a b c : Nat} {w0 w w' : World} (h : Pa2 A B B2 M q r eb rb v all s dv ds av xs a b c w0 w) (hb : Below w.heap.size w w') : Pa2 A B B2 M q r eb rb v all s dv ds av xs a b c w0 w' :=
  ⟨h.rd.below hb, h.out.below hb h.out.lt, h.res.below hb h.res.lt, h.drs.below hb, h.row.below hb, h.own, h.bel.trans (hb.mono h.bel.size), by have := h.ord; have := hb.size; omega⟩
/-- A write into an add's own block. -/
theorem Pa2.cellAt {A B B2 M q r eb rb : Nat} {v : Value} {all : List UInt8} {s : RS} {dv : Value} {ds : List (Int × Int)} {av : Value} {xs : List (Int × Fil)} {a b c : Nat} {w0 w w' : World} (h : Pa2 A B B2 M q r eb rb v all s dv ds av xs a b c w0 w) (ab : Nat) (hw : Wrote (· = ab) w w') (hab : M ≤ ab) : Pa2 A B B2 M q r eb rb v all s dv ds av xs a b c w0 w' := by
  obtain ⟨o1, o2, o3, o4, o5, o6, o7⟩ := h.ord
  have hr1 := h.rd.lr
  have hq1 := h.rd.lq
  refine ⟨h.rd.wrote hw (by omega) (by omega) (fun k h1 h2 _ _ => by omega), h.out.same (hw.block _ h.out.lt (by omega)), h.res.same (hw.block _ h.res.lt (by omega)), h.drs.keep fun k hk hx => hw.block k hk (by omega), h.row.keep fun k hk hx => hw.block k hk ?_, h.own, h.bel.trans (hw.below h.bel.size (fun k hk => by omega)), ⟨o1, o2, o3, o4, o5, o6, Nat.le_trans o7 hw.size⟩⟩
  rcases hx with e | ⟨e, -⟩
  · have := h.own k e; omega
  · omega
theorem Pa2.grow {av' : Value} {xs' : List (Int × Fil)} {A B B2 M q r eb rb : Nat} {v : Value} {all : List UInt8} {s : RS} {dv : Value} {ds : List (Int × Int)} {av : Value} {xs : List (Int × Fil)} {a b c : Nat} {w0 w w' : World} (h : Pa2 A B B2 M q r eb rb v all s dv ds av xs a b c w0 w) (hb : Below B2 w w') (hr : ROwnF addK (fun k => B2 ≤ k ∧ k < M) B2 104 w' av' xs') :
    Pa2 A B B2 w'.heap.size q r eb rb v all s dv ds av' xs' a b c w0 (w'.setCell ⟨eb, 1, none⟩ av') := by
  obtain ⟨o1, o2, o3, o4, o5, o6, o7⟩ := h.ord
  have hr1 := h.rd.lr
  have hq1 := h.rd.lq
  have hsz := hb.size
  have hw : Wrote (fun k => B2 ≤ k ∨ k = eb) w (w'.setCell ⟨eb, 1, none⟩ av') := ⟨hb.os, hb.tape, hb.output, by simpa using hb.size, fun k hk hn => (heap_setCell_other _ _ _ _ (fun e => hn (.inr e))).trans (hb.block k (by omega))⟩
  refine ⟨h.rd.wrote hw (by omega) (by omega) (fun k h1 h2 _ _ => by omega), (h.out.same (hb.block _ o5)).set 1 _, h.res.same (hw.block _ h.res.lt (by omega)), h.drs.keep fun k hk hx => hw.block k hk (by omega), (hr.mono (F' := fun k => B2 ≤ k ∧ k < w'.heap.size) fun k hk hF _ => ⟨hF.1, hk⟩).keep fun k hk hx => heap_setCell_other _ _ _ _ ?_, fun k e => (hr.lt k e).2, h.bel.trans (hw.below h.bel.size (fun k hk => by omega)), ⟨o1, o2, o3, o4, o5, by omega, by simp⟩⟩
  show k ≠ eb
  rcases hx with e | ⟨e, -⟩
  · have := (hr.lt k e).1; omega
  · omega
theorem Pa2.num {x : Nat} {s2 : RS} {A B B2 M q r eb rb : Nat} {v : Value} {all : List UInt8} {s : RS} {dv : Value} {ds : List (Int × Int)} {av : Value} {xs : List (Int × Fil)} {a b c : Nat} {w0 w : World} (h : Pa2 A B B2 M q r eb rb v all s dv ds av xs a b c w0 w) (hx : numS all s = (x, s2)) : Calls Try.prog 95 #[.pointer (some ⟨q, 0, none⟩)] w fun e w' => e = .returned (.int .u64 (x : Int)) ∧ Pa2 A B B2 M q r eb rb v all s2 dv ds av xs a b c w0 w' ∧ Wrote (fun k => k = r ∨ k = q) w w' := by
  have h1 := vnum_any (s := s) h.rd
  rw [hx] at h1
  exact h1.mono fun _ _ ⟨e, hr, hw⟩ => ⟨e, h.read hr hw, hw⟩
theorem Pa2.fault {f : Nat} {A B B2 M q r eb rb : Nat} {v : Value} {all : List UInt8} {s : RS} {dv : Value} {ds : List (Int × Int)} {av : Value} {xs : List (Int × Fil)} {a b c : Nat} {w0 w : World} (h : Pa2 A B B2 M q r eb rb v all s dv ds av xs a b c w0 w) (hx : faultW s.e s.ve = f) : Calls Try.prog 97 #[.pointer (some ⟨q, 0, none⟩)] w fun e w' => e = .returned (.int .i64 (f : Int)) ∧ Pa2 A B B2 M q r eb rb v all ⟨s.i, s.e, f⟩ dv ds av xs a b c w0 w' ∧ Wrote (fun k => k = r ∨ k = q) w w' := by
  have h1 := vfault_any h.rd
  rw [hx] at h1
  exact h1.mono fun _ _ ⟨e, hr, hw⟩ => ⟨e, h.read (s2 := ⟨s.i, s.e, f⟩) hr hw, hw⟩
theorem Pa2.ab {ab : Nat} {ac : Array Value} {T : TypeId} {A B B2 M q r eb rb : Nat} {v : Value} {all : List UInt8} {s : RS} {dv : Value} {ds : List (Int × Int)} {av : Value} {xs : List (Int × Fil)} {a b c : Nat} {w0 w w' : World} (h : Pa2 A B B2 M q r eb rb v all s dv ds av xs a b c w0 w) (hw : Wrote (fun k => k = r ∨ k = q) w w') (hab : Blk w ab ac T) (hM : M ≤ ab) : Blk w' ab ac T := by
  have h1 := h.ord
  have h2 := h.rd.lr
  have h3 := h.rd.lq
  exact hab.same (hw.block ab hab.lt (by omega))
def ParsePost (r : Edi × Nat) (w : World) (x : Ending) (w' : World) : Prop :=
  Below w.heap.size w w' ∧ ∃ dv av, x = .returned (.tuple #[.agg (ediCells r.1 dv av).toArray, .int .i64 (r.2 : Int)]) ∧ EdiAt (fun k => w.heap.size ≤ k) w' r.1 dv av
theorem u64In_zero : u64In 0 := ⟨by decide, by decide⟩
theorem parsePost_bad {w w' : World} (f : Nat) (hb : Below w.heap.size w w') : ParsePost (zeroE, f) w (.returned (.tuple #[.agg zero5, .int .i64 (f : Int)])) w' :=
  ⟨hb, .slice none 0 0, .slice none 0 0, rfl, ⟨Rw.nil _ _ _, Rw.nil _ _ _, u64In_zero, u64In_zero, u64In_zero⟩⟩
set_option maxRecDepth 100000 in
set_option maxHeartbeats 4000000 in
theorem parse_any (F : Nat → Prop) (pv : Value) (all : List UInt8) (w : World) (h : Bytes F w pv all) (hl : all.length ≤ 1000000000) :
    Calls Try.prog 49 #[pv] w (ParsePost (parseW all) w) := by
  have HNEW := Lib.hid (fun w' (hb : Below w.heap.size w w') => wnew_any F pv all w' (h.below hb) hl)
  obtain ⟨pa, pc, rfl⟩ := h.isSlice
  clear h
  obtain ⟨PW, hPW⟩ : ∃ x, parseW all = x := ⟨_, rfl⟩
  have HPW := Lib.hid hPW
  rw [hPW]
  clear hPW
  obtain ⟨L, hL⟩ : ∃ L, all.length = L := ⟨_, rfl⟩
  rw [hL] at HNEW ⊢
  clear hL hl
  go_enter Try.func49, Try.ntmps49
  go_upto_region 1 with fail
  refine wp_gen fun w1 hw1 => ?_
  have HR1 : Hid (Blk w1 w.heap.size zero5 57) := by rw [hw1]; exact Blk.at_new rfl rfl
  have HB1 : Hid (Below w.heap.size w w1) := by rw [hw1]; exact (Below.refl _ _).alloc (Nat.le_refl _) _
  clear hw1
  obtain ⟨rb, hrb⟩ : ∃ b, w.heap.size = b := ⟨_, rfl⟩
  have HRB : Hid (w.heap.size = rb ∧ rb < w1.heap.size) := ⟨hrb, by rw [← hrb]; exact HR1.out.lt⟩
  rw [hrb] at HR1
  try rw [hrb]
  go_wp2_with fail
  refine Calls.mono (HNEW.out w1 HB1.out) ?_
  rintro _ w2 ⟨r, v, rfl, hwr, hlo, hb⟩
  have HWR := Lib.hid hwr
  have HB2 : Hid (Below w.heap.size w w2) := HB1.out.trans (hb.mono HB1.out.size)
  have HR2 := Lib.hid (HR1.out.below hb HR1.out.lt)
  have HLO : Hid (w1.heap.size ≤ r ∧ r < w2.heap.size) := ⟨hlo, hwr.blk.lt⟩
  clear hwr hb HB1 HR1 HNEW hlo
  go_wp2_with fail
  refine calls_gen fun w3 hw3 => ?_
  have hb3 : Below w2.heap.size w2 w3 := by rw [hw3]; exact (Below.refl _ _).alloc (Nat.le_refl _) _
  have hs3 : w3.heap.size = w2.heap.size + 1 := by rw [hw3]; simp
  have HQ3 : Hid (Blk w3 w2.heap.size #[.pointer (some ⟨r, 0, none⟩), .int .i64 ((0 : Nat) : Int)] 128) := by rw [hw3]; exact Blk.at_new rfl rfl
  have HD3 : Hid (RD w1.heap.size w3.heap.size w2.heap.size r v all 0 0 0 w3) := by
    have hlo := HLO.out
    have h1 := HWR.out.wrote (S := fun _ => False) (.of_below hb3) (fun h => h) (fun _ _ h => h)
    refine ⟨?_, HQ3.out, by omega, by omega, by have := HRB.out; omega, by decide⟩
    have h2 := (HWR.out.mono (F' := fun k => (w1.heap.size ≤ k ∧ k < w3.heap.size) ∧ k ≠ r ∧ k ≠ w2.heap.size) (fun k hk hF => ⟨⟨hF.1, by omega⟩, hF.2, Nat.ne_of_lt hk⟩) (fun x => x.2.1 rfl))
    exact h2.wrote (S := fun _ => False) (.of_below hb3) (fun h => h) (fun _ _ h => h)
  have HB3 : Hid (Below w.heap.size w w3) := HB2.out.trans (hb3.mono HB2.out.size)
  have HR3 := Lib.hid (HR2.out.below hb3 HR2.out.lt)
  have HRA : Hid (w.heap.size = rb ∧ rb < w1.heap.size ∧ w1.heap.size ≤ w3.heap.size) := ⟨HRB.out.1, HRB.out.2, by have := HLO.out; omega⟩
  clear hw3 hb3 HWR HB2 HR2 HQ3 HLO HRB
  generalize hA : w1.heap.size = A at *
  generalize hQ : w2.heap.size = q at *
  clear hA hQ w1 w2
  obtain ⟨B, hBB⟩ : ∃ B, w3.heap.size = B := ⟨_, rfl⟩
  have HBB := Lib.hid hBB
  rw [hBB] at HD3 HRA
  clear hBB hs3
  obtain ⟨t1, ht1⟩ : ∃ t, numS all ⟨0, 0, 0⟩ = t := ⟨_, rfl⟩
  obtain ⟨a, s1⟩ := t1
  have HN1 := Lib.hid (vnum_any (s := ⟨0, 0, 0⟩) HD3.out)
  have HT1 := Lib.hid ht1
  rw [ht1] at HN1
  clear ht1
  refine Calls.mono HN1.out ?_
  rintro _ w4 ⟨rfl, hr4, hw4⟩
  have HD4 := Lib.hid hr4
  have HW4 := Lib.hid hw4
  clear hr4 hw4 HN1 HD3
  go_wp2_with fail
  obtain ⟨t2, ht2⟩ : ∃ t, numS all s1 = t := ⟨_, rfl⟩
  obtain ⟨b, s2⟩ := t2
  have HN2 := Lib.hid (vnum_any (s := s1) HD4.out)
  have HT2 := Lib.hid ht2
  rw [ht2] at HN2
  clear ht2
  refine Calls.mono HN2.out ?_
  rintro _ w5 ⟨rfl, hr5, hw5⟩
  have HD5 := Lib.hid hr5
  have HW5 := Lib.hid (HW4.out.trans hw5)
  clear hr5 hw5 HN2 HD4 HW4
  go_wp2_with fail
  obtain ⟨t3, ht3⟩ : ∃ t, numS all s2 = t := ⟨_, rfl⟩
  obtain ⟨c, s3⟩ := t3
  have HN3 := Lib.hid (vnum_any (s := s2) HD5.out)
  have HT3 := Lib.hid ht3
  rw [ht3] at HN3
  clear ht3
  refine Calls.mono HN3.out ?_
  rintro _ w6 ⟨rfl, hr6, hw6⟩
  have HD6 := Lib.hid hr6
  have HW6 := Lib.hid (HW5.out.trans hw6)
  clear hr6 hw6 HN3 HD5 HW5
  simp only [] at *
  go_wp2_with fail
  refine calls_gen fun w7 hw7 => ?_
  have HP7 : Hid (Pa1 A B w7.heap.size q r w6.heap.size rb v all s3 (.slice none 0 0) [] a b c w w7) := by
    have hb7 : Below w6.heap.size w6 w7 := by rw [hw7]; exact (Below.refl _ _).alloc (Nat.le_refl _) _
    have hs7 : w7.heap.size = w6.heap.size + 1 := by rw [hw7]; simp
    have hlr := HD6.out.lr
    have hlq := HD6.out.lq
    have hra := HRA.out
    have hb3 := HBB.out
    have hs3 := HW6.out.size
    refine ⟨HD6.out.below hb7, by rw [hw7]; exact Blk.at_new rfl rfl, (HR3.out.same (HW6.out.block _ HR3.out.lt (by omega))).below hb7 (by omega), ROwnF.nil _ _ _ _ _, (HB3.out.trans (HW6.out.below (by omega) (fun k hk => by omega))).trans (hb7.mono (by omega)), by omega⟩
  clear hw7 HD6 HW6 HR3 HB3 HRA HBB
  generalize hEB : w6.heap.size = eb at *
  generalize hB1 : w7.heap.size = B1 at *
  clear hEB hB1 w6 w5 w4 w3
  obtain ⟨t4, ht4⟩ : ∃ t, countS all s3 = t := ⟨_, rfl⟩
  obtain ⟨n, s4⟩ := t4
  have HN4 := Lib.hid (vcount_any (s := s3) HP7.out.rd)
  have HT4 := Lib.hid ht4
  have hnle := countS_le all s3
  rw [ht4] at HN4 hnle
  have HNL : Hid (n ≤ 10000) := hnle
  clear ht4 hnle
  refine Calls.mono HN4.out ?_
  rintro _ w8 ⟨rfl, hr8, hw8⟩
  have HP8 := Lib.hid (HP7.out.read hr8 hw8)
  clear hr8 hw8 HN4 HP7
  simp only [] at *
  go_upto_block 0 with fail
  go_cut [6] (fun _x wx => Hid (∃ s' dv' ds', dropsS all n s4 [] = (ds', s') ∧ Pa1 A B B1 q r eb rb v all s' dv' ds' a b c w wx))
  case first =>
    go_wp2_with fail
    go_loopw [6] (fun nv wr => ∃ (k : Nat) (s : RS) (dv : Value) (ds : List (Int × Int)), nv = .int .i64 (k : Int) ∧ k ≤ 10000 ∧ Hid (dropsS all n s4 [] = dropsS all k s ds) ∧ Hid (ds.length + k ≤ 10000) ∧ Hid (Pa1 A B B1 q r eb rb v all s dv ds a b c w wr)) (fun nv _ => (intOf nv).toNat)
    case atStart => exact ⟨n, s4, _, [], rfl, HNL.out, rfl, by show _ ≤ _; simpa using HNL.out, HP8.out⟩
    case round =>
      obtain ⟨k, s, dv, ds, rfl, hk, HS, HL, HP⟩ := hrel
      clear HP8
      by_cases hk0 : k = 0
      · subst hk0
        go_wp2_with fail
        go_meet
        exact ⟨s, dv, ds, HS.out, HP.out⟩
      · obtain ⟨j, rfl⟩ : ∃ j, k = j + 1 := ⟨k - 1, by omega⟩
        have t1 : (0 : Int) < ((j + 1 : Nat) : Int) := by omega
        go_wp2_with fail
        refine Calls.mono (vfault_any HP.out.rd) ?_
        rintro _ w9 ⟨rfl, hr9, hw9⟩
        have HP9 : Hid (Pa1 A B B1 q r eb rb v all ⟨s.i, s.e, faultW s.e s.ve⟩ dv ds a b c w w9) := HP.out.read (s2 := ⟨s.i, s.e, faultW s.e s.ve⟩) hr9 hw9
        clear hr9 hw9 HP
        have HS2 : Hid (dropsS all n s4 [] = if faultW s.e s.ve ≠ 0 then (ds, ⟨s.i, s.e, faultW s.e s.ve⟩) else dropsS all j (numS all (numS all ⟨s.i, s.e, faultW s.e s.ve⟩).2).2 (ds ++ [(i64W (numS all ⟨s.i, s.e, faultW s.e s.ve⟩).1, ((numS all (numS all ⟨s.i, s.e, faultW s.e s.ve⟩).2).1 : Int))])) := by
          show _ = _
          rw [HS.out, dropsS]
        obtain ⟨f, hf⟩ : ∃ f, faultW s.e s.ve = f := ⟨_, rfl⟩
        rw [hf] at HP9 HS2 ⊢
        clear hf HS
        by_cases hf0 : f = 0
        · subst hf0
          have HP0 : Hid (Pa1 A B B1 q r eb rb v all ⟨s.i, s.e, 0⟩ dv ds a b c w w9) := HP9.out
          clear HP9
          obtain ⟨s0, hs0⟩ : ∃ x : RS, ⟨s.i, s.e, 0⟩ = x := ⟨_, rfl⟩
          rw [hs0] at HS2 HP0
          clear hs0
          obtain ⟨t5, ht5⟩ : ∃ t, numS all s0 = t := ⟨_, rfl⟩
          obtain ⟨l, s5⟩ := t5
          obtain ⟨t6, ht6⟩ : ∃ t, numS all s5 = t := ⟨_, rfl⟩
          obtain ⟨m, s6⟩ := t6
          have hml := numS_lt all s5
          have HS3 : Hid (dropsS all n s4 [] = dropsS all j s6 (ds ++ [(i64W l, (m : Int))])) := by
            show _ = _
            rw [HS2.out, if_neg (by decide), ht5, ht6]
          have HNA : Hid (∀ W, RD A B q r v all s0.i s0.e s0.ve W → Calls Try.prog 95 #[.pointer (some ⟨q, 0, none⟩)] W fun x w' => x = .returned (.int .u64 (l : Int)) ∧ RD A B q r v all s5.i s5.e s5.ve w' ∧ Wrote (fun k => k = r ∨ k = q) W w') := fun W h => by
            have := vnum_any (s := s0) h
            rw [ht5] at this
            exact this
          have HNB : Hid (∀ W, RD A B q r v all s5.i s5.e s5.ve W → Calls Try.prog 95 #[.pointer (some ⟨q, 0, none⟩)] W fun x w' => x = .returned (.int .u64 (m : Int)) ∧ RD A B q r v all s6.i s6.e s6.ve w' ∧ Wrote (fun k => k = r ∨ k = q) W w') := fun W h => by
            have := vnum_any (s := s5) h
            rw [ht6] at this
            exact this
          rw [ht6] at hml
          have HML : Hid (m < 18446744073709551616) := hml
          clear hml HS2 ht5 ht6
          obtain ⟨da, dn, dc, rfl⟩ : ∃ a n c, dv = .slice a n c := by obtain ⟨a, c, e⟩ := HP0.out.row.isSlice; exact ⟨a, _, c, e⟩
          go_upto_region 6 with fail
          have D0 : Below w9.heap.size w9 w9.drew := below_drew (Below.refl _ _)
          have hHeld : w9.drew.cell? ⟨eb, 0, none⟩ = some (.slice da dn dc) := HP0.out.out.cell rfl
          refine wp_region_last (S := fun W => W.cell? ⟨eb, 0, none⟩ = some (.slice da dn dc)) (n := 11) (l := ?lT) (o := ?oT) rfl ?hlT ?hoT ?hnT ?hbT ?hgT ?hT
          case hlT => simp only [List.dropLast]; rfl
          case hoT => rfl
          case hnT => rfl
          case hbT => kernel_rfl
          case hgT => rfl
          skip
          refine wpAnyH_take (i := 0) (oi := ?oD_1_0) (v := ?vD_1_0) ?eD_1_0 (by kernel_rfl) (by kernel_rfl) (by kernel_rfl) ?qD_1_0 (Or.inl ⟨?wD_1_0, ?yD_1_0⟩) (by assumption) ?rD_1_0
          case eD_1_0 => simp only [List.getElem?_toArray, List.getElem?_cons_zero]; rfl
          case wD_1_0 => rfl
          case qD_1_0 => exact fun _ _ _ h => h
          case yD_1_0 => (intro w hSw; (try dsimp only at hSw); go_simp; try with_reducible rfl)
          try simp only [Act.put, List.setIfInBounds_toArray, List.set_cons_zero, List.set_cons_succ]
          refine wpAnyH_take (i := 1) (oi := ?oD_2_1) (v := ?vD_2_1) ?eD_2_1 (by kernel_rfl) (by kernel_rfl) (by kernel_rfl) ?qD_2_1 (Or.inl ⟨?wD_2_1, ?yD_2_1⟩) (by assumption) ?rD_2_1
          case eD_2_1 => simp only [List.getElem?_toArray, List.getElem?_cons_succ, List.getElem?_cons_zero]; rfl
          case wD_2_1 => rfl
          case qD_2_1 => exact fun _ _ _ h => h
          case yD_2_1 => (intro w hSw; (try dsimp only at hSw); go_simp; try with_reducible rfl)
          try simp only [Act.put, List.setIfInBounds_toArray, List.set_cons_zero, List.set_cons_succ]
          refine wpAnyH_take (i := 2) (oi := ?oD_3_2) (v := ?vD_3_2) ?eD_3_2 (by kernel_rfl) (by kernel_rfl) (by kernel_rfl) ?qD_3_2 (Or.inl ⟨?wD_3_2, ?yD_3_2⟩) (by assumption) ?rD_3_2
          case eD_3_2 => simp only [List.getElem?_toArray, List.getElem?_cons_succ, List.getElem?_cons_zero]; rfl
          case wD_3_2 => rfl
          case qD_3_2 => exact fun _ _ _ h => h
          case yD_3_2 => (intro w hSw; (try dsimp only at hSw); go_simp; try with_reducible rfl)
          try simp only [Act.put, List.setIfInBounds_toArray, List.set_cons_zero, List.set_cons_succ]
          refine wpAnyH_take (i := 5) (oi := ?oD_4_5) (v := ?vD_4_5) ?eD_4_5 (by kernel_rfl) (by kernel_rfl) (by kernel_rfl) ?qD_4_5 (Or.inl ⟨?wD_4_5, ?yD_4_5⟩) (by assumption) ?rD_4_5
          case eD_4_5 => simp only [List.getElem?_toArray, List.getElem?_cons_succ, List.getElem?_cons_zero]; rfl
          case wD_4_5 => rfl
          case qD_4_5 => exact fun _ _ _ h => h
          case yD_4_5 => (intro w hSw; (try dsimp only at hSw); go_simp; try with_reducible rfl)
          try simp only [Act.put, List.setIfInBounds_toArray, List.set_cons_zero, List.set_cons_succ]
          have hOld := hHeld
          clear hHeld
          refine wpAnyH_ready (rs := [3]) (by kernel_rfl) (by simp) ?_
          refine AllReadyH.cons (o := ?oD_5_3) ?eD_5_3 (fun K hK => ?_) AllReadyH.nil
          case eD_5_3 => simp only [List.getElem?_toArray, List.getElem?_cons_succ, List.getElem?_cons_zero]; rfl
          go_simp
          (go_at_call 95; refine Calls.mono (HNA.out _ (HP0.out.below (by repeat (first | assumption | exact Below.refl _ _ | with_reducible refine below_drew ?_ | with_reducible refine below_al ?_ _))).rd) ?_; rintro _ x1 ⟨rfl, hr1, hw1⟩; have HPA := Lib.hid ((HP0.out.below (by repeat (first | assumption | exact Below.refl _ _ | with_reducible refine below_drew ?_ | with_reducible refine below_al ?_ _))).read hr1 hw1))
          try go_wp2_with fail
          refine hK.out _ _ (HPA.out.out.cell rfl) (fun hHeld => ?_)
          clear hK hOld
          try simp only [Act.put, List.setIfInBounds_toArray, List.set_cons_zero, List.set_cons_succ]
          refine wpAnyH_take (i := 4) (oi := ?oD_6_4) (v := ?vD_6_4) ?eD_6_4 (by kernel_rfl) (by kernel_rfl) (by kernel_rfl) ?qD_6_4 (Or.inl ⟨?wD_6_4, ?yD_6_4⟩) (by assumption) ?rD_6_4
          case eD_6_4 => simp only [List.getElem?_toArray, List.getElem?_cons_succ, List.getElem?_cons_zero]; rfl
          case wD_6_4 => rfl
          case qD_6_4 => exact fun _ _ _ h => h
          case yD_6_4 => (intro w hSw; (try dsimp only at hSw); go_simp; try with_reducible rfl)
          try simp only [Act.put, List.setIfInBounds_toArray, List.set_cons_zero, List.set_cons_succ]
          have hOld := hHeld
          clear hHeld
          refine wpAnyH_ready (rs := [6]) (by kernel_rfl) (by simp) ?_
          refine AllReadyH.cons (o := ?oD_7_6) ?eD_7_6 (fun K hK => ?_) AllReadyH.nil
          case eD_7_6 => simp only [List.getElem?_toArray, List.getElem?_cons_succ, List.getElem?_cons_zero]; rfl
          go_simp
          (go_at_call 95; refine Calls.mono (HNB.out _ (HPA.out.below (by repeat (first | assumption | exact Below.refl _ _ | with_reducible refine below_drew ?_ | with_reducible refine below_al ?_ _))).rd) ?_; rintro _ x2 ⟨rfl, hr2, hw2⟩; have HPB := Lib.hid ((HPA.out.below (by repeat (first | assumption | exact Below.refl _ _ | with_reducible refine below_drew ?_ | with_reducible refine below_al ?_ _))).read hr2 hw2))
          try go_wp2_with fail
          refine hK.out _ _ (HPB.out.out.cell rfl) (fun hHeld => ?_)
          clear hK hOld
          try simp only [Act.put, List.setIfInBounds_toArray, List.set_cons_zero, List.set_cons_succ]
          refine wpAnyH_take (i := 7) (oi := ?oD_8_7) (v := ?vD_8_7) ?eD_8_7 (by kernel_rfl) (by kernel_rfl) (by kernel_rfl) ?qD_8_7 (Or.inl ⟨?wD_8_7, ?yD_8_7⟩) (by assumption) ?rD_8_7
          case eD_8_7 => simp only [List.getElem?_toArray, List.getElem?_cons_succ, List.getElem?_cons_zero]; rfl
          case wD_8_7 => rfl
          case qD_8_7 => exact fun _ _ _ h => h
          case yD_8_7 => (intro w hSw; (try dsimp only at hSw); go_simp; try with_reducible rfl)
          try simp only [Act.put, List.setIfInBounds_toArray, List.set_cons_zero, List.set_cons_succ]
          have hOld := hHeld
          clear hHeld
          refine wpAnyH_ready (rs := [8]) (by kernel_rfl) (by simp) ?_
          refine AllReadyH.cons (o := ?oD_9_8) ?eD_9_8 (fun K hK => ?_) AllReadyH.nil
          case eD_9_8 => simp only [List.getElem?_toArray, List.getElem?_cons_succ, List.getElem?_cons_zero]; rfl
          go_simp
          skip
          try go_wp2_with fail
          refine hK.out _ _ ((HPB.out.below (by repeat (first | assumption | exact Below.refl _ _ | with_reducible refine below_drew ?_ | with_reducible refine below_al ?_ _))).out.cell rfl) (fun hHeld => ?_)
          clear hK hOld
          try simp only [Act.put, List.setIfInBounds_toArray, List.set_cons_zero, List.set_cons_succ]
          have hOld := hHeld
          clear hHeld
          refine wpAnyH_ready (rs := [9]) (by kernel_rfl) (by simp) ?_
          refine AllReadyH.cons (o := ?oD_10_9) ?eD_10_9 (fun K hK => ?_) AllReadyH.nil
          case eD_10_9 => simp only [List.getElem?_toArray, List.getElem?_cons_succ, List.getElem?_cons_zero]; rfl
          (refine step_append_elG (K := dropK) (by rfl) 54 100 _ 16 Try.underlying54 info_dropO (by rfl) (fun _ => False) B1 _ ds _ 100 #[.int .i64 (i64W l), .int .u64 (m : Int)] (i64W l, (m : Int)) (.tmp 34) (.tmp 41) (by rfl) (by rfl) (by rfl) (HPB.out.below (by repeat (first | assumption | exact Below.refl _ _ | with_reducible refine below_drew ?_ | with_reducible refine below_al ?_ _))).row (Blk.at_new rfl rfl) ⟨rfl, i64W_in l, ⟨by show (0 : Int) ≤ (m : Int); omega, by show (m : Int) < _; have := HML.out; omega⟩⟩ (by have := HL.out; omega) (by decide) (HPB.out.below (by repeat (first | assumption | exact Below.refl _ _ | with_reducible refine below_drew ?_ | with_reducible refine below_al ?_ _))).ord.2.2.2.2.2 ?_; intro v4 x4 h41 h42; have D4 : Below B1 x2 x4 := ((show Below x2.heap.size x2 _ from (by repeat (first | assumption | exact Below.refl _ _ | with_reducible refine below_drew ?_ | with_reducible refine below_al ?_ _))).mono HPB.out.ord.2.2.2.2.2).trans (h42.below (HPB.out.below (by repeat (first | assumption | exact Below.refl _ _ | with_reducible refine below_drew ?_ | with_reducible refine below_al ?_ _))).ord.2.2.2.2.2 fun j e0 => (HPB.out.row.lt j e0).1); obtain ⟨q6, n6, e6⟩ := h41.isSlice; obtain ⟨nL, hnL⟩ : ∃ x, (ds ++ [(i64W l, (m : Int))]).length = x := ⟨_, rfl⟩; rw [hnL] at e6; subst e6)
          try go_wp2_with fail
          refine hK.out _ _ ((HPB.out.out.same (D4.block _ HPB.out.ord.2.2.2.2.1)).cell rfl) (fun hHeld => ?_)
          clear hK hOld
          try simp only [Act.put, List.setIfInBounds_toArray, List.set_cons_zero, List.set_cons_succ]
          refine wpAnyH_take (i := 10) (oi := ?oD_11_10) (v := ?vD_11_10) ?eD_11_10 (by kernel_rfl) (by kernel_rfl) (by kernel_rfl) ?qD_11_10 (Or.inl ⟨?wD_11_10, ?yD_11_10⟩) (by assumption) ?rD_11_10
          case eD_11_10 => simp only [List.getElem?_toArray, List.getElem?_cons_succ, List.getElem?_cons_zero]; rfl
          case wD_11_10 => rfl
          case qD_11_10 => exact fun _ _ _ h => h
          case yD_11_10 => (intro w hSw; (try dsimp only at hSw); go_simp; try with_reducible rfl)
          try simp only [Act.put, List.setIfInBounds_toArray, List.set_cons_zero, List.set_cons_succ]
          refine wpAnyH_done (by kernel_rfl) ?_ _
          have r0 : x4.cell? ⟨eb, 0, none⟩ = some (.slice da dn dc) := hHeld
          have f0 := (HPB.out.out.same (D4.block _ HPB.out.ord.2.2.2.2.1)).free 0
          have HP8 := Lib.hid (HPB.out.grow D4 h41)
          have HL3 : Hid ((ds ++ [(i64W l, (m : Int))]).length + j ≤ 10000) := by show _ ≤ _; rw [List.length_append]; have := HL.out; simp only [List.length_singleton]; omega
          clear h41 h42 D0 D4 hHeld HPA HPB HP0 HNA HNB hr1 hr2 hw1 hw2
          refine thenLast_of fun K hK => ?_
          go_wp2_with fail
          refine hK.out _ _ ?_
          clear hK r0 f0
          go_wp2_with fail
          go_roundw
          · exact ⟨j, s6, _, _, by first | rfl | go_num, by omega, HS3.out, HL3.out, HP8.out⟩
          · simp only [intOf]; omega
        · have t2 : ((f : Int) == 0) = false := by rw [beq_eq_false_iff_ne]; omega
          have HS3 : Hid (dropsS all n s4 [] = (ds, ⟨s.i, s.e, f⟩)) := by
            show _ = _
            rw [HS2.out, if_pos hf0]
          go_wp2_with fail
          go_meet
          exact ⟨_, dv, ds, HS3.out, HP9.out⟩
  case rest =>
    obtain ⟨s5, dv, ds, hd5, hp5⟩ := hcut.out
    have HT5 := Lib.hid hd5
    have HP5 := Lib.hid (Pa2.of hp5)
    clear hcut hd5 hp5 HP8
    generalize hB2 : wc.heap.size = B2 at *
    clear hB2
    go_wp2_with fail
    obtain ⟨t6, ht6⟩ : ∃ t, countS all s5 = t := ⟨_, rfl⟩
    obtain ⟨m, s6⟩ := t6
    have HN6 := Lib.hid (vcount_any (s := s5) HP5.out.rd)
    have HT6 := Lib.hid ht6
    have hmle := countS_le all s5
    rw [ht6] at HN6 hmle
    have HML : Hid (m ≤ 10000) := hmle
    clear ht6 hmle
    refine Calls.mono HN6.out ?_
    rintro _ w8 ⟨rfl, hr8, hw8⟩
    have HP8 := Lib.hid (HP5.out.read hr8 hw8)
    clear hr8 hw8 HN6 HP5
    simp only [] at *
    go_upto_block 2 with fail
    go_cut [7] (fun _x wx => Hid (∃ s' av' xs', addsS all m s6 [] = (xs', s') ∧ ∃ M, Pa2 A B B2 M q r eb rb v all s' dv ds av' xs' a b c w wx))
    case first =>
      go_wp2_with fail
      go_loopw [7] (fun nv wr => ∃ (k : Nat) (s : RS) (av : Value) (xs : List (Int × Fil)), nv = .int .i64 (k : Int) ∧ k ≤ 10000 ∧ Hid (addsS all m s6 [] = addsS all k s xs) ∧ Hid (xs.length + k ≤ 10000) ∧ Hid (∃ M, Pa2 A B B2 M q r eb rb v all s dv ds av xs a b c w wr)) (fun nv _ => (intOf nv).toNat)
      case atStart => exact ⟨m, s6, _, [], rfl, HML.out, rfl, by show _ ≤ _; simpa using HML.out, _, HP8.out⟩
      case round =>
        obtain ⟨k, s, av, xs, rfl, hk, HS, HL, HPE⟩ := hrel
        obtain ⟨M0, hpe⟩ := HPE.out
        obtain ⟨aa, an, ac, rfl⟩ : ∃ a n c, av = .slice a n c := by obtain ⟨a, c, e⟩ := hpe.row.isSlice; exact ⟨a, _, c, e⟩
        have HP := Lib.hid hpe.top
        clear HP8 HPE hpe
        by_cases hk0 : k = 0
        · subst hk0
          go_wp2_with fail
          go_meet
          exact ⟨s, _, xs, HS.out, _, HP.out⟩
        · obtain ⟨j, rfl⟩ : ∃ j, k = j + 1 := ⟨k - 1, by omega⟩
          have t1 : (0 : Int) < ((j + 1 : Nat) : Int) := by omega
          have HS2 : Hid (addsS all m s6 [] = if faultW s.e s.ve ≠ 0 then (xs, ⟨s.i, s.e, faultW s.e s.ve⟩) else addsS all j (addS all ⟨s.i, s.e, faultW s.e s.ve⟩).2 (xs ++ [(addS all ⟨s.i, s.e, faultW s.e s.ve⟩).1])) := by
            show _ = _
            rw [HS.out, addsS]
          clear HS
          obtain ⟨f, hf⟩ : ∃ f, faultW s.e s.ve = f := ⟨_, rfl⟩
          rw [hf] at HS2
          go_wp2_with fail
          refine Calls.mono (HP.out.fault hf) ?_
          rintro _ w9 ⟨rfl, hp9, hw9⟩
          have HP9 := Lib.hid hp9.top
          clear hp9 hw9 hf HP
          by_cases hf0 : f = 0
          · subst hf0
            obtain ⟨s0, hs0⟩ : ∃ x : RS, ⟨s.i, s.e, 0⟩ = x := ⟨_, rfl⟩
            rw [hs0] at HS2 HP9
            clear hs0
            obtain ⟨t1', h1⟩ : ∃ t, numS all s0 = t := ⟨_, rfl⟩
            obtain ⟨lv, z1⟩ := t1'
            obtain ⟨t2', h2⟩ : ∃ t, numS all z1 = t := ⟨_, rfl⟩
            obtain ⟨n1, z2⟩ := t2'
            obtain ⟨t3', h3⟩ : ∃ t, numS all z2 = t := ⟨_, rfl⟩
            obtain ⟨n2, z3⟩ := t3'
            obtain ⟨t4', h4⟩ : ∃ t, numS all z3 = t := ⟨_, rfl⟩
            obtain ⟨n3, z4⟩ := t4'
            obtain ⟨t5', h5⟩ : ∃ t, numS all z4 = t := ⟨_, rfl⟩
            obtain ⟨n4, z5⟩ := t5'
            obtain ⟨f5, hf5⟩ : ∃ f, faultW z5.e z5.ve = f := ⟨_, rfl⟩
            have hl2 := numS_lt all z1
            have hl5 := numS_lt all z4
            rw [h2] at hl2
            rw [h5] at hl5
            have HLN : Hid (n1 < 18446744073709551616 ∧ n4 < 18446744073709551616) := ⟨hl2, hl5⟩
            have HAS : Hid (addS all s0 = if f5 = 0 then ((i64W lv, ⟨(n1 : Int), i64W n2, (pieceW all z5.i z5.e).1, (pieceW all (pieceW all z5.i z5.e).2.1 (pieceW all z5.i z5.e).2.2).1, i64W n3, (n4 : Int)⟩), ⟨(pieceW all (pieceW all z5.i z5.e).2.1 (pieceW all z5.i z5.e).2.2).2.1, (pieceW all (pieceW all z5.i z5.e).2.1 (pieceW all z5.i z5.e).2.2).2.2, f5⟩) else ((i64W lv, (⟨(n1 : Int), i64W n2, [], [], i64W n3, (n4 : Int)⟩ : Fil)), ⟨z5.i, z5.e, f5⟩)) := by
              show _ = _
              unfold addS
              simp only [h1, h2, h3, h4, h5, hf5]
            have HS3 : Hid (addsS all m s6 [] = addsS all j (addS all s0).2 (xs ++ [(addS all s0).1])) := by
              show _ = _
              rw [HS2.out, if_neg (by decide)]
            clear HS2 hl2 hl5
            go_wp2_with fail
            refine Calls.mono (HP9.out.num h1) ?_
            rintro _ w10 ⟨rfl, hp, hw⟩
            have HP10 := Lib.hid hp.top
            clear hp hw HP9
            go_wp2_with fail
            refine calls_gen fun w11 hw11 => ?_
            have hb11 : Below w10.heap.size w10 w11 := by rw [hw11]; exact (Below.refl _ _).alloc (Nat.le_refl _) _
            have HA11 : Hid (Blk w11 w10.heap.size #[.int .i64 (i64W lv), .int .u64 0, .int .i64 0, .slice none 0 0, .slice none 0 0, .int .i64 0, .int .u64 0] 104) := by rw [hw11, i64W_w64]; exact Blk.at_new rfl rfl
            have HP11 := Lib.hid (HP10.out.below hb11)
            clear hw11 hb11 HP10
            generalize hab : w10.heap.size = ab at *
            clear hab w10
            refine Calls.mono (HP11.out.num h2) ?_
            rintro _ w12 ⟨rfl, hp, hw⟩
            have HA12 := Lib.hid (HP11.out.ab hw HA11.out (Nat.le_refl _))
            have HP12 := Lib.hid hp
            clear hp hw HP11 HA11
            go_wp2_with fail
            refine Calls.mono (HP12.out.num h3) ?_
            rintro _ w13 ⟨rfl, hp, hw⟩
            have HA13 := Lib.hid (HP12.out.ab hw HA12.out (Nat.le_refl _))
            have HP13 := Lib.hid hp
            clear hp hw HP12 HA12
            go_wp2_with fail
            refine Calls.mono (HP13.out.num h4) ?_
            rintro _ w14 ⟨rfl, hp, hw⟩
            have HA14 := Lib.hid (HP13.out.ab hw HA13.out (Nat.le_refl _))
            have HP14 := Lib.hid hp
            clear hp hw HP13 HA13
            go_wp2_with fail
            refine Calls.mono (HP14.out.num h5) ?_
            rintro _ w15 ⟨rfl, hp, hw⟩
            have HA15 := Lib.hid (HP14.out.ab hw HA14.out (Nat.le_refl _))
            have HP15 := Lib.hid hp
            clear hp hw HP14 HA14 h1 h2 h3 h4 h5
            have k1 : w15.cell? ⟨ab, 1, none⟩ = some (.int .u64 0) := HA15.out.cell rfl
            have k2 : w15.cell? ⟨ab, 2, none⟩ = some (.int .i64 0) := HA15.out.cell rfl
            have k3 : w15.cell? ⟨ab, 3, none⟩ = some (.slice none 0 0) := HA15.out.cell rfl
            have k4 : w15.cell? ⟨ab, 4, none⟩ = some (.slice none 0 0) := HA15.out.cell rfl
            have k5 : w15.cell? ⟨ab, 5, none⟩ = some (.int .i64 0) := HA15.out.cell rfl
            have k6 : w15.cell? ⟨ab, 6, none⟩ = some (.int .u64 0) := HA15.out.cell rfl
            have g1 := HA15.out.free 1
            have g2 := HA15.out.free 2
            have g3 := HA15.out.free 3
            have g4 := HA15.out.free 4
            have g5 := HA15.out.free 5
            have g6 := HA15.out.free 6
            go_wp2_with fail
            refine calls_gen fun w16 hw16 => ?_
            have HA16 : Hid (Blk w16 ab (addCells (i64W lv) ⟨(n1 : Int), i64W n2, [], [], i64W n3, (n4 : Int)⟩ (.slice none 0 0) (.slice none 0 0)).toArray 104) := by
              rw [hw16, i64W_w64, i64W_w64]
              exact (((((HA15.out.set 1 _).set 2 _).set 3 _).set 4 _).set 5 _).set 6 _
            have HP16 : Hid (Pa2 A B B2 ab q r eb rb v all z5 dv ds (.slice aa an ac) xs a b c w w16) := by
              refine HP15.out.cellAt ab ?_ (Nat.le_refl _)
              rw [hw16]
              exact ((((((Wrote.refl (· = ab) _).setCell ⟨ab, 1, none⟩ _ (.inl rfl)).setCell ⟨ab, 2, none⟩ _ (.inl rfl)).setCell ⟨ab, 3, none⟩ _ (.inl rfl)).setCell ⟨ab, 4, none⟩ _ (.inl rfl)).setCell ⟨ab, 5, none⟩ _ (.inl rfl)).setCell ⟨ab, 6, none⟩ _ (.inl rfl)
            clear hw16 k1 k2 k3 k4 k5 k6 g1 g2 g3 g4 g5 g6 HP15 HA15
            refine Calls.mono (HP16.out.fault hf5) ?_
            rintro _ w17 ⟨rfl, hp, hw⟩
            have HA17 := Lib.hid (HP16.out.ab hw HA16.out (Nat.le_refl _))
            have HP17 := Lib.hid hp
            clear hp hw HP16 HA16 hf5
            by_cases h50 : f5 = 0
            · subst h50
              obtain ⟨p1, hp1⟩ : ∃ p, pieceW all z5.i z5.e = p := ⟨_, rfl⟩
              obtain ⟨b1, i1, e1'⟩ := p1
              obtain ⟨p2, hp2⟩ : ∃ p, pieceW all i1 e1' = p := ⟨_, rfl⟩
              obtain ⟨b2, i2, e2'⟩ := p2
              have HS5 : Hid (addsS all m s6 [] = addsS all j ⟨i2, e2', 0⟩ (xs ++ [(i64W lv, (⟨(n1 : Int), i64W n2, b1, b2, i64W n3, (n4 : Int)⟩ : Fil))])) := by
                show _ = _
                rw [HS3.out, HAS.out, if_pos rfl, hp1]
                simp only []
                rw [hp2]
              clear HS3 HAS
              have q0 := HP17.out.rd.q0
              have HPC := Lib.hid (rpiece_any HP17.out.rd.wr)
              simp only [hp1] at HPC
              go_wp2_with fail
              clear q0
              refine Calls.mono HPC.out ?_
              rintro _ w18 ⟨u1, rfl, ho, hr, hw⟩
              have HP18 : Hid (Pa2 A B B2 ab q r eb rb v all ⟨i1, e1', 0⟩ dv ds (.slice aa an ac) xs a b c w w18) := HP17.out.wire hr hw
              have HA18 := Lib.hid (HP17.out.ab (⟨hw.os, hw.tape, hw.output, hw.size, fun k hk hn => hw.block k hk (fun e => hn (.inl e))⟩ : Wrote (fun k => k = r ∨ k = q) _ _) HA17.out (Nat.le_refl _))
              have HB18 : Hid (Bytes (fun k => ab < k) w18 u1 b1) := ho.bytesFrom.mono fun k _ hF => Nat.lt_of_lt_of_le HA17.out.lt hF
              obtain ⟨ua, un, uc, rfl⟩ := ho.isSlice
              clear ho hr hw HPC HP17 HA17 hp1
              have k3 : w18.cell? ⟨ab, 3, none⟩ = some (.slice none 0 0) := HA18.out.cell rfl
              have g3 := HA18.out.free 3
              have q0 := HP18.out.rd.q0
              have HQ0 : Hid (∀ W, Wrote (· = ab) w18 W → W.cell? ⟨q, 0, none⟩ = some (.pointer (some ⟨r, 0, none⟩))) := fun W hW => (HP18.out.cellAt ab hW (Nat.le_refl _)).rd.q0
              go_wp2_with fail
              refine calls_gen fun w19 hw19 => ?_
              have hww : Wrote (· = ab) w18 w19 := by rw [hw19]; exact (Wrote.refl (· = ab) _).setCell ⟨ab, 3, none⟩ _ (.inl rfl)
              have HA19 : Hid (Blk w19 ab (addCells (i64W lv) ⟨(n1 : Int), i64W n2, [], [], i64W n3, (n4 : Int)⟩ (.slice ua un uc) (.slice none 0 0)).toArray 104) := by rw [hw19]; exact HA18.out.set 3 _
              have HP19 := Lib.hid (HP18.out.cellAt ab hww (Nat.le_refl _))
              have HB19 : Hid (Bytes (fun k => ab < k) w19 (.slice ua un uc) b1) := HB18.out.keep fun k hk hF => hww.block k hk (Nat.ne_of_gt hF)
              clear hw19 hww k3 g3 q0 HQ0 HP18 HA18 HB18
              have HPC := Lib.hid (rpiece_any HP19.out.rd.wr)
              simp only [hp2] at HPC
              refine Calls.mono HPC.out ?_
              rintro _ w20 ⟨u2, rfl, ho, hr, hw⟩
              have HP20 : Hid (Pa2 A B B2 ab q r eb rb v all ⟨i2, e2', 0⟩ dv ds (.slice aa an ac) xs a b c w w20) := HP19.out.wire hr hw
              have HA20 := Lib.hid (HP19.out.ab (⟨hw.os, hw.tape, hw.output, hw.size, fun k hk hn => hw.block k hk (fun e => hn (.inl e))⟩ : Wrote (fun k => k = r ∨ k = q) _ _) HA19.out (Nat.le_refl _))
              have HRA : Hid (r < ab) := by have h1 := HP19.out.ord; have h2 := HP19.out.rd.lr; show r < ab; omega
              have HB20 : Hid (Bytes (fun k => ab < k) w20 (.slice ua un uc) b1) := HB19.out.keep fun k hk hF => hw.block k hk (by have := HRA.out; have hF : ab < k := hF; omega)
              have HC20 : Hid (Bytes (fun k => ab < k) w20 u2 b2) := ho.bytesFrom.mono fun k _ hF => Nat.lt_of_lt_of_le HA19.out.lt hF
              obtain ⟨ub, um, ud, rfl⟩ := ho.isSlice
              clear ho hr hw HPC HP19 HA19 HB19 hp2
              have k4 : w20.cell? ⟨ab, 4, none⟩ = some (.slice none 0 0) := HA20.out.cell rfl
              have g4 := HA20.out.free 4
              go_upto_region 15 with fail
              refine wp_gen fun w21 hw21 => ?_
              have hww : Wrote (· = ab) w20 w21 := by rw [hw21]; exact (Wrote.refl (· = ab) _).setCell ⟨ab, 4, none⟩ _ (.inl rfl)
              have HA21 : Hid (Blk w21 ab (addCells (i64W lv) (⟨(n1 : Int), i64W n2, b1, b2, i64W n3, (n4 : Int)⟩ : Fil) (.slice ua un uc) (.slice ub um ud)).toArray 104) := by rw [hw21]; exact HA20.out.set 4 _
              have HP21 := Lib.hid (HP20.out.cellAt ab hww (Nat.le_refl _))
              have HB1 : Hid (Bytes (fun k => ab < k) w21 (.slice ua un uc) b1) := HB20.out.keep fun k hk hF => hww.block k hk (Nat.ne_of_gt hF)
              have HB2 : Hid (Bytes (fun k => ab < k) w21 (.slice ub um ud) b2) := HC20.out.keep fun k hk hF => hww.block k hk (Nat.ne_of_gt hF)
              clear hw21 hww k4 g4 HP20 HA20 HB20 HC20 HRA
              have j0 : w21.cell? ⟨ab, 0, none⟩ = some (.int .i64 (i64W lv)) := HA21.out.cell rfl
              have j1 : w21.cell? ⟨ab, 1, none⟩ = some (.int .u64 (n1 : Int)) := HA21.out.cell rfl
              have j2 : w21.cell? ⟨ab, 2, none⟩ = some (.int .i64 (i64W n2)) := HA21.out.cell rfl
              have j3 : w21.cell? ⟨ab, 3, none⟩ = some (.slice ua un uc) := HA21.out.cell rfl
              have j4 : w21.cell? ⟨ab, 4, none⟩ = some (.slice ub um ud) := HA21.out.cell rfl
              have j5 : w21.cell? ⟨ab, 5, none⟩ = some (.int .i64 (i64W n3)) := HA21.out.cell rfl
              have j6 : w21.cell? ⟨ab, 6, none⟩ = some (.int .u64 (n4 : Int)) := HA21.out.cell rfl
              have e1 : w21.cell? ⟨eb, 1, none⟩ = some (.slice aa an ac) := HP21.out.out.cell rfl
              have HFE : Hid (∀ W, Wrote (fun k => B2 ≤ k) w21 W → W.cell? ⟨eb, 1, none⟩ = some (.slice aa an ac) ∧ W.frozen? ⟨eb, 1, none⟩ = false) := fun W hW => by
                have h1 := HP21.out.out.same (hW.block eb HP21.out.out.lt (by have := HP21.out.ord; omega))
                exact ⟨h1.cell rfl, h1.free 1⟩
              go_wp2_with (with_reducible refine pause_append ?_)
              refine list_gen fun w3 hw3 => ?_
              have HB3 : Hid (Below w21.heap.size w21 w3) := by rw [hw3]; exact (Below.refl _ _).alloc (Nat.le_refl _) _
              have HS3' : Hid (Blk w3 w21.heap.size (addCells (i64W lv) (⟨(n1 : Int), i64W n2, b1, b2, i64W n3, (n4 : Int)⟩ : Fil) (.slice ua un uc) (.slice ub um ud)).toArray 104) := by rw [hw3]; exact Blk.at_new rfl rfl
              have HPU := Lib.hid (HP21.out.below HB3.out).top
              clear hw3 j0 j1 j2 j3 j4 j5 j6 e1
              have HOB : Hid (∀ k, (Value.slice aa an ac).ownBlock = some k → k < ab) := HP21.out.own
              have HOR : Hid (B2 ≤ ab ∧ ab < w21.heap.size ∧ B2 ≤ w3.heap.size ∧ w21.heap.size ≤ w3.heap.size) := by have := HP21.out.ord; have := HA21.out.lt; have := HB3.out.size; exact ⟨by omega, by omega, by omega, by omega⟩
              refine Pause.go (wpList_append_elF (K := addK) 55 104 _ 88 Try.underlying55 info_addO rfl (fun k => B2 ≤ k ∧ k < w3.heap.size) B2 (.slice aa an ac) xs w21.heap.size 104 _ (i64W lv, (⟨(n1 : Int), i64W n2, b1, b2, i64W n3, (n4 : Int)⟩ : Fil)) rfl _ _ rfl rfl rfl HPU.out.row HS3'.out
                ⟨_, _, rfl, i64W_in lv, (HB1.out.below HB3.out).mono fun k hk hF => ?_, (HB2.out.below HB3.out).mono fun k hk hF => ?_, ⟨⟨by show (0 : Int) ≤ (n1 : Int); omega, by show (n1 : Int) < _; have := HLN.out; omega⟩, i64W_in n2, i64W_in n3, ⟨by show (0 : Int) ≤ (n4 : Int); omega, by show (n4 : Int) < _; have := HLN.out; omega⟩⟩⟩ (by have := HL.out; omega) (by decide) HOR.out.2.2.1 ?_)
              · exact ⟨⟨by have := HOR.out.1; have hF : ab < k := hF; omega, hk⟩, fun e => by have := HOB.out k e; have hF : ab < k := hF; omega⟩
              · exact ⟨⟨by have := HOR.out.1; have hF : ab < k := hF; omega, hk⟩, fun e => by have := HOB.out k e; have hF : ab < k := hF; omega⟩
              intro v4 w4 hro hg
              have D4 : Below B2 w3 w4 := hg.below HOR.out.2.2.1 fun k e => (HPU.out.row.lt k e).1
              have HPV := Lib.hid (HPU.out.grow D4 hro)
              obtain ⟨e1, fe⟩ := HFE.out w4 ⟨D4.os.trans HB3.out.os, D4.tape.trans HB3.out.tape, D4.output.trans HB3.out.output, Nat.le_trans HB3.out.size D4.size, fun k hk hn => (D4.block k (by omega)).trans (HB3.out.block k hk)⟩
              obtain ⟨va, vn, vc, rfl⟩ : ∃ a n c, v4 = .slice a n c := by obtain ⟨a, c, e⟩ := hro.isSlice; exact ⟨a, _, c, e⟩
              have HL3 : Hid ((xs ++ [(i64W lv, (⟨(n1 : Int), i64W n2, b1, b2, i64W n3, (n4 : Int)⟩ : Fil))]).length + j ≤ 10000) := by show _ ≤ _; rw [List.length_append]; have := HL.out; simp only [List.length_singleton]; omega
              clear hro hg D4 HPU HP21 HA21 HS3' HB3 HFE HOB HB1 HB2
              go_wp2_with fail
              go_roundw
              · exact ⟨j, ⟨i2, e2', 0⟩, _, _, by first | rfl | go_num, by omega, HS5.out, HL3.out, _, HPV.out⟩
              · simp only [intOf]; omega
            · have t5 : ((f5 : Int) == 0) = false := by rw [beq_eq_false_iff_ne]; omega
              have HS5 : Hid (addsS all m s6 [] = addsS all j ⟨z5.i, z5.e, f5⟩ (xs ++ [(i64W lv, (⟨(n1 : Int), i64W n2, [], [], i64W n3, (n4 : Int)⟩ : Fil))])) := by
                show _ = _
                rw [HS3.out, HAS.out, if_neg h50]
              have HB1 : Hid (Bytes (fun k => ab < k) w17 (.slice none 0 0) []) := Bytes.nil _ _
              have HB2 : Hid (Bytes (fun k => ab < k) w17 (.slice none 0 0) []) := Bytes.nil _ _
              clear HS3 HAS
              have j0 : w17.cell? ⟨ab, 0, none⟩ = some (.int .i64 (i64W lv)) := HA17.out.cell rfl
              have j1 : w17.cell? ⟨ab, 1, none⟩ = some (.int .u64 (n1 : Int)) := HA17.out.cell rfl
              have j2 : w17.cell? ⟨ab, 2, none⟩ = some (.int .i64 (i64W n2)) := HA17.out.cell rfl
              have j3 : w17.cell? ⟨ab, 3, none⟩ = some (.slice none 0 0) := HA17.out.cell rfl
              have j4 : w17.cell? ⟨ab, 4, none⟩ = some (.slice none 0 0) := HA17.out.cell rfl
              have j5 : w17.cell? ⟨ab, 5, none⟩ = some (.int .i64 (i64W n3)) := HA17.out.cell rfl
              have j6 : w17.cell? ⟨ab, 6, none⟩ = some (.int .u64 (n4 : Int)) := HA17.out.cell rfl
              have e1 : w17.cell? ⟨eb, 1, none⟩ = some (.slice aa an ac) := HP17.out.out.cell rfl
              have HFE : Hid (∀ W, Wrote (fun k => B2 ≤ k) w17 W → W.cell? ⟨eb, 1, none⟩ = some (.slice aa an ac) ∧ W.frozen? ⟨eb, 1, none⟩ = false) := fun W hW => by
                have h1 := HP17.out.out.same (hW.block eb HP17.out.out.lt (by have := HP17.out.ord; omega))
                exact ⟨h1.cell rfl, h1.free 1⟩
              go_wp2_with (with_reducible refine pause_append ?_)
              refine list_gen fun w3 hw3 => ?_
              have HB3 : Hid (Below w17.heap.size w17 w3) := by rw [hw3]; exact (Below.refl _ _).alloc (Nat.le_refl _) _
              have HS3' : Hid (Blk w3 w17.heap.size (addCells (i64W lv) ⟨(n1 : Int), i64W n2, [], [], i64W n3, (n4 : Int)⟩ (.slice none 0 0) (.slice none 0 0)).toArray 104) := by rw [hw3]; exact Blk.at_new rfl rfl
              have HPU := Lib.hid (HP17.out.below HB3.out).top
              clear hw3 j0 j1 j2 j3 j4 j5 j6 e1
              have HOB : Hid (∀ k, (Value.slice aa an ac).ownBlock = some k → k < ab) := HP17.out.own
              have HOR : Hid (B2 ≤ ab ∧ ab < w17.heap.size ∧ B2 ≤ w3.heap.size ∧ w17.heap.size ≤ w3.heap.size) := by have := HP17.out.ord; have := HA17.out.lt; have := HB3.out.size; exact ⟨by omega, by omega, by omega, by omega⟩
              refine Pause.go (wpList_append_elF (K := addK) 55 104 _ 88 Try.underlying55 info_addO rfl (fun k => B2 ≤ k ∧ k < w3.heap.size) B2 (.slice aa an ac) xs w17.heap.size 104 _ (i64W lv, (⟨(n1 : Int), i64W n2, [], [], i64W n3, (n4 : Int)⟩ : Fil)) rfl _ _ rfl rfl rfl HPU.out.row HS3'.out
                ⟨_, _, rfl, i64W_in lv, (HB1.out.below HB3.out).mono fun k hk hF => ?_, (HB2.out.below HB3.out).mono fun k hk hF => ?_, ⟨⟨by show (0 : Int) ≤ (n1 : Int); omega, by show (n1 : Int) < _; have := HLN.out; omega⟩, i64W_in n2, i64W_in n3, ⟨by show (0 : Int) ≤ (n4 : Int); omega, by show (n4 : Int) < _; have := HLN.out; omega⟩⟩⟩ (by have := HL.out; omega) (by decide) HOR.out.2.2.1 ?_)
              · exact ⟨⟨by have := HOR.out.1; have hF : ab < k := hF; omega, hk⟩, fun e => by have := HOB.out k e; have hF : ab < k := hF; omega⟩
              · exact ⟨⟨by have := HOR.out.1; have hF : ab < k := hF; omega, hk⟩, fun e => by have := HOB.out k e; have hF : ab < k := hF; omega⟩
              intro v4 w4 hro hg
              have D4 : Below B2 w3 w4 := hg.below HOR.out.2.2.1 fun k e => (HPU.out.row.lt k e).1
              have HPV := Lib.hid (HPU.out.grow D4 hro)
              obtain ⟨e1, fe⟩ := HFE.out w4 ⟨D4.os.trans HB3.out.os, D4.tape.trans HB3.out.tape, D4.output.trans HB3.out.output, Nat.le_trans HB3.out.size D4.size, fun k hk hn => (D4.block k (by omega)).trans (HB3.out.block k hk)⟩
              obtain ⟨va, vn, vc, rfl⟩ : ∃ a n c, v4 = .slice a n c := by obtain ⟨a, c, e⟩ := hro.isSlice; exact ⟨a, _, c, e⟩
              have HL3 : Hid ((xs ++ [(i64W lv, (⟨(n1 : Int), i64W n2, [], [], i64W n3, (n4 : Int)⟩ : Fil))]).length + j ≤ 10000) := by show _ ≤ _; rw [List.length_append]; have := HL.out; simp only [List.length_singleton]; omega
              clear hro hg D4 HPU HP17 HA17 HS3' HB3 HFE HOB HB1 HB2
              go_wp2_with fail
              go_roundw
              · exact ⟨j, ⟨z5.i, z5.e, f5⟩, _, _, by first | rfl | go_num, by omega, HS5.out, HL3.out, _, HPV.out⟩
              · simp only [intOf]; omega
          · have t2 : ((f : Int) == 0) = false := by rw [beq_eq_false_iff_ne]; omega
            have HS3 : Hid (addsS all m s6 [] = (xs, ⟨s.i, s.e, f⟩)) := by
              show _ = _
              rw [HS2.out, if_pos hf0]
            go_wp2_with fail
            go_meet
            exact ⟨_, _, xs, HS3.out, _, HP9.out⟩
    case rest =>
      obtain ⟨s7, av, xs, hd7, M7, hp7⟩ := hcut.out
      have HP7 := Lib.hid hp7
      have HAL : Hid (a < 18446744073709551616 ∧ b < 18446744073709551616 ∧ c < 18446744073709551616) := by
        have h1 := numS_lt all ⟨0, 0, 0⟩
        have h2 := numS_lt all s1
        have h3 := numS_lt all s2
        rw [HT1.out] at h1
        rw [HT2.out] at h2
        rw [HT3.out] at h3
        exact ⟨h1, h2, h3⟩
      obtain ⟨f, hf⟩ : ∃ f, faultW s7.e s7.ve = f := ⟨_, rfl⟩
      obtain ⟨g, hg⟩ : ∃ g, endW all s7.i s7.e = g := ⟨_, rfl⟩
      have HPV : Hid (PW = if f ≠ 0 then (zeroE, f) else if g ≠ 0 then (zeroE, g) else (⟨ds, xs, (a : Int), (b : Int), (c : Int)⟩, 0)) := by
        show _ = _
        rw [← HPW.out]
        unfold parseW
        simp only [HT1.out, HT2.out, HT3.out, HT4.out, HT5.out, HT6.out, hd7, hf, hg]
      clear hcut hd7 hp7 HP8 HT1 HT2 HT3 HT4 HT5 HT6 HPW
      obtain ⟨va, vn, vc, rfl⟩ : ∃ a n c, av = .slice a n c := by obtain ⟨a, c, e⟩ := HP7.out.row.isSlice; exact ⟨a, _, c, e⟩
      obtain ⟨da, dn, dc, rfl⟩ : ∃ a n c, dv = .slice a n c := by obtain ⟨a, c, e⟩ := HP7.out.drs.isSlice; exact ⟨a, _, c, e⟩
      go_wp2_with fail
      refine Calls.mono (HP7.out.fault hf) ?_
      rintro _ w9 ⟨rfl, hp9, hw9⟩
      have HP9 := Lib.hid hp9
      clear hp9 hw9 hf HP7
      have HRB : Hid (w.heap.size ≤ rb) := HP9.out.ord.1
      by_cases hf0 : f = 0
      · subst hf0
        have q0 := HP9.out.rd.q0
        have HEN := Lib.hid (rend_any HP9.out.rd.wr)
        simp only [hg] at HEN
        go_wp2_with fail
        clear q0
        refine Calls.mono HEN.out ?_
        rintro _ w10 ⟨rfl, kk, hw10⟩
        have HP10 : Hid (Pa2 A B B2 M7 q r eb rb v all ⟨s7.i, s7.e, 0⟩ (.slice da dn dc) ds (.slice va vn vc) xs a b c w w10) := by rw [hw10]; exact HP9.out.below (below_dn (Below.refl _ _) kk)
        clear hw10 HP9 HEN hg
        obtain ⟨z0, z1, z2, z3, z4, f0, f1, f2, f3, f4⟩ := zero5_cells HP10.out.res
        by_cases hg0 : g = 0
        · subst hg0
          have e0 : w10.cell? ⟨eb, 0, none⟩ = some (.slice da dn dc) := HP10.out.out.cell rfl
          have e1 : w10.cell? ⟨eb, 1, none⟩ = some (.slice va vn vc) := HP10.out.out.cell rfl
          have e2 : w10.cell? ⟨eb, 2, none⟩ = some (.int .u64 (a : Int)) := HP10.out.out.cell rfl
          have e3 : w10.cell? ⟨eb, 3, none⟩ = some (.int .u64 (b : Int)) := HP10.out.out.cell rfl
          have e4 : w10.cell? ⟨eb, 4, none⟩ = some (.int .u64 (c : Int)) := HP10.out.out.cell rfl
          have HP0 : Hid (PW = (⟨ds, xs, (a : Int), (b : Int), (c : Int)⟩, 0)) := by show _ = _; rw [HPV.out, if_neg (by decide), if_neg (by decide)]
          clear HPV
          go_wp2_with fail
          refine bodyPost_ret (results_cell_tmp1 (p := 2) (t := 3) rfl _ _ rb 57 #[.slice da dn dc, .slice va vn vc, .int .u64 (a : Int), .int .u64 (b : Int), .int .u64 (c : Int)] _ rfl (blk_set5 HP10.out.res rfl _ _ _ _ _) Try.underlying57 rfl (by kernel_rfl)) rfl ?_
          rw [HP0.out]
          refine ⟨below_set5 HP10.out.bel HRB.out, .slice da dn dc, .slice va vn vc, rfl, ?_⟩
          have hord := HP10.out.ord
          have hww : Wrote (fun k => k = rb) w10 (((((w10.setCell ⟨rb, 0, none⟩ (.slice da dn dc)).setCell ⟨rb, 1, none⟩ (.slice va vn vc)).setCell ⟨rb, 2, none⟩ (.int .u64 (a : Int))).setCell ⟨rb, 3, none⟩ (.int .u64 (b : Int))).setCell ⟨rb, 4, none⟩ (.int .u64 (c : Int))) :=
            (((((Wrote.refl (fun k => k = rb) _).setCell ⟨rb, 0, none⟩ _ (.inl rfl)).setCell ⟨rb, 1, none⟩ _ (.inl rfl)).setCell ⟨rb, 2, none⟩ _ (.inl rfl)).setCell ⟨rb, 3, none⟩ _ (.inl rfl)).setCell ⟨rb, 4, none⟩ _ (.inl rfl)
          have hal := HAL.out
          refine ⟨(HP10.out.drs.keep fun k hk hF => hww.block k hk (by omega)).mono fun k _ hF => by omega, (HP10.out.row.wrote hww (fun k hk => by omega) (fun k hk => by omega)).rows.mono fun k hk hF => ?_, ⟨by show (0 : Int) ≤ (a : Int); omega, by show (a : Int) < _; omega⟩, ⟨by show (0 : Int) ≤ (b : Int); omega, by show (b : Int) < _; omega⟩, ⟨by show (0 : Int) ≤ (c : Int); omega, by show (c : Int) < _; omega⟩⟩
          rcases hF with e | ⟨e, -⟩
          · have := (HP10.out.row.lt k e).1; omega
          · omega
        · have t6 : ((g : Int) != 0) = true := by rw [bne_iff_ne]; omega
          have HP0 : Hid (PW = (zeroE, g)) := by show _ = _; rw [HPV.out, if_neg (by decide), if_pos hg0]
          clear HPV
          go_wp2_with fail
          refine bodyPost_ret (results_cell_tmp1 (p := 2) (t := 3) rfl _ _ rb 57 zero5 _ rfl (blk_set5 HP10.out.res rfl _ _ _ _ _) Try.underlying57 rfl (by kernel_rfl)) rfl ?_
          rw [HP0.out]
          exact parsePost_bad _ (below_set5 HP10.out.bel HRB.out)
      · have t5 : ((f : Int) != 0) = true := by rw [bne_iff_ne]; omega
        have HP0 : Hid (PW = (zeroE, f)) := by show _ = _; rw [HPV.out, if_pos hf0]
        clear HPV
        obtain ⟨z0, z1, z2, z3, z4, f0, f1, f2, f3, f4⟩ := zero5_cells HP9.out.res
        go_wp2_with fail
        refine bodyPost_ret (results_cell_tmp1 (p := 2) (t := 3) rfl _ _ rb 57 zero5 _ rfl (blk_set5 HP9.out.res rfl _ _ _ _ _) Try.underlying57 rfl (by kernel_rfl)) rfl ?_
        rw [HP0.out]
        exact parsePost_bad _ (below_set5 HP9.out.bel HRB.out)
end Go.Proofs.Ytkcohhldmhdcfaa
