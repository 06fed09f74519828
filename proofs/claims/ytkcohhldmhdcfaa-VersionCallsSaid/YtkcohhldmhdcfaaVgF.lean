/- Chapter 12: the whole edit of a version; the document's Whole. -/
import Derived.Test.YtkcohhldmhdcfaaVgE
namespace Go.Proofs.Ytkcohhldmhdcfaa
open Go.RowKit

def levAdds (i : Nat) (l : List Fil) : List (Int × Fil) := l.map fun f => ((i : Int), f)
/-- The files of the first levels, as added ones. -/
def wAdds (ls : List (List Fil)) : Nat → List (Int × Fil)
  | 0 => []
  | i + 1 => wAdds ls i ++ levAdds i (lat ls i)
def wholeE (v : Ver) : Edi := ⟨[], wAdds v.levels 5, v.next, v.seq, v.log⟩
def zeroE : Edi := ⟨[], [], 0, 0, 0⟩
/-- What Whole tells. -/
noncomputable def wholeW (v : Ver) : Edi × Int := if chkW v = 0 then (wholeE v, 0) else (zeroE, chkW v)
theorem wholeW_ok {v : Ver} (h : chkW v = 0) : wholeW v = (wholeE v, 0) := if_pos h
theorem wholeW_bad {v : Ver} (h : chkW v ≠ 0) : wholeW v = (zeroE, chkW v) := if_neg h
theorem levAdds_more {i k : Nat} {l : List Fil} (hk : k < l.length) : levAdds i (l.take k) ++ [((i : Int), fat l k)] = levAdds i (l.take (k + 1)) := by
  unfold levAdds
  rw [List.take_succ_eq_append_getElem hk, List.map_append, fat_eq hk]
  rfl
theorem wAdds_len {ls : List (List Fil)} {n : Nat} (h : ∀ i, i < 5 → (lat ls i).length ≤ n) : ∀ i, i ≤ 5 → (wAdds ls i).length ≤ i * n
  | 0, _ => Nat.zero_le _
  | i + 1, hi => by
    have h1 := wAdds_len h i (by omega)
    have h2 := h i (by omega)
    show (wAdds ls i ++ levAdds i (lat ls i)).length ≤ _
    unfold levAdds
    rw [List.length_append, List.length_map, Nat.add_mul]
    omega
def zero5 : Array Value := #[.slice none 0 0, .slice none 0 0, .int .u64 0, .int .u64 0, .int .u64 0]
theorem zero5_cells {w : World} {rb : Nat} {T : TypeId} (h : Blk w rb zero5 T) : w.cell? ⟨rb, 0, none⟩ = some (.slice none 0 0) ∧ w.cell? ⟨rb, 1, none⟩ = some (.slice none 0 0) ∧ w.cell? ⟨rb, 2, none⟩ = some (.int .u64 0) ∧ w.cell? ⟨rb, 3, none⟩ = some (.int .u64 0) ∧ w.cell? ⟨rb, 4, none⟩ = some (.int .u64 0) ∧ w.frozen? ⟨rb, 0, none⟩ = false ∧ w.frozen? ⟨rb, 1, none⟩ = false ∧ w.frozen? ⟨rb, 2, none⟩ = false ∧ w.frozen? ⟨rb, 3, none⟩ = false ∧ w.frozen? ⟨rb, 4, none⟩ = false :=
  ⟨h.cell rfl, h.cell rfl, h.cell rfl, h.cell rfl, h.cell rfl, h.free 0, h.free 1, h.free 2, h.free 3, h.free 4⟩
theorem below_set5 {b0 b : Nat} {w W : World} {x0 x1 x2 x3 x4 : Value} (h : Below b0 w W) (hr : b0 ≤ b) : Below b0 w (((((W.setCell ⟨b, 0, none⟩ x0).setCell ⟨b, 1, none⟩ x1).setCell ⟨b, 2, none⟩ x2).setCell ⟨b, 3, none⟩ x3).setCell ⟨b, 4, none⟩ x4) := ((((h.setCell hr _).setCell hr _).setCell hr _).setCell hr _).setCell hr _
theorem wrote_set5 (b : Nat) (w : World) (x0 x1 x2 x3 x4 : Value) : Wrote (fun k => k = b) w (((((w.setCell ⟨b, 0, none⟩ x0).setCell ⟨b, 1, none⟩ x1).setCell ⟨b, 2, none⟩ x2).setCell ⟨b, 3, none⟩ x3).setCell ⟨b, 4, none⟩ x4) :=
  Wrote.setCell (S := fun k => k = b) (Wrote.setCell (S := fun k => k = b) (Wrote.setCell (S := fun k => k = b) (Wrote.setCell (S := fun k => k = b) (Wrote.setCell (S := fun k => k = b) (Wrote.of_below (Below.refl _ _)) _ _ (.inl rfl)) _ _ (.inl rfl)) _ _ (.inl rfl)) _ _ (.inl rfl)) _ _ (.inl rfl)
theorem blk_set5 {w : World} {rb : Nat} {T : TypeId} {c : Array Value} (h : Blk w rb c T) (hs : c.size = 5) (x0 x1 x2 x3 x4 : Value) : Blk (((((w.setCell ⟨rb, 0, none⟩ x0).setCell ⟨rb, 1, none⟩ x1).setCell ⟨rb, 2, none⟩ x2).setCell ⟨rb, 3, none⟩ x3).setCell ⟨rb, 4, none⟩ x4) rb #[x0, x1, x2, x3, x4] T := by
  have h1 := ((((h.set 0 x0).set 1 x1).set 2 x2).set 3 x3).set 4 x4
  have : ((((c.setIfInBounds 0 x0).setIfInBounds 1 x1).setIfInBounds 2 x2).setIfInBounds 3 x3).setIfInBounds 4 x4 = #[x0, x1, x2, x3, x4] := by
    apply Array.ext_getElem?
    intro i
    simp only [Array.getElem?_setIfInBounds, Array.size_setIfInBounds, hs]
    rcases (show i = 0 ∨ i = 1 ∨ i = 2 ∨ i = 3 ∨ i = 4 ∨ 5 ≤ i by omega) with rfl | rfl | rfl | rfl | rfl | hi
    · simp
    · simp
    · simp
    · simp
    · simp
    · rw [if_neg (by omega), if_neg (by omega), if_neg (by omega), if_neg (by omega), if_neg (by omega), Array.getElem?_eq_none (by omega), Array.getElem?_eq_none (by simp; omega)]
  rw [this] at h1
  exact h1
theorem info_addO : (Try.prog.info? 104).map (fun i => (i.zero, i.size, i.bytes)) = some (some (.agg #[.int .i64 0, .int .u64 0, .int .i64 0, .slice none 0 0, .slice none 0 0, .int .i64 0, .int .u64 0]), addK.sz, 88) := by kernel_rfl
theorem step_append_elG {α : Type} {K : Kind α} {P : Program} {ops : Array Oper} {w : World} {o : Oper} {a : Act} {C : Act → World → Prop} {Q : Exit → Act → World → Prop} {E : Prop} (hgd : o.guard = none) (t e : TypeId) (z : Value) (bytes : Nat) (ht : P.underlying t = some (.slice e))
    (hinfo : (P.info? e).map (fun i => (i.zero, i.size, i.bytes)) = some (some z, K.sz, bytes)) (hzs : z.cells.size = K.sz)
    (F : Nat → Prop) (base : Nat) (v : Value) (xs : List α) (b : Nat) (T : TypeId) (c : Array Value) (y : α) (s x : Operand)
    (ho : o.op = .call { callee := .builtin .append, args := #[s, x], argTypes := #[t, t] })
    (hs : a.eval s = v) (hx : a.eval x = .slice (some ⟨b, 0, none⟩) 1 1) (hown : ROwnF K F base e w v xs) (hsrc : Blk w b c T)
    (hel : K.R (fun k => F k ∧ v.ownBlock ≠ some k) w c.toList y) (hm : xs.length < 1000000) (hby : bytes ≤ 100000) (hbase : base ≤ w.heap.size)
    (h : ∀ v' w', ROwnF K F base e w' v' (xs ++ [y]) → Grew w w' v v' → C (a.put o.dst v') w') :
    if Region.wanted o (yielded ops a.tmps) = true then Oper.wp P o a w C Q else E := by
  have hw : Region.wanted o (yielded ops a.tmps) = true := by simp [Region.wanted, hgd]
  rw [if_pos hw]
  exact wp_append_elF t e z bytes ht hinfo hzs F base v xs b T c y s x ho hs hx hown hsrc hel hm hby hbase h

/-- What lies in memory while a version's files are gathered into an edit. -/
structure WhAt (b1 eb : Nat) (v : Ver) (lv av : Value) (xs : List (Int × Fil)) (w0 w : World) : Prop where
  src : Blk w b1 (verCells v lv).toArray 25
  out : Blk w eb #[.slice none 0 0, av, .int .u64 v.next, .int .u64 v.seq, .int .u64 v.log] 57
  row : ROwnF addK (fun k => w0.heap.size ≤ k) w0.heap.size 104 w av xs
  wr : Wrote (fun k => k = eb) w0 w
  lt : b1 < w0.heap.size ∧ eb < w0.heap.size
  ne : eb ≠ b1
theorem WhAt.below {b1 eb : Nat} {v : Ver} {lv av : Value} {xs : List (Int × Fil)} {w0 w w' : World} (h : WhAt b1 eb v lv av xs w0 w) (hb : Below w.heap.size w w') : WhAt b1 eb v lv av xs w0 w' :=
  ⟨h.src.below hb h.src.lt, h.out.below hb h.out.lt, h.row.below hb, h.wr.trans (Wrote.of_below hb), h.lt, h.ne⟩
theorem WhAt.grow {b1 eb : Nat} {v : Ver} {lv av av' : Value} {xs xs' : List (Int × Fil)} {w0 w w' : World} (h : WhAt b1 eb v lv av xs w0 w) (hb : Below w0.heap.size w w') (hr : ROwnF addK (fun k => w0.heap.size ≤ k) w0.heap.size 104 w' av' xs') :
    WhAt b1 eb v lv av' xs' w0 (w'.setCell ⟨eb, 1, none⟩ av') := by
  have hw : Wrote (fun k => k = eb) w0 w' := ⟨hb.os.trans h.wr.os, hb.tape.trans h.wr.tape, hb.output.trans h.wr.output, Nat.le_trans h.wr.size hb.size, fun k hk hn => (hb.block k hk).trans (h.wr.block k hk hn)⟩
  refine ⟨(h.src.below hb h.lt.1).set_other _ _ h.ne, (h.out.below hb h.lt.2).set 1 _, hr.keep fun k hk hx => heap_setCell_other _ _ _ _ ?_, hw.setCell _ _ (.inl rfl), h.lt, h.ne⟩
  show k ≠ eb
  have := h.lt.2
  rcases hx with e | ⟨e, -⟩
  · have := (hr.lt k e).1; omega
  · omega
def WholePost (r : Edi × Int) (w : World) (x : Ending) (w' : World) : Prop :=
  ∃ dv av, x = .returned (.tuple #[.agg (ediCells r.1 dv av).toArray, .int .i64 r.2]) ∧ EdiAt Any w' r.1 dv av ∧ Below w.heap.size w w'
theorem u64_0' : u64In 0 := u64_0
theorem wholePost_bad {r : Edi × Int} {w w' : World} {c : Int} (h : r = (zeroE, c)) (hb : Below w.heap.size w w') : WholePost r w (.returned (.tuple #[.agg zero5, .int .i64 c])) w' := by
  subst h
  exact ⟨.slice none 0 0, .slice none 0 0, rfl, ⟨Rw.nil _ _ _, Rw.nil _ _ _, u64_0, u64_0, u64_0⟩, hb⟩

set_option maxRecDepth 100000 in
set_option maxHeartbeats 4000000 in
theorem rwhole_any (F : Nat → Prop) (v : Ver) (lv : Value) (w : World) (h : Rw (rowK filK) F w lv v.levels) (hw : v.wf) (hfew : cntTo v.levels v.levels.length ≤ 100) :
    Calls Try.prog 40 #[.agg (verCells v lv).toArray] w (WholePost (wholeW v) w) := by
  have HCK := Lib.hid (fun w' (hb : Below w.heap.size w w') => rcheck_any F v lv w' (h.below hb) hw (by omega))
  have HA : Hid (Rw (rowK filK) (fun k => k < w.heap.size) w lv v.levels) := h.mono fun k hk _ => hk
  have HWF := Lib.hid hw
  obtain ⟨xa, ca, rfl⟩ := h.isSlice
  clear h hw hfew
  obtain ⟨m5, hm⟩ : ∃ m, v.levels.length = m := ⟨_, rfl⟩
  have HM := Lib.hid hm
  rw [hm] at HCK HA ⊢
  clear hm
  unfold verCells at HCK ⊢
  go_enter Try.func40, Try.ntmps40
  go_upto_region 1 with fail
  refine wp_gen fun w1 hw1 => ?_
  have HX1 : Hid (Blk w1 w.heap.size (verCells v (.slice xa m5 ca)).toArray 25) := by rw [hw1]; exact (Blk.at_new rfl rfl).alloc _
  have HR1 : Hid (Blk w1 (w.heap.size + 1) zero5 57) := by rw [hw1]; exact blk_two _ _ _ _
  have HW1 : Hid (Below w.heap.size w w1) := by rw [hw1]; exact below_two _ _ _
  clear hw1
  obtain ⟨b1, hb1⟩ : ∃ b, w.heap.size = b := ⟨_, rfl⟩
  obtain ⟨rb, hrb⟩ : ∃ b, w.heap.size + 1 = b := ⟨_, rfl⟩
  have HNE : Hid (w.heap.size ≤ rb) := by show _ ≤ _; omega
  rw [hrb] at HR1 ⊢
  rw [hb1] at HX1 ⊢
  clear hb1 hrb
  have x0 : w1.cell? ⟨b1, 0, none⟩ = some (.slice xa m5 ca) := HX1.out.cell rfl
  have x1 : w1.cell? ⟨b1, 1, none⟩ = some (.int .u64 v.next) := HX1.out.cell rfl
  have x2 : w1.cell? ⟨b1, 2, none⟩ = some (.int .u64 v.seq) := HX1.out.cell rfl
  have x3 : w1.cell? ⟨b1, 3, none⟩ = some (.int .u64 v.log) := HX1.out.cell rfl
  go_wp2_with fail
  clear x0 x1 x2 x3
  refine Calls.mono (HCK.out _ HW1.out) ?_
  rintro _ w2 ⟨rfl, hb⟩
  have HX2 := Lib.hid (HX1.out.below hb HX1.out.lt)
  have HR2 := Lib.hid (HR1.out.below hb HR1.out.lt)
  have HW2 : Hid (Below w.heap.size w w2) := HW1.out.trans (hb.mono HW1.out.size)
  clear hb HX1 HR1 HW1 HCK
  obtain ⟨ck, hck⟩ : ∃ c, chkW v = c := ⟨_, rfl⟩
  have HC := Lib.hid hck
  rw [hck]
  clear hck
  by_cases hc0 : ck = 0
  case neg =>
    have g0 : (ck == 0) = false := by simpa using hc0
    have g1 : (ck != 0) = true := by simpa using hc0
    have HF : Hid (wholeW v = (zeroE, ck)) := by show _ = _; rw [wholeW_bad (by rw [HC.out]; exact hc0), HC.out]
    clear hc0
    obtain ⟨z0, z1, z2, z3, z4, f0, f1, f2, f3, f4⟩ := zero5_cells HR2.out
    go_wp2_with fail
    refine bodyPost_ret (results_cell_tmp1 (p := 2) (t := 3) rfl _ _ rb 57 zero5 _ rfl (blk_set5 HR2.out rfl _ _ _ _ _) Try.underlying57 rfl (by kernel_rfl)) rfl ?_
    exact wholePost_bad HF.out (below_set5 HW2.out HNE.out)
  subst hc0
  have hm5 : m5 = 5 := by rw [← HM.out]; exact (good_small HC.out).1
  subst hm5
  have HLE : Hid (∀ i, i < 5 → (lat v.levels i).length ≤ 10000) := fun i hi => (good_small HC.out).2.1 i (by rw [HM.out]; exact hi)
  have HKY : Hid (∀ i, i < 5 → ∀ f ∈ lat v.levels i, f.least.length ≤ 4096 ∧ f.most.length ≤ 4096) := fun i hi => (good_small HC.out).2.2 i (by rw [HM.out]; exact hi)
  have x0 : w2.cell? ⟨b1, 0, none⟩ = some (.slice xa 5 ca) := HX2.out.cell rfl
  have x1 : w2.cell? ⟨b1, 1, none⟩ = some (.int .u64 v.next) := HX2.out.cell rfl
  have x2 : w2.cell? ⟨b1, 2, none⟩ = some (.int .u64 v.seq) := HX2.out.cell rfl
  have x3 : w2.cell? ⟨b1, 3, none⟩ = some (.int .u64 v.log) := HX2.out.cell rfl
  go_upto_region 5 with fail
  clear x0 x1 x2 x3
  refine wp_gen fun w3 hw3 => ?_
  have hb3 : Below w2.heap.size w2 w3 := by rw [hw3]; exact (Below.refl _ _).alloc (Nat.le_refl _) _
  have HV3 : Hid (WhAt b1 w2.heap.size v (.slice xa 5 ca) (.slice none 0 0) (wAdds v.levels 0) w3 w3) := by
    have h1 := HX2.out.lt
    have h2 := hb3.size
    have h3 : w2.heap.size < w3.heap.size := by rw [hw3]; simp
    exact ⟨HX2.out.below hb3 h1, by rw [hw3]; exact Blk.at_new rfl rfl, ROwnF.nil _ _ _ _ _, Wrote.of_below (Below.refl _ _), ⟨by omega, by omega⟩, by omega⟩
  have HR3 := Lib.hid (HR2.out.below hb3 HR2.out.lt)
  have HRE : Hid (rb ≠ w2.heap.size ∧ w.heap.size ≤ w2.heap.size) := ⟨fun e => by have := HR2.out.lt; omega, HW2.out.size⟩
  have HW3 : Hid (Below w.heap.size w w3) := HW2.out.trans (hb3.mono HW2.out.size)
  clear hw3 hb3 HX2 HR2 HW2
  generalize w2.heap.size = eb at *
  go_wp2_with fail
  go_loopw [6] (fun iv wr => ∃ (i : Nat) (av : Value), iv = .int .i64 (i : Int) ∧ i ≤ 5 ∧ Hid (WhAt b1 eb v (.slice xa 5 ca) av (wAdds v.levels i) w3 wr)) (fun iv _ => 5 - (intOf iv).toNat)
  case atStart => exact ⟨0, _, rfl, by omega, HV3.out⟩
  case round =>
    obtain ⟨i, av, rfl, hi, HV⟩ := hrel
    clear HV3
    have x0 : wr.cell? ⟨b1, 0, none⟩ = some (.slice xa 5 ca) := HV.out.src.cell rfl
    by_cases hi5 : i < 5
    · have t1 : (i : Int) < 5 := by omega
      have t2 : 0 ≤ (i : Int) := by omega
      have hil : i < v.levels.length := by rw [HM.out]; exact hi5
      obtain ⟨ba, oa, capa, ea, hF, hba, hca⟩ := levs_at HA.out (by rw [HM.out]; omega)
      obtain ⟨u, hu, hcu⟩ := hca i hil
      rw [HM.out] at ea
      injection ea with e1 e2 e3
      subst e1 e3
      obtain ⟨ua, uc, rfl⟩ := hu.isSlice
      have HU := Lib.hid (hu.below HW3.out)
      have HBA : Hid (ba < w.heap.size ∧ w.heap.size ≤ w3.heap.size) := ⟨hF, HW3.out.size⟩
      have HCU : Hid (w3.cell? ⟨ba, oa + i, none⟩ = some (.slice ua (lat v.levels i).length uc)) := (HW3.out.cell (p := ⟨ba, oa + i, none⟩) hF).trans hcu
      have HLL := Lib.hid (HLE.out i hi5)
      have HKL := Lib.hid (HKY.out i hi5)
      have HXL : Hid ((wAdds v.levels i).length ≤ 50000) := Nat.le_trans (wAdds_len (n := 10000) HLE.out i hi) (by omega)
      have HWN : Hid (wAdds v.levels (i + 1) = wAdds v.levels i ++ levAdds i (lat v.levels i)) := rfl
      obtain ⟨l, hl⟩ : ∃ l, lat v.levels i = l := ⟨_, rfl⟩
      rw [hl] at HU HLL HKL HCU HWN
      obtain ⟨XS, hXS⟩ : ∃ x, wAdds v.levels i = x := ⟨_, rfl⟩
      rw [hXS] at HV HXL HWN
      obtain ⟨n, hn⟩ : ∃ n, l.length = n := ⟨_, rfl⟩
      have HN := Lib.hid hn
      rw [hn] at HU HLL HCU
      clear e2 hca hu hba hil hl hn hcu hF hXS
      go_wp2_with fail
      clear x0
      generalize wr = wo at *
      go_loopw [7] (fun kv wr => ∃ (k : Nat) (av : Value), kv = .int .i64 (k : Int) ∧ k ≤ n ∧ Hid (WhAt b1 eb v (.slice (some ⟨ba, oa, none⟩) 5 ca) av (XS ++ levAdds i (l.take k)) w3 wr)) (fun kv _ => n - (intOf kv).toNat)
      case atStart => exact ⟨0, _, rfl, by omega, by show WhAt _ _ _ _ _ _ _ _; rw [show XS ++ levAdds i (l.take 0) = XS from List.append_nil _]; exact HV.out⟩
      case round =>
        obtain ⟨k, av, rfl, hk, HV2⟩ := hrel
        clear HV
        have HEB : Hid (eb < w3.heap.size ∧ w.heap.size ≤ eb ∧ w3.heap.size ≤ wr.heap.size) := ⟨HV2.out.lt.2, HRE.out.2, HV2.out.wr.size⟩
        have HCE : Hid (∀ p : Addr, p.block < w.heap.size → wr.cell? p = w3.cell? p) := fun p hp => World.cell?_of_block (HV2.out.wr.block p.block (by have := HBA.out.2; omega) (by have := HEB.out.2.1; omega))
        have x0 : wr.cell? ⟨b1, 0, none⟩ = some (.slice (some ⟨ba, oa, none⟩) 5 ca) := HV2.out.src.cell rfl
        have c0 : wr.cell? ⟨ba, oa + i, none⟩ = some (.slice ua n uc) := (HCE.out ⟨ba, oa + i, none⟩ HBA.out.1).trans HCU.out
        by_cases hkn : k < n
        · have u0 : n ≤ 10000 := HLL.out
          have u1 : (k : Int) < (n : Int) := by omega
          have u2 : 0 ≤ (k : Int) := by omega
          have hkl : k < l.length := by rw [HN.out]; exact hkn
          have hU2 : Rw filK (fun k => k < w.heap.size) wr (.slice ua n uc) l := HU.out.keep fun k hk hF => HV2.out.wr.block k hk (by have := HEB.out.2.1; omega)
          obtain ⟨bf, of, cap, eu, hbf, _, hcf⟩ := fils_at hU2 (by omega)
          obtain ⟨vl, vm, hp1, hp2, hwf, hp6⟩ := hcf k hkl
          rw [HN.out] at eu
          injection eu with e1 e2 e3
          subst e1 e3
          have HT2 : Hid ((XS ++ levAdds i (l.take k)) ++ [((i : Int), fat l k)] = XS ++ levAdds i (l.take (k + 1))) := by show _ = _; rw [List.append_assoc, levAdds_more hkl]
          have HK2 := Lib.hid (HKL.out _ (fat_mem hkl))
          have HL2 : Hid ((XS ++ levAdds i (l.take k)).length < 1000000) := by
            show _ < _
            unfold levAdds
            have := HXL.out
            rw [List.length_append, List.length_map, List.length_take]
            omega
          obtain ⟨f, hf⟩ : ∃ f, fat l k = f := ⟨_, rfl⟩
          rw [hf] at hp1 hp2 hp6 HT2 HK2 hwf
          obtain ⟨fa, fc, rfl⟩ := hp1.isSlice
          obtain ⟨ga, gc, rfl⟩ := hp2.isSlice
          have HV1 := Lib.hid hp1
          have HV22 := Lib.hid hp2
          have HWFF := Lib.hid hwf
          have HP6 := Lib.hid hp6
          have HBF : Hid (bf < w.heap.size) := hbf
          obtain ⟨XK, hXK⟩ : ∃ x, XS ++ levAdds i (l.take k) = x := ⟨_, rfl⟩
          rw [hXK] at HV2 HT2 HL2
          obtain ⟨pa, pc, rfl⟩ := HV2.out.row.isSlice
          obtain ⟨np, hnp⟩ : ∃ x, XK.length = x := ⟨_, rfl⟩
          rw [hnp] at HV2
          have HKP : Hid (∀ W, Below w3.heap.size wr W → (W.cell? ⟨b1, 0, none⟩ = some (.slice (some ⟨ba, oa, none⟩) 5 ca) ∧ W.cell? ⟨ba, oa + i, none⟩ = some (.slice (some ⟨bf, of, none⟩) n uc) ∧ W.cell? ⟨bf, of + k * 6, none⟩ = some (.int .u64 f.num) ∧ W.cell? ⟨bf, of + k * 6 + 1, none⟩ = some (.int .i64 f.size) ∧ W.cell? ⟨bf, of + k * 6 + 2, none⟩ = some (.slice fa f.least.length fc) ∧ W.cell? ⟨bf, of + k * 6 + 3, none⟩ = some (.slice ga f.most.length gc) ∧ W.cell? ⟨bf, of + k * 6 + 4, none⟩ = some (.int .i64 f.ents) ∧ W.cell? ⟨bf, of + k * 6 + 5, none⟩ = some (.int .u64 f.mseq) ∧ W.cell? ⟨eb, 1, none⟩ = some (.slice pa np pc))) := fun W hb => by
            have hc : ∀ p : Addr, p.block < w.heap.size → W.cell? p = wr.cell? p := fun p hp => hb.cell (by have := HBA.out.2; omega)
            obtain ⟨q0, q1, q2, q3, q4, q5⟩ := HP6.out
            exact ⟨(HV2.out.src.below hb HV2.out.lt.1).cell rfl, (hc ⟨ba, oa + i, none⟩ HBA.out.1).trans c0, (hc ⟨bf, of + k * 6, none⟩ HBF.out).trans q0, (hc ⟨bf, of + k * 6 + 1, none⟩ HBF.out).trans q1, (hc ⟨bf, of + k * 6 + 2, none⟩ HBF.out).trans q2, (hc ⟨bf, of + k * 6 + 3, none⟩ HBF.out).trans q3, (hc ⟨bf, of + k * 6 + 4, none⟩ HBF.out).trans q4, (hc ⟨bf, of + k * 6 + 5, none⟩ HBF.out).trans q5, (HV2.out.out.below hb HV2.out.lt.2).cell rfl⟩
          have D0 : Below wr.heap.size wr wr.drew := below_drew (Below.refl _ _)
          have hHeld := HKP.out _ (D0.mono HEB.out.2.2)
          clear hp1 hp2 hp6 hf hkl hnp hXK hcf hbf hwf e2 hU2 HCE
          go_upto_region 11 with fail
          clear x0 c0
          refine wp_region_last (S := fun W => (W.cell? ⟨b1, 0, none⟩ = some (.slice (some ⟨ba, oa, none⟩) 5 ca) ∧ W.cell? ⟨ba, oa + i, none⟩ = some (.slice (some ⟨bf, of, none⟩) n uc) ∧ W.cell? ⟨bf, of + k * 6, none⟩ = some (.int .u64 f.num) ∧ W.cell? ⟨bf, of + k * 6 + 1, none⟩ = some (.int .i64 f.size) ∧ W.cell? ⟨bf, of + k * 6 + 2, none⟩ = some (.slice fa f.least.length fc) ∧ W.cell? ⟨bf, of + k * 6 + 3, none⟩ = some (.slice ga f.most.length gc) ∧ W.cell? ⟨bf, of + k * 6 + 4, none⟩ = some (.int .i64 f.ents) ∧ W.cell? ⟨bf, of + k * 6 + 5, none⟩ = some (.int .u64 f.mseq) ∧ W.cell? ⟨eb, 1, none⟩ = some (.slice pa np pc))) (n := 16) (l := ?lT) (o := ?oT) rfl ?hlT ?hoT ?hnT ?hbT ?hgT ?hT
          case hlT => simp only [List.dropLast]; rfl
          case hoT => rfl
          case hnT => rfl
          case hbT => kernel_rfl
          case hgT => rfl
          skip
          refine wpAnyH_take (i := 0) (oi := ?oA_1_0) (v := ?vA_1_0) ?eA_1_0 (by kernel_rfl) (by kernel_rfl) (by kernel_rfl) ?qA_1_0 (Or.inl ⟨?wA_1_0, ?yA_1_0⟩) (by assumption) ?rA_1_0
          case eA_1_0 => simp only [List.getElem?_toArray, List.getElem?_cons_zero]; rfl
          case wA_1_0 => rfl
          case qA_1_0 => exact fun _ _ _ h => h
          case yA_1_0 => (intro w hSw; (try dsimp only at hSw); go_simp; try with_reducible rfl)
          try simp only [Act.put, List.setIfInBounds_toArray, List.set_cons_zero, List.set_cons_succ]
          refine wpAnyH_take (i := 1) (oi := ?oA_2_1) (v := ?vA_2_1) ?eA_2_1 (by kernel_rfl) (by kernel_rfl) (by kernel_rfl) ?qA_2_1 (Or.inl ⟨?wA_2_1, ?yA_2_1⟩) (by assumption) ?rA_2_1
          case eA_2_1 => simp only [List.getElem?_toArray, List.getElem?_cons_succ, List.getElem?_cons_zero]; rfl
          case wA_2_1 => rfl
          case qA_2_1 => exact fun _ _ _ h => h
          case yA_2_1 => (intro w hSw; (try dsimp only at hSw); go_simp; try with_reducible rfl)
          try simp only [Act.put, List.setIfInBounds_toArray, List.set_cons_zero, List.set_cons_succ]
          refine wpAnyH_take (i := 2) (oi := ?oA_3_2) (v := ?vA_3_2) ?eA_3_2 (by kernel_rfl) (by kernel_rfl) (by kernel_rfl) ?qA_3_2 (Or.inl ⟨?wA_3_2, ?yA_3_2⟩) (by assumption) ?rA_3_2
          case eA_3_2 => simp only [List.getElem?_toArray, List.getElem?_cons_succ, List.getElem?_cons_zero]; rfl
          case wA_3_2 => rfl
          case qA_3_2 => exact fun _ _ _ h => h
          case yA_3_2 => (intro w hSw; (try dsimp only at hSw); go_simp; try with_reducible rfl)
          try simp only [Act.put, List.setIfInBounds_toArray, List.set_cons_zero, List.set_cons_succ]
          refine wpAnyH_take (i := 3) (oi := ?oA_4_3) (v := ?vA_4_3) ?eA_4_3 (by kernel_rfl) (by kernel_rfl) (by kernel_rfl) ?qA_4_3 (Or.inl ⟨?wA_4_3, ?yA_4_3⟩) (by assumption) ?rA_4_3
          case eA_4_3 => simp only [List.getElem?_toArray, List.getElem?_cons_succ, List.getElem?_cons_zero]; rfl
          case wA_4_3 => rfl
          case qA_4_3 => exact fun _ _ _ h => h
          case yA_4_3 => (intro w hSw; (try dsimp only at hSw); go_simp; try with_reducible rfl)
          try simp only [Act.put, List.setIfInBounds_toArray, List.set_cons_zero, List.set_cons_succ]
          refine wpAnyH_take (i := 4) (oi := ?oA_5_4) (v := ?vA_5_4) ?eA_5_4 (by kernel_rfl) (by kernel_rfl) (by kernel_rfl) ?qA_5_4 (Or.inl ⟨?wA_5_4, ?yA_5_4⟩) (by assumption) ?rA_5_4
          case eA_5_4 => simp only [List.getElem?_toArray, List.getElem?_cons_succ, List.getElem?_cons_zero]; rfl
          case wA_5_4 => rfl
          case qA_5_4 => exact fun _ _ _ h => h
          case yA_5_4 => (intro w hSw; (try dsimp only at hSw); go_simp; try with_reducible rfl)
          try simp only [Act.put, List.setIfInBounds_toArray, List.set_cons_zero, List.set_cons_succ]
          refine wpAnyH_take (i := 5) (oi := ?oA_6_5) (v := ?vA_6_5) ?eA_6_5 (by kernel_rfl) (by kernel_rfl) (by kernel_rfl) ?qA_6_5 (Or.inl ⟨?wA_6_5, ?yA_6_5⟩) (by assumption) ?rA_6_5
          case eA_6_5 => simp only [List.getElem?_toArray, List.getElem?_cons_succ, List.getElem?_cons_zero]; rfl
          case wA_6_5 => rfl
          case qA_6_5 => exact fun _ _ _ h => h
          case yA_6_5 => (intro w hSw; (try dsimp only at hSw); go_simp; try with_reducible rfl)
          try simp only [Act.put, List.setIfInBounds_toArray, List.set_cons_zero, List.set_cons_succ]
          refine wpAnyH_take (i := 6) (oi := ?oA_7_6) (v := ?vA_7_6) ?eA_7_6 (by kernel_rfl) (by kernel_rfl) (by kernel_rfl) ?qA_7_6 (Or.inl ⟨?wA_7_6, ?yA_7_6⟩) (by assumption) ?rA_7_6
          case eA_7_6 => simp only [List.getElem?_toArray, List.getElem?_cons_succ, List.getElem?_cons_zero]; rfl
          case wA_7_6 => rfl
          case qA_7_6 => exact fun _ _ _ h => h
          case yA_7_6 => (intro w hSw; (try dsimp only at hSw); go_simp; try with_reducible rfl)
          try simp only [Act.put, List.setIfInBounds_toArray, List.set_cons_zero, List.set_cons_succ]
          refine wpAnyH_take (i := 7) (oi := ?oA_8_7) (v := ?vA_8_7) ?eA_8_7 (by kernel_rfl) (by kernel_rfl) (by kernel_rfl) ?qA_8_7 (Or.inl ⟨?wA_8_7, ?yA_8_7⟩) (by assumption) ?rA_8_7
          case eA_8_7 => simp only [List.getElem?_toArray, List.getElem?_cons_succ, List.getElem?_cons_zero]; rfl
          case wA_8_7 => rfl
          case qA_8_7 => exact fun _ _ _ h => h
          case yA_8_7 => (intro w hSw; (try dsimp only at hSw); go_simp; try with_reducible rfl)
          try simp only [Act.put, List.setIfInBounds_toArray, List.set_cons_zero, List.set_cons_succ]
          refine wpAnyH_take (i := 8) (oi := ?oA_9_8) (v := ?vA_9_8) ?eA_9_8 (by kernel_rfl) (by kernel_rfl) (by kernel_rfl) ?qA_9_8 (Or.inl ⟨?wA_9_8, ?yA_9_8⟩) (by assumption) ?rA_9_8
          case eA_9_8 => simp only [List.getElem?_toArray, List.getElem?_cons_succ, List.getElem?_cons_zero]; rfl
          case wA_9_8 => rfl
          case qA_9_8 => exact fun _ _ _ h => h
          case yA_9_8 => (intro w hSw; (try dsimp only at hSw); go_simp; try with_reducible rfl)
          try simp only [Act.put, List.setIfInBounds_toArray, List.set_cons_zero, List.set_cons_succ]
          refine wpAnyH_take (i := 9) (oi := ?oA_10_9) (v := ?vA_10_9) ?eA_10_9 (by kernel_rfl) (by kernel_rfl) (by kernel_rfl) ?qA_10_9 (Or.inl ⟨?wA_10_9, ?yA_10_9⟩) (by assumption) ?rA_10_9
          case eA_10_9 => simp only [List.getElem?_toArray, List.getElem?_cons_succ, List.getElem?_cons_zero]; rfl
          case wA_10_9 => rfl
          case qA_10_9 => exact fun _ _ _ h => h
          case yA_10_9 => (intro w hSw; (try dsimp only at hSw); go_simp; try with_reducible rfl)
          try simp only [Act.put, List.setIfInBounds_toArray, List.set_cons_zero, List.set_cons_succ]
          refine wpAnyH_take (i := 10) (oi := ?oA_11_10) (v := ?vA_11_10) ?eA_11_10 (by kernel_rfl) (by kernel_rfl) (by kernel_rfl) ?qA_11_10 (Or.inl ⟨?wA_11_10, ?yA_11_10⟩) (by assumption) ?rA_11_10
          case eA_11_10 => simp only [List.getElem?_toArray, List.getElem?_cons_succ, List.getElem?_cons_zero]; rfl
          case wA_11_10 => rfl
          case qA_11_10 => exact fun _ _ _ h => h
          case yA_11_10 => (intro w hSw; (try dsimp only at hSw); go_simp; try with_reducible rfl)
          try simp only [Act.put, List.setIfInBounds_toArray, List.set_cons_zero, List.set_cons_succ]
          have hOld := hHeld
          clear hHeld
          refine wpAnyH_ready (rs := [11]) (by kernel_rfl) (by simp) ?_
          refine AllReadyH.cons (o := ?oA_12_11) ?eA_12_11 (fun K hK => ?_) AllReadyH.nil
          case eA_12_11 => simp only [List.getElem?_toArray, List.getElem?_cons_succ, List.getElem?_cons_zero]; rfl
          go_simp
          (go_at_call 82; refine Calls.mono (rown_any _ _ f _ _ _ (HV1.out.below D0) (HV22.out.below D0) (Nat.le_trans HK2.out.1 (by decide)) (Nat.le_trans HK2.out.2 (by decide))) ?_; rintro _ x0 ⟨ol, om, rfl, ho1, ho2, hb0⟩; have D1 : Below wr.heap.size wr x0 := D0.trans (hb0.mono D0.size); clear hb0; obtain ⟨oa1, oc1, rfl⟩ := ho1.isSlice; obtain ⟨oa2, oc2, rfl⟩ := ho2.isSlice; unfold filCells)
          try go_wp2_with fail
          refine hK.out _ _ (HKP.out _ (D1.mono HEB.out.2.2)) (fun hHeld => ?_)
          clear hK hOld
          try simp only [Act.put, List.setIfInBounds_toArray, List.set_cons_zero, List.set_cons_succ]
          refine wpAnyH_take (i := 12) (oi := ?oA_13_12) (v := ?vA_13_12) ?eA_13_12 (by kernel_rfl) (by kernel_rfl) (by kernel_rfl) ?qA_13_12 (Or.inl ⟨?wA_13_12, ?yA_13_12⟩) (by assumption) ?rA_13_12
          case eA_13_12 => simp only [List.getElem?_toArray, List.getElem?_cons_succ, List.getElem?_cons_zero]; rfl
          case wA_13_12 => rfl
          case qA_13_12 => exact fun _ _ _ h => h
          case yA_13_12 => (intro w hSw; (try dsimp only at hSw); go_simp; try with_reducible rfl)
          try simp only [Act.put, List.setIfInBounds_toArray, List.set_cons_zero, List.set_cons_succ]
          have hOld := hHeld
          clear hHeld
          refine wpAnyH_ready (rs := [13]) (by kernel_rfl) (by simp) ?_
          refine AllReadyH.cons (o := ?oA_14_13) ?eA_14_13 (fun K hK => ?_) AllReadyH.nil
          case eA_14_13 => simp only [List.getElem?_toArray, List.getElem?_cons_succ, List.getElem?_cons_zero]; rfl
          go_simp
          skip
          try go_wp2_with fail
          refine hK.out _ _ (HKP.out _ ((show Below wr.heap.size wr _ from (by repeat (first | assumption | exact Below.refl _ _ | with_reducible refine below_drew ?_ | with_reducible refine below_al ?_ _))).mono HEB.out.2.2)) (fun hHeld => ?_)
          clear hK hOld
          try simp only [Act.put, List.setIfInBounds_toArray, List.set_cons_zero, List.set_cons_succ]
          have hOld := hHeld
          clear hHeld
          refine wpAnyH_ready (rs := [14]) (by kernel_rfl) (by simp) ?_
          refine AllReadyH.cons (o := ?oA_15_14) ?eA_15_14 (fun K hK => ?_) AllReadyH.nil
          case eA_15_14 => simp only [List.getElem?_toArray, List.getElem?_cons_succ, List.getElem?_cons_zero]; rfl
          (refine step_append_elG (K := addK) (by rfl) 55 104 _ 88 Try.underlying55 info_addO (by rfl) (fun j => w3.heap.size ≤ j) w3.heap.size _ XK _ 104 (addCells (i : Int) f (.slice oa1 f.least.length oc1) (.slice oa2 f.most.length oc2)).toArray ((i : Int), f) (.tmp 39) (.tmp 51) (by rfl) (by rfl) (by rfl) (HV2.out.row.below (by repeat (first | assumption | exact Below.refl _ _ | with_reducible refine below_drew ?_ | with_reducible refine below_al ?_ _))) (Blk.at_new rfl rfl) ⟨_, _, rfl, ⟨by omega, by omega⟩, (ho1.below (below_al (Below.refl _ _) _)).mono fun j hj hx => ⟨Nat.le_trans HEB.out.2.2 hx, fun e0 => by have := (HV2.out.row.lt j e0).2; have hx : wr.heap.size ≤ j := hx; omega⟩, (ho2.below (below_al (Below.refl _ _) _)).mono fun j hj hx => ⟨Nat.le_trans HEB.out.2.2 hx, fun e0 => by have := (HV2.out.row.lt j e0).2; have hx : wr.heap.size ≤ j := hx; omega⟩, HWFF.out⟩ HL2.out (by decide) (Nat.le_trans HEB.out.2.2 (Below.size (B := wr.heap.size) (by repeat (first | assumption | exact Below.refl _ _ | with_reducible refine below_drew ?_ | with_reducible refine below_al ?_ _)))) ?_; intro v4 x4 h41 h42; have D4 : Below w3.heap.size wr x4 := ((show Below wr.heap.size wr _ from (by repeat (first | assumption | exact Below.refl _ _ | with_reducible refine below_drew ?_ | with_reducible refine below_al ?_ _))).mono HEB.out.2.2).trans (h42.below (Nat.le_trans HEB.out.2.2 (Below.size (B := wr.heap.size) (by repeat (first | assumption | exact Below.refl _ _ | with_reducible refine below_drew ?_ | with_reducible refine below_al ?_ _)))) fun j e0 => (HV2.out.row.lt j e0).1); rw [HT2.out] at h41; obtain ⟨q6, n6, e6⟩ := h41.isSlice; obtain ⟨nL, hnL⟩ : ∃ x, (XS ++ levAdds i (l.take (k + 1))).length = x := ⟨_, rfl⟩; rw [hnL] at e6; subst e6)
          try go_wp2_with fail
          refine hK.out _ _ (HKP.out _ D4) (fun hHeld => ?_)
          clear hK hOld
          try simp only [Act.put, List.setIfInBounds_toArray, List.set_cons_zero, List.set_cons_succ]
          refine wpAnyH_take (i := 15) (oi := ?oA_16_15) (v := ?vA_16_15) ?eA_16_15 (by kernel_rfl) (by kernel_rfl) (by kernel_rfl) ?qA_16_15 (Or.inl ⟨?wA_16_15, ?yA_16_15⟩) (by assumption) ?rA_16_15
          case eA_16_15 => simp only [List.getElem?_toArray, List.getElem?_cons_succ, List.getElem?_cons_zero]; rfl
          case wA_16_15 => rfl
          case qA_16_15 => exact fun _ _ _ h => h
          case yA_16_15 => (intro w hSw; (try dsimp only at hSw); go_simp; try with_reducible rfl)
          try simp only [Act.put, List.setIfInBounds_toArray, List.set_cons_zero, List.set_cons_succ]
          refine wpAnyH_done (by kernel_rfl) ?_ _
          have r0 : x4.cell? ⟨eb, 1, none⟩ = some (.slice pa np pc) := (HV2.out.out.below D4 HV2.out.lt.2).cell rfl
          have f0 := (HV2.out.out.below D4 HV2.out.lt.2).free 1
          have HV8 := Lib.hid (HV2.out.grow D4 h41)
          clear ho1 ho2 h41 h42 HKP D0 D1 D4 hHeld HV2
          refine thenLast_of fun K hK => ?_
          go_wp2_with fail
          refine hK.out _ _ ?_
          clear hK r0 f0
          go_wp2_with fail
          go_roundw
          · exact ⟨k + 1, _, by go_num, by omega, HV8.out⟩
          · simp only [intOf]; omega
        · have u1 : ¬ (k : Int) < (n : Int) := by omega
          obtain rfl : k = n := by omega
          have HV3 : Hid (WhAt b1 eb v (.slice (some ⟨ba, oa, none⟩) 5 ca) av (wAdds v.levels (i + 1)) w3 wr) := by
            have h1 := HV2.out
            rw [show l.take k = l by rw [← HN.out, List.take_length], ← HWN.out] at h1
            exact h1
          clear HV2
          go_wp2_with fail
          go_roundw
          · exact ⟨i + 1, _, by go_num, by omega, HV3.out⟩
          · simp only [intOf]; omega
    · have t1 : ¬ (i : Int) < 5 := by omega
      obtain rfl : i = 5 := by omega
      have HF : Hid (wholeW v = (wholeE v, 0)) := wholeW_ok HC.out
      obtain ⟨pa, pc, rfl⟩ := HV.out.row.isSlice
      obtain ⟨np, hnp⟩ : ∃ x, (wAdds v.levels 5).length = x := ⟨_, rfl⟩
      rw [hnp] at HV
      have HRw : Hid (Blk wr rb zero5 57) := HR3.out.same (HV.out.wr.block rb HR3.out.lt HRE.out.1)
      have HBW : Hid (Below w.heap.size w wr) := HW3.out.trans (HV.out.wr.below HW3.out.size fun k hk => by rw [hk]; exact HRE.out.2)
      obtain ⟨z0, z1, z2, z3, z4, f0, f1, f2, f3, f4⟩ := zero5_cells HRw.out
      have y0 : wr.cell? ⟨eb, 0, none⟩ = some (.slice none 0 0) := HV.out.out.cell rfl
      have y1 : wr.cell? ⟨eb, 1, none⟩ = some (.slice pa np pc) := HV.out.out.cell rfl
      have y2 : wr.cell? ⟨eb, 2, none⟩ = some (.int .u64 v.next) := HV.out.out.cell rfl
      have y3 : wr.cell? ⟨eb, 3, none⟩ = some (.int .u64 v.seq) := HV.out.out.cell rfl
      have y4 : wr.cell? ⟨eb, 4, none⟩ = some (.int .u64 v.log) := HV.out.out.cell rfl
      go_wp2_with fail
      clear x0 y0 y1 y2 y3 y4 z0 z1 z2 z3 z4 f0 f1 f2 f3 f4
      refine bodyPost_ret (results_cell_tmp1 (p := 2) (t := 3) rfl _ _ rb 57 #[.slice none 0 0, .slice pa np pc, .int .u64 v.next, .int .u64 v.seq, .int .u64 v.log] _ rfl (blk_set5 HRw.out rfl _ _ _ _ _) Try.underlying57 rfl (by kernel_rfl)) rfl ?_
      rw [HF.out]
      refine ⟨.slice none 0 0, .slice pa np pc, rfl, ⟨Rw.nil _ _ _, ?_, HWF.out.1, HWF.out.2.1, HWF.out.2.2⟩, below_set5 HBW.out HNE.out⟩
      have h1 := HV.out.row.rows
      refine (h1.keep fun k hk hx => (wrote_set5 rb wr _ _ _ _ _).block k hk fun e => ?_).any
      have h2 : w3.heap.size ≤ k := hx.elim (fun e => (HV.out.row.lt k e).1) fun e => e.1
      have := HR3.out.lt
      omega
end Go.Proofs.Ytkcohhldmhdcfaa
