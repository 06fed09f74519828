/- Chapter 14's document: Next. -/
import Derived.Test.YtkcohhldmhdcfaaVkAa
namespace Go.Proofs.Ytkcohhldmhdcfaa
open Go.RowKit

/-- append of things that lay there (in wb), at a step of a region that draws its order. -/
theorem step_append_at {α : Type} {K : Kind α} {P : Program} {ops : Array Oper} {o : Oper} {a : Act} {C : Act → World → Prop} {Q : Exit → Act → World → Prop} {E : Prop} (hgd : o.guard = none) (t e : TypeId) (z : Value) (bytes : Nat) (ht : P.underlying t = some (.slice e))
    (hinfo : (P.info? e).map (fun i => (i.zero, i.size, i.bytes)) = some (some z, K.sz, bytes)) (hzs : z.cells.size = K.sz)
    (F : Nat → Prop) (wb W : World) (v : Value) (xs : List α) (v2 : Value) (ys : List α) (s x : Operand)
    (ho : o.op = .call { callee := .builtin .append, args := #[s, x], argTypes := #[t, t] })
    (hs : a.eval s = v) (hx : a.eval x = v2) (hown : RO K F wb.heap.size e W v xs) (hbW : Below wb.heap.size wb W) (cs2 : List Value) (G R : Nat → Prop) (hsrc : Sl G wb K.sz v2 ys.length cs2)
    (hels : Els K R wb cs2 ys) (hR : ∀ k, k < wb.heap.size → R k → F k) (hFb : ∀ k, F k → k < wb.heap.size) (hm : xs.length + ys.length ≤ 1000000) (hby : bytes ≤ 100000)
    (h : ∀ v' w', RO K F wb.heap.size e w' v' (xs ++ ys) → Below wb.heap.size wb w' → (∀ k, k < W.heap.size → v.ownBlock ≠ some k → w'.heap[k]? = W.heap[k]?) → C (a.put o.dst v') w') :
    if Region.wanted o (yielded ops a.tmps) = true then Oper.wp P o a W C Q else E := by
  refine step_append_RO hgd t e z bytes ht hinfo hzs F wb.heap.size v xs v2 ys s x ho hs hx hown cs2 G (hsrc.keep fun k hk _ => hbW.block k hk) ?_ (fun k hk => Nat.lt_of_lt_of_le (hFb k hk) hbW.size) hm hby hbW.size
    fun v' w' h1 h2 h3 => h v' w' h1 (hbW.trans h2) h3
  exact ((hels.mono (F' := F) hR).keep fun k hk _ => hbW.block k hk).mono fun k _ hF => ⟨hF, fun e => by have := hown.base_le k e; have := hFb k hF; omega⟩

/-- append of one thing that lies in a block of its own. -/
theorem step_append_one_at {α : Type} {K : Kind α} {P : Program} {ops : Array Oper} {o : Oper} {a : Act} {C : Act → World → Prop} {Q : Exit → Act → World → Prop} {E : Prop} (hgd : o.guard = none) (t e : TypeId) (z : Value) (bytes : Nat) (ht : P.underlying t = some (.slice e))
    (hinfo : (P.info? e).map (fun i => (i.zero, i.size, i.bytes)) = some (some z, K.sz, bytes)) (hzs : z.cells.size = K.sz)
    (F : Nat → Prop) (wb W : World) (v : Value) (xs : List α) (k0 : Nat) (c : Array Value) (y : α) (s x : Operand)
    (ho : o.op = .call { callee := .builtin .append, args := #[s, x], argTypes := #[t, t] })
    (hs : a.eval s = v) (hx : a.eval x = .slice (some ⟨k0, 0, none⟩) 1 1) (hown : RO K F wb.heap.size e W v xs) (hbW : Below wb.heap.size wb W) (hblk : Blk W k0 c e)
    (R : Nat → Prop) (hel : K.R R wb c.toList y) (hR : ∀ k, k < wb.heap.size → R k → F k) (hFb : ∀ k, F k → k < wb.heap.size) (hm : xs.length < 1000000) (hby : bytes ≤ 100000)
    (h : ∀ v' w', RO K F wb.heap.size e w' v' (xs ++ [y]) → Below wb.heap.size wb w' → C (a.put o.dst v') w') :
    if Region.wanted o (yielded ops a.tmps) = true then Oper.wp P o a W C Q else E := by
  have hcl := K.len hel
  have hsl : Sl (fun k => k = k0) W K.sz (.slice (some ⟨k0, 0, none⟩) 1 1) ([y] : List α).length c.toList := by
    refine ⟨_, _, rfl, Nat.le_refl _, by simp [maxLen], by simp, by rw [hcl]; simp, fun j u hj => ⟨_, rfl, rfl, ?_⟩⟩
    rw [add_plain']
    exact hblk.cell (by simpa using hj)
  refine step_append_RO hgd t e z bytes ht hinfo hzs F wb.heap.size v xs _ [y] s x ho hs hx hown _ _ hsl ?_ (fun k hk => Nat.lt_of_lt_of_le (hFb k hk) hbW.size) (by simp only [List.length_singleton]; omega) hby hbW.size
    fun v' w' h1 h2 h3 => h v' w' h1 (hbW.trans h2)
  exact (((Els.single hel).mono (F' := F) hR).keep fun k hk _ => hbW.block k hk).mono fun k _ hF => ⟨hF, fun e => by have := hown.base_le k e; have := hFb k hF; omega⟩

theorem RO.newP {α : Type} {K : Kind α} {F : Nat → Prop} {base e k : Nat} {w : World} (h : base ≤ k) : RO K F base e w (.slice (some ⟨k, 0, none⟩) 0 0) [] := .inl ⟨rfl, k, h, rfl⟩
/-- append of bytes onto an empty literal, in a row of the text's order. -/
theorem wpList_append_newb {ops : Array Oper} {rest : List Oper} {w : World} {o : Oper} {a : Act} {Q : Exit → Act → World → Prop} (hgd : o.guard = none) (k : Nat) (G : Nat → Prop) (x' : Value) (bs : List UInt8) (s x : Operand)
    (ho : o.op = .call { callee := .builtin .append, args := #[s, x], argTypes := #[34, 34] })
    (hs : a.eval s = .slice (some ⟨k, 0, none⟩) 0 0) (hx : a.eval x = x') (hsrc : Bytes G w x' bs) (hl : bs.length ≤ 140737488355328)
    (h : ∀ v' w', Bytes (fun j => w.heap.size ≤ j) w' v' bs → Below w.heap.size w w' → wpList Try.prog ops Q rest (a.put o.dst v') w') : wpList Try.prog ops Q (o :: rest) a w := by
  obtain ⟨i0, hi, hz0, hz1, hz2⟩ := info_parts info_u8
  obtain ⟨v', w', hr, hb, hc⟩ := run_append_new (P := Try.prog) 34 o.type 5 i0 (.int .u8 0) 1 1 Try.underlying34 hi hz0 hz1 hz2 rfl (by decide) k w x' bs.length (u8s bs) hsrc (u8s_one bs) (by omega)
  refine wpList_plain hgd fun K hK => ?_
  unfold Oper.wp execOp
  simp only [ho, resolve, invoke, builtin, Sem.run_bind, Sem.run_pure, Result.andThen_ok, List.map_toArray, List.map_cons, List.map_nil, hs, hx, hr]
  refine hK _ _ (h v' w' ?_ hb)
  rcases hc with ⟨h0, rfl, rfl⟩ | ⟨h0, how⟩
  · obtain rfl : bs = [] := List.eq_nil_of_length_eq_zero h0
    exact ⟨_, 0, rfl, Nat.le_refl _, by simp [maxLen], (fun h => by cases h), by simp [u8s], fun j u hj => by simp [u8s] at hj⟩
  · exact (Sl.of_owns how).mono fun j _ e => (World.ownsRow.lt how j e).1

theorem nextW_chk {v : Ver} {s : Stp} (h : chkW v ≠ 0) : nextW v s = chkW v := by
  have h1 : mayW v s = chkW v := by unfold mayW Ent.lex; simp [h]
  unfold nextW
  rw [h1, if_pos h]
theorem nextW_stp {v : Ver} {s : Stp} (hc : chkW v = 0) (h : stpW s ≠ 0) : nextW v s = 2 := by
  have h2 : stpW s = 2 := by
    by_cases hf : s.Fine
    · exact absurd (stpW_yes hf) h
    · exact stpW_no hf
  have h1 : mayW v s = 2 := by unfold mayW Ent.lex; simp [hc, h2]
  unfold nextW
  rw [h1, if_pos (by decide)]
theorem nextW_rest {v : Ver} {s : Stp} (hm : mayW v s = 0) : nextW v s = if restB v s = true then 6 else 0 := by
  unfold nextW restB
  rw [if_neg (by simp [hm])]
  simp [hm]
theorem Rw.offJ {α : Type} {K : Kind α} {w : World} {v : Value} {xs : List α} {jb rb : Nat} {x0 x1 x2 x3 x4 x5 : Value} (h : Rw K (fun k => k ≠ jb ∧ k ≠ rb) w v xs) : Rw K Any ((((((w.setCell ⟨rb, 0, none⟩ x0).setCell ⟨rb, 1, none⟩ x1).setCell ⟨rb, 2, none⟩ x2).setCell ⟨rb, 3, none⟩ x3).setCell ⟨rb, 4, none⟩ x4).setCell ⟨rb, 5, none⟩ x5) v xs :=
  ((((((h.off_set _ _ fun _ hk => hk.2).off_set _ _ fun _ hk => hk.2).off_set _ _ fun _ hk => hk.2).off_set _ _ fun _ hk => hk.2).off_set _ _ fun _ hk => hk.2).off_set _ _ fun _ hk => hk.2).mono fun _ _ _ => trivial
theorem Bytes.offJ {w : World} {v : Value} {bs : List UInt8} {jb rb : Nat} {x0 x1 x2 x3 x4 x5 : Value} (h : Bytes (fun k => k ≠ jb ∧ k ≠ rb) w v bs) : Bytes Any ((((((w.setCell ⟨rb, 0, none⟩ x0).setCell ⟨rb, 1, none⟩ x1).setCell ⟨rb, 2, none⟩ x2).setCell ⟨rb, 3, none⟩ x3).setCell ⟨rb, 4, none⟩ x4).setCell ⟨rb, 5, none⟩ x5) v bs :=
  ((((((h.off_set _ _ fun _ hk => hk.2).off_set _ _ fun _ hk => hk.2).off_set _ _ fun _ hk => hk.2).off_set _ _ fun _ hk => hk.2).off_set _ _ fun _ hk => hk.2).off_set _ _ fun _ hk => hk.2).mono fun _ _ _ => trivial
theorem worst_lt5 (v : Ver) (s : Stp) {k : Nat} (hk : k ≤ 5) : (worstTo v s k).1 < 5 := by
  induction k with
  | zero => exact Nat.zero_lt_succ _
  | succ k ih =>
    rw [worstTo]
    split
    · show k < 5; omega
    · exact ih (by omega)
set_option maxRecDepth 100000 in
set_option maxHeartbeats 16000000 in
theorem rnext_any (F : Nat → Prop) (v : Ver) (s : Stp) (lv : Value) (w : World) (h : Rw (rowK filK) F w lv v.levels) (hw : v.wf) (hfew : cntTo v.levels v.levels.length ≤ 100) :
    Calls Try.prog 22 #[.agg (verCells v lv).toArray, .agg (stpCells s).toArray] w (fun x w' => (nextW v s ≠ 0 → x = .returned (.tuple #[.agg job0.toArray, .int .i64 (nextW v s)])) ∧
      (nextW v s = 0 → ∃ u lo le mo, x = .returned (.tuple #[.agg (jobC (jLev v s : Int) u lo le mo (jBot v (jLev v s))).toArray, .int .i64 0]) ∧ JobAt Any w' (jUp v (jLev v s)) (jLo v (jLev v s)) (leastOf (jAll v (jLev v s))) (mostOf (jAll v (jLev v s))) u lo le mo) ∧ Below w.heap.size w w') := by
  have h := h.mono (F' := (· < w.heap.size)) fun k hk _ => hk
  have HCK := Lib.hid (fun w' (hb : Below w.heap.size w w') => rcheck_any _ v lv w' (h.below hb) hw (by omega))
  have HST := Lib.hid (fun w' => rsetup_any s w')
  have HRE := Lib.hid (fun w' (hb : Below w.heap.size w w') => rrest_any _ v s lv w' (h.below hb) hw hfew)
  have HSC := Lib.hid (fun (lev : Int) w' (hb : Below w.heap.size w w') => rscore_any _ v s lv lev w' (h.below hb) hw hfew)
  have HUP := Lib.hid (fun (hc : chkW v = 0) (i : Nat) (hp : 0 < (lat v.levels i).length) (hi : i < 5) w' (hb : Below w.heap.size w w') => rupper_any _ v lv i w' (h.below hb) hw hc hfew hp hi)
  have HOV := Lib.hid (fun (lev : Int) w' (hb : Below w.heap.size w w') (ls ms : List UInt8) (q1 q2 : Value) (L M : Nat → Prop) (g1 : Bytes L w' q1 ls) (g2 : Bytes M w' q2 ms) => roverlap_any _ L M v lv lev ls ms q1 q2 w' (h.below hb) hw hfew g1 g2)
  have HDE := Lib.hid (fun (lev : Int) w' (hb : Below w.heap.size w w') (ls ms : List UInt8) (q1 q2 : Value) (L M : Nat → Prop) (g1 : Bytes L w' q1 ls) (g2 : Bytes M w' q2 ms) => rdeepest_any _ L M v lv lev ls ms q1 q2 w' (h.below hb) hw hfew g1 g2)
  have HN1 : Hid (chkW v ≠ 0 → nextW v s = chkW v) := nextW_chk
  have HN2 : Hid (chkW v = 0 → stpW s ≠ 0 → nextW v s = 2) := nextW_stp
  have HN3 : Hid (mayW v s = 0 → nextW v s = if restB v s = true then 6 else 0) := nextW_rest
  have HJO : Hid (nextW v s = 0 → 0 < (lat v.levels (jLev v s)).length ∧ jLev v s < 4 ∧ mayW v s = 0 ∧ 100 ≤ (worstTo v s 5).2) := jLev_ok
  obtain ⟨xa, ca, rfl⟩ := h.isSlice
  clear h hw hfew
  obtain ⟨m, hm⟩ : ∃ m, v.levels.length = m := ⟨_, rfl⟩
  have HM := Lib.hid hm
  rw [hm] at HCK HRE HSC HUP HOV HDE ⊢
  clear hm
  unfold verCells at HCK HRE HSC HUP HOV HDE ⊢
  unfold stpCells at HST HRE HSC ⊢
  go_enter Try.func22, Try.ntmps22
  go_upto_region 1 with fail
  refine wp_gen fun w1 hw1 => ?_
  have HX1 : Hid (Boxed w1 w.heap.size (w.heap.size + 1) v (.slice xa m ca) s) := by rw [hw1]; exact boxed_three _ _ _ _ _
  have HR1 : Hid (Blk w1 (w.heap.size + 1 + 1) job0.toArray 36) := by rw [hw1]; exact heap_three_2 _ _ _ _
  have HW1 : Hid (Below w.heap.size w w1) := by rw [hw1]; exact below_three _ _ _ _
  clear hw1
  obtain ⟨b1, hb1⟩ : ∃ b, w.heap.size = b := ⟨_, rfl⟩
  obtain ⟨b2, hb2⟩ : ∃ b, w.heap.size + 1 = b := ⟨_, rfl⟩
  obtain ⟨rb, hrb⟩ : ∃ b, w.heap.size + 1 + 1 = b := ⟨_, rfl⟩
  have HNE : Hid (rb ≠ b1 ∧ rb ≠ b2 ∧ w.heap.size ≤ rb) := ⟨by omega, by omega, by omega⟩
  rw [hrb] at HR1 ⊢
  rw [hb2] at HX1 ⊢
  rw [hb1] at HX1
  rw [hb1]
  clear hb1 hb2 hrb
  obtain ⟨x0, x1, x2, x3, -, -, -⟩ := HX1.out.cells
  go_wp2_with fail
  clear x0 x1 x2 x3
  refine Calls.mono (HCK.out _ HW1.out) ?_
  rintro _ w2 ⟨rfl, hb⟩
  have HX2 := Lib.hid (HX1.out.below hb)
  have HR2 := Lib.hid (HR1.out.below hb HR1.out.lt)
  have HW2 : Hid (Below w.heap.size w w2) := HW1.out.trans (hb.mono HW1.out.size)
  clear hb HX1 HR1 HW1 HCK
  obtain ⟨ck, hck⟩ : ∃ c, chkW v = c := ⟨_, rfl⟩
  have HC := Lib.hid hck
  rw [hck]
  clear hck
  by_cases hc0 : ck = 0
  case neg =>
    have g0 : (ck == 0) = false := by simpa using hc0
    have g1 : (ck != 0) = true := by simpa using hc0
    have HF : Hid (nextW v s = ck) := by show _ = _; rw [HN1.out (by rw [HC.out]; exact hc0), HC.out]
    have HN0 : Hid (ck ≠ 0) := hc0
    clear hc0
    obtain ⟨z0, z1, z2, z3, z4, z5⟩ := job0_cells HR2.out
    have f0 := HR2.out.free 0
    have f1 := HR2.out.free 1
    have f2 := HR2.out.free 2
    have f3 := HR2.out.free 3
    have f4 := HR2.out.free 4
    have f5 := HR2.out.free 5
    go_wp2_with fail
    refine bodyPost_ret (results_cell_tmp1 (p := 4) (t := 5) rfl _ _ rb 36 job0.toArray _ rfl (job0_set HR2.out) Try.underlying36 rfl (by kernel_rfl)) rfl ?_
    refine ⟨fun _ => by rw [HF.out]; rfl, fun e => absurd (HF.out.symm.trans e) HN0.out, below_setJ HW2.out HNE.out.2.2⟩
  subst hc0
  obtain ⟨-, -, -, -, x4, x5, x6⟩ := HX2.out.cells
  go_wp2_with fail
  clear x4 x5 x6
  refine Calls.mono (HST.out _) ?_
  rintro _ w3 ⟨rfl, hb⟩
  have HX3 := Lib.hid (HX2.out.below hb)
  have HR3 := Lib.hid (HR2.out.below hb HR2.out.lt)
  have HW3 : Hid (Below w.heap.size w w3) := HW2.out.trans (hb.mono HW2.out.size)
  clear hb HX2 HR2 HW2 HST
  obtain ⟨sk, hsk⟩ : ∃ c, stpW s = c := ⟨_, rfl⟩
  have HS := Lib.hid hsk
  rw [hsk]
  clear hsk
  by_cases hc0 : sk = 0
  case neg =>
    have g0 : (sk == 0) = false := by simpa using hc0
    have g1 : (sk != 0) = true := by simpa using hc0
    have HF : Hid (nextW v s = 2) := HN2.out HC.out (by rw [HS.out]; exact hc0)
    have HN0 : Hid ((2 : Int) ≠ 0) := by show _ ≠ _; decide
    clear hc0
    obtain ⟨z0, z1, z2, z3, z4, z5⟩ := job0_cells HR3.out
    have f0 := HR3.out.free 0
    have f1 := HR3.out.free 1
    have f2 := HR3.out.free 2
    have f3 := HR3.out.free 3
    have f4 := HR3.out.free 4
    have f5 := HR3.out.free 5
    go_wp2_with fail
    refine bodyPost_ret (results_cell_tmp1 (p := 4) (t := 5) rfl _ _ rb 36 job0.toArray _ rfl (job0_set HR3.out) Try.underlying36 rfl (by kernel_rfl)) rfl ?_
    refine ⟨fun _ => by rw [HF.out]; rfl, fun e => absurd (HF.out.symm.trans e) HN0.out, below_setJ HW3.out HNE.out.2.2⟩
  subst hc0
  have HMY : Hid (mayW v s = 0) := mayW_of HC.out HS.out
  have HN3 := Lib.hid (HN3.out HMY.out)
  obtain ⟨x0, x1, x2, x3, x4, x5, x6⟩ := HX3.out.cells
  go_wp2_with fail
  clear x0 x1 x2 x3 x4 x5 x6
  refine Calls.mono (HRE.out _ HW3.out) ?_
  rintro _ w4 ⟨rfl, hb⟩
  have HX4 := Lib.hid (HX3.out.below hb)
  have HR4 := Lib.hid (HR3.out.below hb HR3.out.lt)
  have HW4 : Hid (Below w.heap.size w w4) := HW3.out.trans (hb.mono HW3.out.size)
  clear hb HX3 HR3 HW3 HRE HN1 HN2
  obtain ⟨rt, hrt⟩ : ∃ c, restB v s = c := ⟨_, rfl⟩
  rw [hrt] at HN3 ⊢
  clear hrt
  cases rt with
  | true =>
    have HF : Hid (nextW v s = 6) := by show _ = _; rw [HN3.out, if_pos rfl]
    have HN0 : Hid ((6 : Int) ≠ 0) := by show _ ≠ _; decide
    obtain ⟨z0, z1, z2, z3, z4, z5⟩ := job0_cells HR4.out
    have f0 := HR4.out.free 0
    have f1 := HR4.out.free 1
    have f2 := HR4.out.free 2
    have f3 := HR4.out.free 3
    have f4 := HR4.out.free 4
    have f5 := HR4.out.free 5
    go_wp2_with fail
    refine bodyPost_ret (results_cell_tmp1 (p := 4) (t := 5) rfl _ _ rb 36 job0.toArray _ rfl (job0_set HR4.out) Try.underlying36 rfl (by kernel_rfl)) rfl ?_
    refine ⟨fun _ => by rw [HF.out]; rfl, fun e => absurd (HF.out.symm.trans e) HN0.out, below_setJ HW4.out HNE.out.2.2⟩
  | false =>
  have HF : Hid (nextW v s = 0) := by show _ = _; rw [HN3.out, if_neg (by decide)]
  clear HN3
  have HWN := Lib.hid (fun k => worst_next (v := v) HS.out k)
  have HSA := Lib.hid (fun (i : Nat) (hi : i < 5) => score_at HMY.out hi)
  have HW5L := Lib.hid (fun k (hk : k ≤ 5) => worst_lt5 v s hk)
  go_wp2_with fail
  go_loopw [7, 8] (fun lev kv wr => ∃ (k : Nat), kv = .int .i64 ((k + 1 : Nat) : Int) ∧ k ≤ 4 ∧ lev = .int .i64 ((worstTo v s (k + 1)).1 : Int) ∧ Hid (Boxed wr b1 b2 v (.slice xa m ca) s) ∧ Hid (Blk wr rb job0.toArray 36) ∧ Hid (Below w.heap.size w wr)) (fun _ kv _ => 5 - (intOf kv).toNat)
  case atStart => exact ⟨0, rfl, by omega, by rw [worst_one]; rfl, HX4.out, HR4.out, HW4.out⟩
  case round =>
    obtain ⟨k, rfl, hk, rfl, HX, HR, HW⟩ := hrel
    clear HX4 HR4 HW4
    by_cases hlt : k < 4
    · have t1 : ((k + 1 : Nat) : Int) < 5 := by omega
      have t2 : 0 ≤ ((k + 1 : Nat) : Int) := by omega
      have HN := Lib.hid (HWN.out k)
      have HL5 := HW5L.out (k + 1) (by omega)
      obtain ⟨wl, hwl⟩ : ∃ x, (worstTo v s (k + 1)).1 = x := ⟨_, rfl⟩
      obtain ⟨k1, hk1⟩ : ∃ x, k + 1 = x := ⟨_, rfl⟩
      have HK1 := Lib.hid hk1
      have HSA1 : Hid (scoreB v s (k1 : Int) = scoreW v s k1) := HSA.out k1 (by omega)
      rw [hwl] at HN HL5 ⊢
      have HSA2 : Hid (scoreB v s (wl : Int) = scoreW v s wl) := HSA.out wl HL5
      rw [hk1] at HN t1 t2 ⊢
      obtain ⟨s1, hs1⟩ : ∃ x, scoreW v s k1 = x := ⟨_, rfl⟩
      obtain ⟨s2, hs2⟩ : ∃ x, scoreW v s wl = x := ⟨_, rfl⟩
      rw [hs1, hs2] at HN
      rw [hs1] at HSA1
      rw [hs2] at HSA2
      clear hs1 hs2 hwl hk1 HL5
      have HKP : Hid (∀ W, Below wr.heap.size wr W → (W.cell? ⟨b1, 0, none⟩ = some (.slice xa m ca) ∧ W.cell? ⟨b1, 1, none⟩ = some (.int .u64 v.next) ∧ W.cell? ⟨b1, 2, none⟩ = some (.int .u64 v.seq) ∧ W.cell? ⟨b1, 3, none⟩ = some (.int .u64 v.log) ∧ W.cell? ⟨b2, 0, none⟩ = some (.int .i64 s.trig) ∧ W.cell? ⟨b2, 1, none⟩ = some (.int .i64 s.base) ∧ W.cell? ⟨b2, 2, none⟩ = some (.int .i64 s.fac))) := fun W hb => (HX.out.below hb).cells
      have D0 : Hid (Below wr.heap.size wr wr.drew) := below_drew (Below.refl _ _)
      go_upto_region 12 with fail
      refine wp_region_held_drew (S := fun W => (W.cell? ⟨b1, 0, none⟩ = some (.slice xa m ca) ∧ W.cell? ⟨b1, 1, none⟩ = some (.int .u64 v.next) ∧ W.cell? ⟨b1, 2, none⟩ = some (.int .u64 v.seq) ∧ W.cell? ⟨b1, 3, none⟩ = some (.int .u64 v.log) ∧ W.cell? ⟨b2, 0, none⟩ = some (.int .i64 s.trig) ∧ W.cell? ⟨b2, 1, none⟩ = some (.int .i64 s.base) ∧ W.cell? ⟨b2, 2, none⟩ = some (.int .i64 s.fac))) (by kernel_rfl) (HKP.out _ D0.out) (fun hHeld => ?_)
      refine wpAnyH_take (i := 0) (oi := ?oA_1_0) (v := ?vA_1_0) ?eA_1_0 (by kernel_rfl) (by kernel_rfl) (by kernel_rfl) ?qA_1_0 (Or.inl ⟨?wA_1_0, ?yA_1_0⟩) (by assumption) ?rA_1_0
      case eA_1_0 => simp only [List.getElem?_toArray, List.getElem?_cons_zero]; rfl
      case wA_1_0 => rfl
      case qA_1_0 => exact fun _ _ _ h => h
      case yA_1_0 => (intro w hSw; (try dsimp only at hSw); go_simp; try with_reducible rfl)
      try simp only [Act.put, List.setIfInBounds_toArray, List.set_cons_zero, List.set_cons_succ]
      refine wpAnyH_take (i := 1) (oi := ?oA_2_1) (v := ?vA_2_1) ?eA_2_1 (by kernel_rfl) (by kernel_rfl) (by kernel_rfl) ?qA_2_1 (Or.inl ⟨?wA_2_1, ?yA_2_1⟩) (by assumption) ?rA_2_1
      case eA_2_1 => simp only [List.getElem?_toArray, List.getElem?_cons_succ, List.getElem?_cons_zero]; rfl
      case wA_2_1 => rfl
      case qA_2_1 => exact fun _ _ _ h => h
      case yA_2_1 => (intro w hSw; (try dsimp only at hSw); go_simp; try with_reducible rfl)
      try simp only [Act.put, List.setIfInBounds_toArray, List.set_cons_zero, List.set_cons_succ]
      refine wpAnyH_take (i := 2) (oi := ?oA_3_2) (v := ?vA_3_2) ?eA_3_2 (by kernel_rfl) (by kernel_rfl) (by kernel_rfl) ?qA_3_2 (Or.inl ⟨?wA_3_2, ?yA_3_2⟩) (by assumption) ?rA_3_2
      case eA_3_2 => simp only [List.getElem?_toArray, List.getElem?_cons_succ, List.getElem?_cons_zero]; rfl
      case wA_3_2 => rfl
      case qA_3_2 => exact fun _ _ _ h => h
      case yA_3_2 => (intro w hSw; (try dsimp only at hSw); go_simp; try with_reducible rfl)
      try simp only [Act.put, List.setIfInBounds_toArray, List.set_cons_zero, List.set_cons_succ]
      refine wpAnyH_take (i := 4) (oi := ?oA_4_4) (v := ?vA_4_4) ?eA_4_4 (by kernel_rfl) (by kernel_rfl) (by kernel_rfl) ?qA_4_4 (Or.inl ⟨?wA_4_4, ?yA_4_4⟩) (by assumption) ?rA_4_4
      case eA_4_4 => simp only [List.getElem?_toArray, List.getElem?_cons_succ, List.getElem?_cons_zero]; rfl
      case wA_4_4 => rfl
      case qA_4_4 => exact fun _ _ _ h => h
      case yA_4_4 => (intro w hSw; (try dsimp only at hSw); go_simp; try with_reducible rfl)
      try simp only [Act.put, List.setIfInBounds_toArray, List.set_cons_zero, List.set_cons_succ]
      refine wpAnyH_take (i := 5) (oi := ?oA_5_5) (v := ?vA_5_5) ?eA_5_5 (by kernel_rfl) (by kernel_rfl) (by kernel_rfl) ?qA_5_5 (Or.inl ⟨?wA_5_5, ?yA_5_5⟩) (by assumption) ?rA_5_5
      case eA_5_5 => simp only [List.getElem?_toArray, List.getElem?_cons_succ, List.getElem?_cons_zero]; rfl
      case wA_5_5 => rfl
      case qA_5_5 => exact fun _ _ _ h => h
      case yA_5_5 => (intro w hSw; (try dsimp only at hSw); go_simp; try with_reducible rfl)
      try simp only [Act.put, List.setIfInBounds_toArray, List.set_cons_zero, List.set_cons_succ]
      refine wpAnyH_take (i := 6) (oi := ?oA_6_6) (v := ?vA_6_6) ?eA_6_6 (by kernel_rfl) (by kernel_rfl) (by kernel_rfl) ?qA_6_6 (Or.inl ⟨?wA_6_6, ?yA_6_6⟩) (by assumption) ?rA_6_6
      case eA_6_6 => simp only [List.getElem?_toArray, List.getElem?_cons_succ, List.getElem?_cons_zero]; rfl
      case wA_6_6 => rfl
      case qA_6_6 => exact fun _ _ _ h => h
      case yA_6_6 => (intro w hSw; (try dsimp only at hSw); go_simp; try with_reducible rfl)
      try simp only [Act.put, List.setIfInBounds_toArray, List.set_cons_zero, List.set_cons_succ]
      have hOld := hHeld
      clear hHeld
      refine wpAnyH_ready (rs := [3]) (by kernel_rfl) (by simp) ?_
      refine AllReadyH.cons (o := ?oA_7_3) ?eA_7_3 (fun K hK => ?_) AllReadyH.nil
      case eA_7_3 => simp only [List.getElem?_toArray, List.getElem?_cons_succ, List.getElem?_cons_zero]; rfl
      go_simp
      (go_at_call 26; refine Calls.mono (HSC.out _ _ (HW.out.trans (D0.out.mono HW.out.size))) ?_; rintro _ x0 ⟨rfl, hb0⟩; rw [HSA1.out]; have D1 : Hid (Below wr.heap.size wr x0) := D0.out.trans (hb0.mono D0.out.size); clear hb0)
      try go_wp2_with fail
      refine hK.out _ _ (HKP.out _ D1.out) (fun hHeld => ?_)
      clear hK hOld
      try simp only [Act.put, List.setIfInBounds_toArray, List.set_cons_zero, List.set_cons_succ]
      have hOld := hHeld
      clear hHeld
      refine wpAnyH_ready (rs := [7]) (by kernel_rfl) (by simp) ?_
      refine AllReadyH.cons (o := ?oA_8_7) ?eA_8_7 (fun K hK => ?_) AllReadyH.nil
      case eA_8_7 => simp only [List.getElem?_toArray, List.getElem?_cons_succ, List.getElem?_cons_zero]; rfl
      go_simp
      (go_at_call 26; refine Calls.mono (HSC.out _ _ (HW.out.trans (D1.out.mono HW.out.size))) ?_; rintro _ x1 ⟨rfl, hb1⟩; rw [HSA2.out]; have D2 : Hid (Below wr.heap.size wr x1) := D1.out.trans (hb1.mono D1.out.size); clear hb1)
      try go_wp2_with fail
      refine hK.out _ _ (HKP.out _ D2.out) (fun hHeld => ?_)
      clear hK hOld
      try simp only [Act.put, List.setIfInBounds_toArray, List.set_cons_zero, List.set_cons_succ]
      refine wpAnyH_take (i := 8) (oi := ?oA_9_8) (v := ?vA_9_8) ?eA_9_8 (by kernel_rfl) (by kernel_rfl) (by kernel_rfl) ?qA_9_8 (Or.inl ⟨?wA_9_8, ?yA_9_8⟩) (by assumption) ?rA_9_8
      case eA_9_8 => simp only [List.getElem?_toArray, List.getElem?_cons_succ, List.getElem?_cons_zero]; rfl
      case wA_9_8 => rfl
      case qA_9_8 => exact fun _ _ _ h => h
      case yA_9_8 => (intro w hSw; (try dsimp only at hSw); go_simp; try with_reducible rfl)
      try simp only [Act.put, List.setIfInBounds_toArray, List.set_cons_zero, List.set_cons_succ]
      refine wpAnyH_done (by kernel_rfl) ?_ _
      have HX5 := Lib.hid (HX.out.below D2.out)
      have HR5 := Lib.hid (HR.out.below D2.out HR.out.lt)
      have HW5 : Hid (Below w.heap.size w x1) := HW.out.trans (D2.out.mono HW.out.size)
      clear HX HR HW D0 D1 D2 HKP
      by_cases hgt : s2 < s1
      · have HN' : Hid ((worstTo v s (k + 2)).1 = k1) := by show _ = _; rw [HN.out, if_pos hgt]
        go_wp2_with fail
        go_roundw
        · exact ⟨k + 1, by rw [← HK1.out]; go_num, by omega, by rw [HN'.out], HX5.out, HR5.out, HW5.out⟩
        · simp only [intOf]; omega
      · have HN' : Hid ((worstTo v s (k + 2)).1 = wl) := by show _ = _; rw [HN.out, if_neg hgt]
        go_wp2_with fail
        go_roundw
        · exact ⟨k + 1, by rw [← HK1.out]; go_num, by omega, by rw [HN'.out], HX5.out, HR5.out, HW5.out⟩
        · simp only [intOf]; omega
    · have t1 : ¬ ((k + 1 : Nat) : Int) < 5 := by omega
      obtain rfl : k = 4 := by omega
      have HJL : Hid (jLev v s = (worstTo v s (4 + 1)).1) := rfl
      obtain ⟨HP1, HP2, -, -⟩ := HJO.out HF.out
      have hfine := fun h1 : (worstTo v s (4 + 1)).1 < 5 => jAll_fine (i := (worstTo v s (4 + 1)).1) HC.out (by rw [← HJL.out]; exact HP1) h1
      rw [HJL.out] at HP1 HP2
      obtain ⟨i, hi⟩ : ∃ c, (worstTo v s (4 + 1)).1 = c := ⟨_, rfl⟩
      rw [hi] at HP1 HP2 HJL hfine ⊢
      have HEL : Hid ((leastOf (jAll v i)).length ≤ 4096 ∧ (mostOf (jAll v i)).length ≤ 4096) := ends_len (hfine (by omega))
      clear hi HSC HSA HWN HW5L HJO hfine
      have t2 : (i : Int) < 4 := by omega
      have t3 : 0 ≤ (i : Int) := by omega
      have HUL : Hid ((jUp v i).length ≤ 10001) := Nat.le_trans (jUp_le v i) (by
        have h5 := (good_small HC.out).1
        have := Nat.le_trans (lev_le_cnt (ls := v.levels) (i := 0) (by omega)) (chkW_good HC.out).2.2
        omega)
      have HUPS : Hid (0 < (jUp v i).length) := jUp_pos HC.out HP1
      have HOL : Hid ((jLo v i).length ≤ 10000) := over_le v _ _ _ HC.out
      have HLOD : Hid (jLo v i = overB v ((i : Int) + 1) (leastOf (jUp v i)) (mostOf (jUp v i))) := rfl
      have HALD : Hid (jAll v i = jUp v i ++ jLo v i) := rfl
      have HBTD : Hid (jBot v i = deepB v ((i : Int) + 1) (leastOf (jAll v i)) (mostOf (jAll v i))) := rfl
      obtain ⟨x0, x1, x2, x3, -, -, -⟩ := HX.out.cells
      go_wp2_with fail
      clear x0 x1 x2 x3
      refine Calls.mono (HUP.out HC.out i HP1 (by omega) _ HW.out) ?_
      rintro _ w5 ⟨u, rfl, hu, hb⟩
      have HX5 := Lib.hid (HX.out.below hb)
      have HR5 := Lib.hid (HR.out.below hb HR.out.lt)
      have HW5 : Hid (Below w.heap.size w w5) := HW.out.trans (hb.mono HW.out.size)
      have HRBL : Hid (rb < wr.heap.size) := HR.out.lt
      have HU5 : Hid (Rw filK (fun k => k < w5.heap.size ∧ k ≠ rb) w5 u (jUp v i)) := hu.mono fun k hk hx => ⟨hk, fun e => by have := HRBL.out; have := HNE.out.2.2; omega⟩
      clear hu hb HX HR HW HUP HP1 HP2 HRBL
      obtain ⟨U, hU⟩ : ∃ x, jUp v i = x := ⟨_, rfl⟩
      rw [hU] at HU5 HUL HUPS HLOD HALD
      obtain ⟨ua, uc, rfl⟩ := HU5.out.isSlice
      go_upto_region 15 with fail
      refine wp_gen fun w6 hw6 => ?_
      have HJ6 : Hid (JAt b1 b2 rb w5.heap.size v (.slice xa m ca) s (jobC (i : Int) (.slice ua U.length uc) (.slice none 0 0) (.slice none 0 0) (.slice none 0 0) false) w w6) := by
        rw [hw6]
        exact ⟨⟨HX5.out.ver.alloc _, HX5.out.stp.alloc _⟩, HR5.out.alloc _, Blk.at_new rfl rfl, HW5.out.alloc HW5.out.size _, ⟨fun e => by have := HX5.out.ver.lt; omega, fun e => by have := HX5.out.stp.lt; omega, fun e => by have := HR5.out.lt; omega⟩, HW5.out.size, HNE.out.2.2⟩
      have HU6 : Hid (Rw filK (fun k => k ≠ w5.heap.size ∧ k ≠ rb) w6 (.slice ua U.length uc) U) := by
        rw [hw6]
        exact (HU5.out.below ((Below.refl _ _).alloc (Nat.le_refl _) _)).mono fun k _ hk => ⟨by omega, hk.2⟩
      clear hw6 HX5 HR5 HW5 HU5
      generalize w5.heap.size = jb at *
      have j1 : w6.cell? ⟨jb, 1, none⟩ = some (.slice ua U.length uc) := HJ6.out.j.cell rfl
      go_wp2_with fail
      clear j1
      refine Calls.mono (rends_any _ _ U w6 HU6.out HUPS.out (Nat.le_trans HUL.out (by decide))) ?_
      rintro _ w7 ⟨r1, r2, rfl, hr1, hr2, hb⟩
      have HJ7 := Lib.hid (HJ6.out.below hb)
      have HU7 := Lib.hid (HU6.out.below hb)
      have HR1 := Lib.hid hr1
      have HR2 := Lib.hid hr2
      obtain ⟨ra, rc, rfl⟩ := hr1.isSlice
      obtain ⟨qa, qc, rfl⟩ := hr2.isSlice
      clear hr1 hr2 hb HJ6 HU6
      obtain ⟨ls, hls⟩ : ∃ x, leastOf U = x := ⟨_, rfl⟩
      obtain ⟨ms, hms⟩ : ∃ x, mostOf U = x := ⟨_, rfl⟩
      rw [hls] at HR1 HLOD ⊢
      rw [hms] at HR2 HLOD ⊢
      clear hls hms
      obtain ⟨x0, x1, x2, x3, -, -, -⟩ := HJ7.out.bx.cells
      go_wp2_with fail
      clear x0 x1 x2 x3
      refine Calls.mono (HOV.out ((i : Int) + 1) w7 HJ7.out.bel ls ms _ _ _ _ HR1.out HR2.out) ?_
      rintro _ w8 ⟨lo, rfl, hlo, hb⟩
      rw [← HLOD.out] at hlo
      have HJ8 := Lib.hid (HJ7.out.below hb)
      have HU8 := Lib.hid (HU7.out.below hb)
      have HO8 : Hid (Rw filK (fun k => k ≠ jb ∧ k ≠ rb) w8 lo (jLo v i)) := hlo.mono fun k _ hk => ⟨fun e => by have := HJ7.out.j.lt; omega, fun e => by have := HJ7.out.rz.lt; omega⟩
      clear hlo hb HJ7 HU7 HR1 HR2 HOV
      obtain ⟨Lo, hLo⟩ : ∃ x, jLo v i = x := ⟨_, rfl⟩
      rw [hLo] at HO8 HOL HALD
      obtain ⟨oa, oc, rfl⟩ := HO8.out.isSlice
      have j2 : w8.cell? ⟨jb, 2, none⟩ = some (.slice none 0 0) := HJ8.out.j.cell rfl
      have k2 := HJ8.out.j.free 2
      go_upto_region 17 with fail
      clear j2 k2
      refine wp_gen fun w9 hw9 => ?_
      have HJ9 : Hid (JAt b1 b2 rb jb v (.slice xa m ca) s (jobC (i : Int) (.slice ua U.length uc) (.slice oa Lo.length oc) (.slice none 0 0) (.slice none 0 0) false) w w9) := by rw [hw9]; exact HJ8.out.set 2 _ rfl
      have HU9 : Hid (Rw filK (fun k => k ≠ jb ∧ k ≠ rb) w9 (.slice ua U.length uc) U) := by rw [hw9]; exact HU8.out.off_set _ _ fun k hk => hk.1
      have HO9 : Hid (Rw filK (fun k => k ≠ jb ∧ k ≠ rb) w9 (.slice oa Lo.length oc) Lo) := by rw [hw9]; exact HO8.out.off_set _ _ fun k hk => hk.1
      clear hw9 HJ8 HU8 HO8
      have HAL : Hid ((jAll v i).length ≤ 1000000) := by show _ ≤ _; rw [HALD.out, List.length_append]; have := HUL.out; have := HOL.out; omega
      have HAP : Hid (0 < (jAll v i).length) := by show 0 < _; rw [HALD.out, List.length_append]; have := HUPS.out; omega
      obtain ⟨All, hAll⟩ : ∃ x, jAll v i = x := ⟨_, rfl⟩
      rw [hAll] at HAL HAP HEL HBTD HALD
      have HLM1 : Hid (([] : List Fil).length + U.length ≤ 1000000) := by show _ ≤ _; have := HUL.out; simp only [List.length_nil]; omega
      have HLM2 : Hid (U.length + Lo.length ≤ 1000000) := by show _ ≤ _; have := HUL.out; have := HOL.out; omega
      obtain ⟨cs1, hsl1, hel1⟩ := HU9.out
      obtain ⟨cs2, hsl2, hel2⟩ := HO9.out
      have HSL1 := Lib.hid hsl1
      have HEL1 := Lib.hid hel1
      have HSL2 := Lib.hid hsl2
      have HEL2 := Lib.hid hel2
      clear hsl1 hel1 hsl2 hel2
      have HLT : Hid (jb < w9.heap.size ∧ rb < w9.heap.size) := ⟨HJ9.out.j.lt, HJ9.out.rz.lt⟩
      have HKP : Hid (∀ W, Below w9.heap.size w9 W → (W.cell? ⟨jb, 1, none⟩ = some (.slice ua U.length uc) ∧ W.cell? ⟨jb, 2, none⟩ = some (.slice oa Lo.length oc))) := fun W hb => ⟨(HJ9.out.j.below hb HJ9.out.j.lt).cell rfl, (HJ9.out.j.below hb HJ9.out.j.lt).cell rfl⟩
      have D0 : Below w9.heap.size w9 w9.drew := below_drew (Below.refl _ _)
      refine wp_region_held_drew (S := fun W => (W.cell? ⟨jb, 1, none⟩ = some (.slice ua U.length uc) ∧ W.cell? ⟨jb, 2, none⟩ = some (.slice oa Lo.length oc))) (by kernel_rfl) (HKP.out _ D0) (fun hHeld => ?_)
      refine wpAnyH_take (i := 1) (oi := ?oB_10_1) (v := ?vB_10_1) ?eB_10_1 (by kernel_rfl) (by kernel_rfl) (by kernel_rfl) ?qB_10_1 (Or.inl ⟨?wB_10_1, ?yB_10_1⟩) (by assumption) ?rB_10_1
      case eB_10_1 => simp only [List.getElem?_toArray, List.getElem?_cons_succ, List.getElem?_cons_zero]; rfl
      case wB_10_1 => rfl
      case qB_10_1 => exact fun _ _ _ h => h
      case yB_10_1 => (intro w hSw; (try dsimp only at hSw); go_simp; try with_reducible rfl)
      try simp only [Act.put, List.setIfInBounds_toArray, List.set_cons_zero, List.set_cons_succ]
      refine wpAnyH_take (i := 2) (oi := ?oB_11_2) (v := ?vB_11_2) ?eB_11_2 (by kernel_rfl) (by kernel_rfl) (by kernel_rfl) ?qB_11_2 (Or.inl ⟨?wB_11_2, ?yB_11_2⟩) (by assumption) ?rB_11_2
      case eB_11_2 => simp only [List.getElem?_toArray, List.getElem?_cons_succ, List.getElem?_cons_zero]; rfl
      case wB_11_2 => rfl
      case qB_11_2 => exact fun _ _ _ h => h
      case yB_11_2 => (intro w hSw; (try dsimp only at hSw); go_simp; try with_reducible rfl)
      try simp only [Act.put, List.setIfInBounds_toArray, List.set_cons_zero, List.set_cons_succ]
      refine wpAnyH_take (i := 4) (oi := ?oB_12_4) (v := ?vB_12_4) ?eB_12_4 (by kernel_rfl) (by kernel_rfl) (by kernel_rfl) ?qB_12_4 (Or.inl ⟨?wB_12_4, ?yB_12_4⟩) (by assumption) ?rB_12_4
      case eB_12_4 => simp only [List.getElem?_toArray, List.getElem?_cons_succ, List.getElem?_cons_zero]; rfl
      case wB_12_4 => rfl
      case qB_12_4 => exact fun _ _ _ h => h
      case yB_12_4 => (intro w hSw; (try dsimp only at hSw); go_simp; try with_reducible rfl)
      try simp only [Act.put, List.setIfInBounds_toArray, List.set_cons_zero, List.set_cons_succ]
      refine wpAnyH_take (i := 5) (oi := ?oB_13_5) (v := ?vB_13_5) ?eB_13_5 (by kernel_rfl) (by kernel_rfl) (by kernel_rfl) ?qB_13_5 (Or.inl ⟨?wB_13_5, ?yB_13_5⟩) (by assumption) ?rB_13_5
      case eB_13_5 => simp only [List.getElem?_toArray, List.getElem?_cons_succ, List.getElem?_cons_zero]; rfl
      case wB_13_5 => rfl
      case qB_13_5 => exact fun _ _ _ h => h
      case yB_13_5 => (intro w hSw; (try dsimp only at hSw); go_simp; try with_reducible rfl)
      try simp only [Act.put, List.setIfInBounds_toArray, List.set_cons_zero, List.set_cons_succ]
      have hOld := hHeld
      clear hHeld
      refine wpAnyH_ready (rs := [0]) (by kernel_rfl) (by simp) ?_
      refine AllReadyH.cons (o := ?oB_14_0) ?eB_14_0 (fun K hK => ?_) AllReadyH.nil
      case eB_14_0 => simp only [List.getElem?_toArray, List.getElem?_cons_zero]; rfl
      go_simp
      skip
      try go_wp2_with fail
      refine hK.out _ _ (HKP.out _ (by repeat (first | assumption | exact Below.refl _ _ | with_reducible refine below_drew ?_ | with_reducible refine below_al ?_ _))) (fun hHeld => ?_)
      clear hK hOld
      try simp only [Act.put, List.setIfInBounds_toArray, List.set_cons_zero, List.set_cons_succ]
      have hOld := hHeld
      clear hHeld
      refine wpAnyH_ready (rs := [3]) (by kernel_rfl) (by simp) ?_
      refine AllReadyH.cons (o := ?oB_15_3) ?eB_15_3 (fun K hK => ?_) AllReadyH.nil
      case eB_15_3 => simp only [List.getElem?_toArray, List.getElem?_cons_succ, List.getElem?_cons_zero]; rfl
      (refine step_append_at (K := filK) (by rfl) 33 42 _ 80 under_fils info_filO (by rfl) (fun k => (k ≠ jb ∧ k ≠ rb) ∧ k < w9.heap.size) w9 _ _ [] (.slice ua U.length uc) U (.tmp 59) (.tmp 61) (by rfl) (by rfl) (by rfl) (RO.newP (Nat.le_refl _)) (by repeat (first | assumption | exact Below.refl _ _ | with_reducible refine below_drew ?_ | with_reducible refine below_al ?_ _)) cs1 _ _ HSL1.out HEL1.out (fun _ hk h => ⟨h, hk⟩) (fun _ h => h.2) HLM1.out (by decide) ?_; intro v3 x3 h31 h32 h33; rw [List.nil_append] at h31; obtain ⟨q3, n3, rfl⟩ := h31.isSlice)
      try go_wp2_with fail
      refine hK.out _ _ (HKP.out _ (by repeat (first | assumption | exact Below.refl _ _ | with_reducible refine below_drew ?_ | with_reducible refine below_al ?_ _))) (fun hHeld => ?_)
      clear hK hOld
      try simp only [Act.put, List.setIfInBounds_toArray, List.set_cons_zero, List.set_cons_succ]
      have hOld := hHeld
      clear hHeld
      refine wpAnyH_ready (rs := [6]) (by kernel_rfl) (by simp) ?_
      refine AllReadyH.cons (o := ?oB_16_6) ?eB_16_6 (fun K hK => ?_) AllReadyH.nil
      case eB_16_6 => simp only [List.getElem?_toArray, List.getElem?_cons_succ, List.getElem?_cons_zero]; rfl
      (refine step_append_at (K := filK) (by rfl) 33 42 _ 80 under_fils info_filO (by rfl) (fun k => (k ≠ jb ∧ k ≠ rb) ∧ k < w9.heap.size) w9 _ (.slice q3 U.length n3) U (.slice oa Lo.length oc) Lo (.tmp 62) (.tmp 64) (by rfl) (by rfl) (by rfl) h31 h32 cs2 _ _ HSL2.out HEL2.out (fun _ hk h => ⟨h, hk⟩) (fun _ h => h.2) HLM2.out (by decide) ?_; intro v6 x6 h61 h62 h63; rw [← HALD.out] at h61; obtain ⟨q6, n6, rfl⟩ := h61.isSlice; have hR6 : Rw filK (fun k => k ≠ jb ∧ k ≠ rb) x6 (.slice q6 All.length n6) All := h61.rows.mono fun k _ hk => hk.elim (fun e => ⟨fun e2 => by have := h61.base_le k e; have := HLT.out.1; omega, fun e2 => by have := h61.base_le k e; have := HLT.out.2; omega⟩) (fun e => e.1.1))
      try go_wp2_with fail
      refine hK.out _ _ (HKP.out _ (by repeat (first | assumption | exact Below.refl _ _ | with_reducible refine below_drew ?_ | with_reducible refine below_al ?_ _))) (fun hHeld => ?_)
      clear hK hOld
      try simp only [Act.put, List.setIfInBounds_toArray, List.set_cons_zero, List.set_cons_succ]
      have hOld := hHeld
      clear hHeld
      refine wpAnyH_ready (rs := [7]) (by kernel_rfl) (by simp) ?_
      refine AllReadyH.cons (o := ?oB_17_7) ?eB_17_7 (fun K hK => ?_) AllReadyH.nil
      case eB_17_7 => simp only [List.getElem?_toArray, List.getElem?_cons_succ, List.getElem?_cons_zero]; rfl
      go_simp
      (go_at_call 65; refine Calls.mono (rends_any _ (.slice q6 All.length n6) All _ hR6 HAP.out HAL.out) ?_; rintro _ x7 ⟨r1, r2, rfl, hr1, hr2, hb7⟩; have h72 : Below w9.heap.size w9 x7 := h62.trans (hb7.mono h62.size); clear h31 h32 h33 h61 h62 h63 hR6 hb7; obtain ⟨ra2, rc2, rfl⟩ := hr1.isSlice; obtain ⟨qa2, qc2, rfl⟩ := hr2.isSlice)
      try go_wp2_with fail
      refine hK.out _ _ (HKP.out _ (by repeat (first | assumption | exact Below.refl _ _ | with_reducible refine below_drew ?_ | with_reducible refine below_al ?_ _))) (fun hHeld => ?_)
      clear hK hOld
      try simp only [Act.put, List.setIfInBounds_toArray, List.set_cons_zero, List.set_cons_succ]
      refine wpAnyH_take (i := 8) (oi := ?oB_18_8) (v := ?vB_18_8) ?eB_18_8 (by kernel_rfl) (by kernel_rfl) (by kernel_rfl) ?qB_18_8 (Or.inl ⟨?wB_18_8, ?yB_18_8⟩) (by assumption) ?rB_18_8
      case eB_18_8 => simp only [List.getElem?_toArray, List.getElem?_cons_succ, List.getElem?_cons_zero]; rfl
      case wB_18_8 => rfl
      case qB_18_8 => exact fun _ _ _ h => h
      case yB_18_8 => (intro w hSw; (try dsimp only at hSw); go_simp; try with_reducible rfl)
      try simp only [Act.put, List.setIfInBounds_toArray, List.set_cons_zero, List.set_cons_succ]
      refine wpAnyH_take (i := 9) (oi := ?oB_19_9) (v := ?vB_19_9) ?eB_19_9 (by kernel_rfl) (by kernel_rfl) (by kernel_rfl) ?qB_19_9 (Or.inl ⟨?wB_19_9, ?yB_19_9⟩) (by assumption) ?rB_19_9
      case eB_19_9 => simp only [List.getElem?_toArray, List.getElem?_cons_succ, List.getElem?_cons_zero]; rfl
      case wB_19_9 => rfl
      case qB_19_9 => exact fun _ _ _ h => h
      case yB_19_9 => (intro w hSw; (try dsimp only at hSw); go_simp; try with_reducible rfl)
      try simp only [Act.put, List.setIfInBounds_toArray, List.set_cons_zero, List.set_cons_succ]
      refine wpAnyH_take (i := 10) (oi := ?oB_20_10) (v := ?vB_20_10) ?eB_20_10 (by kernel_rfl) (by kernel_rfl) (by kernel_rfl) ?qB_20_10 (Or.inl ⟨?wB_20_10, ?yB_20_10⟩) (by assumption) ?rB_20_10
      case eB_20_10 => simp only [List.getElem?_toArray, List.getElem?_cons_succ, List.getElem?_cons_zero]; rfl
      case wB_20_10 => rfl
      case qB_20_10 => exact fun _ _ _ h => h
      case yB_20_10 => (intro w hSw; (try dsimp only at hSw); go_simp; try with_reducible rfl)
      try simp only [Act.put, List.setIfInBounds_toArray, List.set_cons_zero, List.set_cons_succ]
      refine wpAnyH_take (i := 11) (oi := ?oB_21_11) (v := ?vB_21_11) ?eB_21_11 (by kernel_rfl) (by kernel_rfl) (by kernel_rfl) ?qB_21_11 (Or.inl ⟨?wB_21_11, ?yB_21_11⟩) (by assumption) ?rB_21_11
      case eB_21_11 => simp only [List.getElem?_toArray, List.getElem?_cons_succ, List.getElem?_cons_zero]; rfl
      case wB_21_11 => rfl
      case qB_21_11 => exact fun _ _ _ h => h
      case yB_21_11 => (intro w hSw; (try dsimp only at hSw); go_simp; try with_reducible rfl)
      try simp only [Act.put, List.setIfInBounds_toArray, List.set_cons_zero, List.set_cons_succ]
      refine wpAnyH_take (i := 12) (oi := ?oB_22_12) (v := ?vB_22_12) ?eB_22_12 (by kernel_rfl) (by kernel_rfl) (by kernel_rfl) ?qB_22_12 (Or.inl ⟨?wB_22_12, ?yB_22_12⟩) (by assumption) ?rB_22_12
      case eB_22_12 => simp only [List.getElem?_toArray, List.getElem?_cons_succ, List.getElem?_cons_zero]; rfl
      case wB_22_12 => rfl
      case qB_22_12 => exact fun _ _ _ h => h
      case yB_22_12 => (intro w hSw; (try dsimp only at hSw); go_simp; try with_reducible rfl)
      try simp only [Act.put, List.setIfInBounds_toArray, List.set_cons_zero, List.set_cons_succ]
      refine wpAnyH_done (by kernel_rfl) ?_ _
      have HJ10 := Lib.hid (HJ9.out.below h72)
      have HU10 := Lib.hid (HU9.out.below h72)
      have HO10 := Lib.hid (HO9.out.below h72)
      have HR1 := Lib.hid hr1
      have HR2 := Lib.hid hr2
      clear hr1 hr2 h72 HJ9 HU9 HO9 HSL1 HEL1 HSL2 HEL2 HLT HKP D0 HLM1 HLM2 HAL HAP HUL HUPS HOL HALD HLOD
      obtain ⟨ls2, hls⟩ : ∃ x, leastOf All = x := ⟨_, rfl⟩
      obtain ⟨ms2, hms⟩ : ∃ x, mostOf All = x := ⟨_, rfl⟩
      rw [hls] at HR1 HEL HBTD ⊢
      rw [hms] at HR2 HEL HBTD ⊢
      go_wp2_with (with_reducible refine pause_append ?_)
      refine list_gen fun w11 hw11 => ?_
      have hb : Below x7.heap.size x7 w11 := by rw [hw11]; exact (Below.refl _ _).alloc (Nat.le_refl _) _
      have HJ11 := Lib.hid (HJ10.out.below hb)
      have HU11 := Lib.hid (HU10.out.below hb)
      have HO11 := Lib.hid (HO10.out.below hb)
      have HR11 := Lib.hid (HR1.out.below hb)
      have HR12 := Lib.hid (HR2.out.below hb)
      clear hw11 hb HJ10 HU10 HO10 HR1 HR2
      refine Pause.go (wpList_append_newb rfl _ _ (.slice ra2 ls2.length rc2) ls2 _ _ rfl rfl rfl HR11.out (Nat.le_trans HEL.out.1 (by decide)) ?_)
      intro e1 w12 he1 hb
      have HJ12 := Lib.hid (HJ11.out.below hb)
      have HU12 := Lib.hid (HU11.out.below hb)
      have HO12 := Lib.hid (HO11.out.below hb)
      have HR13 := Lib.hid (HR11.out.below hb)
      have HR14 := Lib.hid (HR12.out.below hb)
      have HE1 : Hid (Bytes (fun k => k ≠ jb ∧ k ≠ rb) w12 e1 ls2) := he1.mono fun k _ hk => ⟨fun e => by have := HJ11.out.j.lt; omega, fun e => by have := HJ11.out.rz.lt; omega⟩
      obtain ⟨ea, ec, rfl⟩ := he1.isSlice
      clear he1 hb HJ11 HU11 HO11 HR11 HR12
      go_wp2_with (with_reducible refine pause_append ?_)
      refine list_gen fun w13 hw13 => ?_
      have hb : Below w12.heap.size w12 w13 := by rw [hw13]; exact (Below.refl _ _).alloc (Nat.le_refl _) _
      have HJ13 := Lib.hid (HJ12.out.below hb)
      have HU13 := Lib.hid (HU12.out.below hb)
      have HO13 := Lib.hid (HO12.out.below hb)
      have HR15 := Lib.hid (HR13.out.below hb)
      have HR16 := Lib.hid (HR14.out.below hb)
      have HE2 := Lib.hid (HE1.out.below hb)
      clear hw13 hb HJ12 HU12 HO12 HR13 HR14 HE1
      refine Pause.go (wpList_append_newb rfl _ _ (.slice qa2 ms2.length qc2) ms2 _ _ rfl rfl rfl HR16.out (Nat.le_trans HEL.out.2 (by decide)) ?_)
      intro e2 w14 he2 hb
      have HJ14 := Lib.hid (HJ13.out.below hb)
      have HU14 := Lib.hid (HU13.out.below hb)
      have HO14 := Lib.hid (HO13.out.below hb)
      have HR17 := Lib.hid (HR15.out.below hb)
      have HR18 := Lib.hid (HR16.out.below hb)
      have HE3 := Lib.hid (HE2.out.below hb)
      have HE4 : Hid (Bytes (fun k => k ≠ jb ∧ k ≠ rb) w14 e2 ms2) := he2.mono fun k _ hk => ⟨fun e => by have := HJ13.out.j.lt; omega, fun e => by have := HJ13.out.rz.lt; omega⟩
      obtain ⟨ga, gc, rfl⟩ := he2.isSlice
      clear he2 hb HJ13 HU13 HO13 HR15 HR16 HE2
      have j3 : w14.cell? ⟨jb, 3, none⟩ = some (.slice none 0 0) := HJ14.out.j.cell rfl
      have j4 : w14.cell? ⟨jb, 4, none⟩ = some (.slice none 0 0) := HJ14.out.j.cell rfl
      have k3 := HJ14.out.j.free 3
      have k4 := HJ14.out.j.free 4
      go_upto_region 19 with fail
      clear j3 j4 k3 k4
      refine wp_gen fun w15 hw15 => ?_
      have HJ15 : Hid (JAt b1 b2 rb jb v (.slice xa m ca) s (jobC (i : Int) (.slice ua U.length uc) (.slice oa Lo.length oc) (.slice ea ls2.length ec) (.slice ga ms2.length gc) false) w w15) := by rw [hw15]; exact (HJ14.out.set (jc' := jobC (i : Int) (.slice ua U.length uc) (.slice oa Lo.length oc) (.slice ea ls2.length ec) (.slice none 0 0) false) 3 _ rfl).set 4 _ rfl
      have HU15 : Hid (Rw filK (fun k => k ≠ jb ∧ k ≠ rb) w15 (.slice ua U.length uc) U) := by rw [hw15]; exact (HU14.out.off_set _ _ fun k hk => hk.1).off_set _ _ fun k hk => hk.1
      have HO15 : Hid (Rw filK (fun k => k ≠ jb ∧ k ≠ rb) w15 (.slice oa Lo.length oc) Lo) := by rw [hw15]; exact (HO14.out.off_set _ _ fun k hk => hk.1).off_set _ _ fun k hk => hk.1
      have HR19 : Hid (Bytes (fun k => k ≠ jb ∧ k ≠ rb) w15 (.slice ra2 ls2.length rc2) ls2) := by rw [hw15]; exact (HR17.out.off_set _ _ fun k hk => hk.1).off_set _ _ fun k hk => hk.1
      have HR20 : Hid (Bytes (fun k => k ≠ jb ∧ k ≠ rb) w15 (.slice qa2 ms2.length qc2) ms2) := by rw [hw15]; exact (HR18.out.off_set _ _ fun k hk => hk.1).off_set _ _ fun k hk => hk.1
      have HE5 : Hid (Bytes (fun k => k ≠ jb ∧ k ≠ rb) w15 (.slice ea ls2.length ec) ls2) := by rw [hw15]; exact (HE3.out.off_set _ _ fun k hk => hk.1).off_set _ _ fun k hk => hk.1
      have HE6 : Hid (Bytes (fun k => k ≠ jb ∧ k ≠ rb) w15 (.slice ga ms2.length gc) ms2) := by rw [hw15]; exact (HE4.out.off_set _ _ fun k hk => hk.1).off_set _ _ fun k hk => hk.1
      clear hw15 HJ14 HU14 HO14 HR17 HR18 HE3 HE4
      obtain ⟨x0, x1, x2, x3, -, -, -⟩ := HJ15.out.bx.cells
      go_wp2_with fail
      clear x0 x1 x2 x3
      refine Calls.mono (HDE.out ((i : Int) + 1) w15 HJ15.out.bel ls2 ms2 _ _ _ _ HR19.out HR20.out) ?_
      rintro _ w16 ⟨rfl, hb⟩
      rw [← HBTD.out]
      have HJ16 := Lib.hid (HJ15.out.below hb)
      have HU16 := Lib.hid (HU15.out.below hb)
      have HO16 := Lib.hid (HO15.out.below hb)
      have HE7 := Lib.hid (HE5.out.below hb)
      have HE8 := Lib.hid (HE6.out.below hb)
      clear hb HJ15 HU15 HO15 HR19 HR20 HE5 HE6 HDE
      obtain ⟨bt, hbt⟩ : ∃ x, jBot v i = x := ⟨_, rfl⟩
      rw [hbt]
      have j5 : w16.cell? ⟨jb, 5, none⟩ = some (.bool false) := HJ16.out.j.cell rfl
      have k5 := HJ16.out.j.free 5
      go_upto_region 20 with fail
      clear j5 k5
      refine wp_gen fun w17 hw17 => ?_
      have HJ17 : Hid (JAt b1 b2 rb jb v (.slice xa m ca) s (jobC (i : Int) (.slice ua U.length uc) (.slice oa Lo.length oc) (.slice ea ls2.length ec) (.slice ga ms2.length gc) bt) w w17) := by rw [hw17]; exact HJ16.out.set 5 _ rfl
      have HU17 : Hid (Rw filK (fun k => k ≠ jb ∧ k ≠ rb) w17 (.slice ua U.length uc) U) := by rw [hw17]; exact HU16.out.off_set _ _ fun k hk => hk.1
      have HO17 : Hid (Rw filK (fun k => k ≠ jb ∧ k ≠ rb) w17 (.slice oa Lo.length oc) Lo) := by rw [hw17]; exact HO16.out.off_set _ _ fun k hk => hk.1
      have HE9 : Hid (Bytes (fun k => k ≠ jb ∧ k ≠ rb) w17 (.slice ea ls2.length ec) ls2) := by rw [hw17]; exact HE7.out.off_set _ _ fun k hk => hk.1
      have HE10 : Hid (Bytes (fun k => k ≠ jb ∧ k ≠ rb) w17 (.slice ga ms2.length gc) ms2) := by rw [hw17]; exact HE8.out.off_set _ _ fun k hk => hk.1
      clear hw17 HJ16 HU16 HO16 HE7 HE8
      have j0 : w17.cell? ⟨jb, 0, none⟩ = some (.int .i64 (i : Int)) := HJ17.out.j.cell rfl
      have j1 : w17.cell? ⟨jb, 1, none⟩ = some (.slice ua U.length uc) := HJ17.out.j.cell rfl
      have j2 : w17.cell? ⟨jb, 2, none⟩ = some (.slice oa Lo.length oc) := HJ17.out.j.cell rfl
      have j3 : w17.cell? ⟨jb, 3, none⟩ = some (.slice ea ls2.length ec) := HJ17.out.j.cell rfl
      have j4 : w17.cell? ⟨jb, 4, none⟩ = some (.slice ga ms2.length gc) := HJ17.out.j.cell rfl
      have j5 : w17.cell? ⟨jb, 5, none⟩ = some (.bool bt) := HJ17.out.j.cell rfl
      obtain ⟨z0, z1, z2, z3, z4, z5⟩ := job0_cells HJ17.out.rz
      have f0 := HJ17.out.rz.free 0
      have f1 := HJ17.out.rz.free 1
      have f2 := HJ17.out.rz.free 2
      have f3 := HJ17.out.rz.free 3
      have f4 := HJ17.out.rz.free 4
      have f5 := HJ17.out.rz.free 5
      go_wp2_with fail
      clear j0 j1 j2 j3 j4 j5 z0 z1 z2 z3 z4 z5 f0 f1 f2 f3 f4 f5
      refine bodyPost_ret (results_cell_tmp1 (p := 4) (t := 5) rfl _ _ rb 36 (jobC (i : Int) (.slice ua U.length uc) (.slice oa Lo.length oc) (.slice ea ls2.length ec) (.slice ga ms2.length gc) bt).toArray _ rfl ((((((HJ17.out.rz.set 0 _).set 1 _).set 2 _).set 3 _).set 4 _).set 5 _) Try.underlying36 rfl (by kernel_rfl)) rfl ?_
      refine ⟨fun e => absurd HF.out e, fun _ => ?_, below_setJ HJ17.out.bel HNE.out.2.2⟩
      rw [HJL.out, hU, hLo, hAll, hbt, hls, hms]
      exact ⟨_, _, _, _, rfl, HU17.out.offJ, HO17.out.offJ, HE9.out.offJ, HE10.out.offJ⟩
end Go.Proofs.Ytkcohhldmhdcfaa
