/- Merge: New. -/
import Derived.Test.YtmpapipobjoboaaMgZ
namespace Go.Proofs.Ytmpapipobjoboaa
open Go.RowKit

theorem info_head : (Try.prog.info? 80).map (fun i => (i.zero, i.size, i.bytes)) = some (some (.agg #[.slice none 0 0, .int .i64 0]), headK.sz, 32) := by kernel_rfl

/-- append of one thing, that lies in a block of its own, at a step of a region that draws its order. -/
theorem step_append_elF {α : Type} {K : Kind α} {P : Program} {ops : Array Oper} {w : World} {o : Oper} {a : Act} {C : Act → World → Prop} {Q : Exit → Act → World → Prop} {E : Prop} (t e : TypeId) (z : Value) (bytes : Nat) (ht : P.underlying t = some (.slice e))
    (hinfo : (P.info? e).map (fun i => (i.zero, i.size, i.bytes)) = some (some z, K.sz, bytes)) (hzs : z.cells.size = K.sz)
    (F : Nat → Prop) (base : Nat) (v : Value) (xs : List α) (b : Nat) (T : TypeId) (c : Array Value) (y : α) (hgd : o.guard = none) (s x : Operand)
    (ho : o.op = .call { callee := .builtin .append, args := #[s, x], argTypes := #[t, t] })
    (hs : a.eval s = v) (hx : a.eval x = .slice (some ⟨b, 0, none⟩) 1 1) (hown : ROwnF K F base e w v xs) (hsrc : Blk w b c T)
    (hel : K.R (fun k => F k ∧ v.ownBlock ≠ some k) w c.toList y) (hm : xs.length < 1000000) (hby : bytes ≤ 100000) (hbase : base ≤ w.heap.size)
    (h : ∀ v' w', ROwnF K F base e w' v' (xs ++ [y]) → Grew w w' v v' → C (a.put o.dst v') w') : if Region.wanted o (yielded ops a.tmps) = true then Oper.wp P o a w C Q else E :=
  step_of_wp hgd (wp_append_elF t e z bytes ht hinfo hzs F base v xs b T c y s x ho hs hx hown hsrc hel hm hby hbase h)

theorem new_grown {B m : Nat} {F : Nat → Prop} {w x1 w4 : World} {o : Obj} {v v4 : Value} {l : List Hd} {x : Hd} (h : Hv B F x1 m v l) (hro : ROwnF headK F B 80 w4 v4 (l ++ [x])) (hg : Grew (x1.alloc o) w4 v v4) (hb : Below w.heap.size w x1) (hB : w.heap.size ≤ B) :
    ROwnF headK F B 80 w4 v4 (l ++ [x]) ∧ Blk w4 m #[v, .bool true] 53 ∧ v4.ownBlock ≠ some m ∧ Below w.heap.size w w4 := by
  have h1 : Below w.heap.size w (x1.alloc o) := hb.alloc hb.size _
  refine ⟨hro, (h.blk.alloc o).same (hg.grown.block m (h.blk.alloc o).lt fun e => h.ne e.symm), fun e => ?_, h1.trans ?_⟩
  · rcases hg.own m e with e | e
    · exact h.ne e
    · have := (h.blk.alloc o).lt
      omega
  · exact hg.below h1.size fun k e => Nat.le_trans hB (h.own.lt k e).1

theorem hv_stored {B m : Nat} {F : Nat → Prop} {w w4 : World} {v v4 : Value} {l : List Hd} (h : ROwnF headK F B 80 w4 v4 l ∧ Blk w4 m #[v, .bool true] 53 ∧ v4.ownBlock ≠ some m ∧ Below w.heap.size w w4) (hF : ¬ F m) (hm : w.heap.size ≤ m) :
    Hv B F (w4.setCell ⟨m, 0, none⟩ v4) m v4 l ∧ Below w.heap.size w (w4.setCell ⟨m, 0, none⟩ v4) := by
  obtain ⟨h1, h2, h3, h4⟩ := h
  refine ⟨⟨h2.set 0 v4, h1.keep fun k _ e => heap_setCell_other _ _ _ _ fun e2 => ?_, h3, hF⟩, h4.setCell hm _⟩
  have e2 : k = m := e2
  subst e2
  rcases e with e | e
  · exact h3 e
  · exact hF e.1

def NewPost (_F : Nat → Prop) (rs : List (List Ent)) (w : World) (x : Ending) (w' : World) : Prop :=
  ∃ p, x = .returned (.tuple #[p, .int .i64 (chkR rs)]) ∧ Below w.heap.size w w' ∧ (chkR rs ≠ 0 → p = .pointer none) ∧
    (chkR rs = 0 → p = .pointer (some ⟨w.heap.size, 0, none⟩) ∧ ∃ v l, Hv w.heap.size (fun k => w.heap.size < k) w' w.heap.size v l ∧ HOk l ∧ Hsort l ∧ HeapFrom l l.length 0 ∧ Tells l (allOf rs))

set_option maxRecDepth 100000 in
set_option maxHeartbeats 2000000 in
theorem new_any (F : Nat → Prop) (v : Value) (rs : List (List Ent)) (w : World) (h : Rw (rowK entK) F w v rs) (hok : ROk rs) :
    Calls Try.prog 18 #[v] w (NewPost F rs w) := by
  obtain ⟨xa, ca, rfl⟩ := h.isSlice
  have HA := Lib.hid h
  have HO := Lib.hid hok
  have hfew := hok.few
  clear h hok
  obtain ⟨n, hn⟩ : ∃ n, rs.length = n := ⟨_, rfl⟩
  have HN := Lib.hid hn
  rw [hn] at HA hfew
  rw [hn]
  clear hn
  go_enter Try.func18, Try.ntmps18
  go_upto_block 0 with fail
  refine wp_gen fun w1 hw1 => ?_
  have HW1 : Hid (Below w.heap.size w w1) := by rw [hw1]; exact (Below.refl _ _).alloc (Nat.le_refl _) _
  have HV1 : Hid (Hv w.heap.size (fun k => w.heap.size < k) w1 w.heap.size (.slice none 0 0) []) := by
    rw [hw1]
    exact ⟨Blk.alloc_new _ _ _, ROwnF.nil _ _ _ _ _, (fun e => by cases e), fun e => Nat.lt_irrefl _ e⟩
  clear hw1
  go_wp2_with fail
  go_loopw [12] (fun iv wr => ∃ (j : Nat) (hv : Value) (l : List Hd), iv = .int .i64 (j : Int) ∧ j ≤ n ∧ Hid (RowsTo rs j) ∧ Hid (Hv w.heap.size (fun k => w.heap.size < k) wr w.heap.size hv l) ∧ Hid (HdsOk rs j l) ∧ Hid (Below w.heap.size w wr)) (fun iv _ => n - (intOf iv).toNat)
  case atStart => exact ⟨0, _, [], rfl, by omega, (fun i hi => by omega), HV1.out, HdsOk.start rs, HW1.out⟩
  case round =>
    obtain ⟨j, hv, l, rfl, hj, HR, HV, HH, HB⟩ := hrel
    clear HV1 HW1
    by_cases hlt : j < n
    · have t1 : (j : Int) < (n : Int) := by omega
      have hl1 : j < rs.length := by rw [HN.out]; omega
      obtain ⟨ba, oa, capa, ea, _, hba, hca⟩ := rows_at (HA.out.below HB.out) (by omega)
      obtain ⟨u, hu, hc⟩ := hca j hl1
      injection ea with e1 e2 e3
      subst e1 e3
      clear e2
      have HL := Lib.hid (HO.out.len (List.getElem_mem hl1))
      have HBG := Lib.hid (HO.out.big _ (List.getElem_mem hl1))
      have HM := Lib.hid (List.getElem_mem hl1)
      have HJ := Lib.hid hl1
      rw [rat_eq hl1] at hu HL HM HBG
      obtain ⟨ua, uc, rfl⟩ := hu.isSlice
      have HU := Lib.hid hu
      clear hca hu hba hl1
      generalize hr : rs.getD j [] = r at *
      have HRR := Lib.hid hr
      clear hr
      generalize hq : r.length = q at *
      have HQ := Lib.hid hq
      clear hq
      go_wp2_with fail
      refine Calls.mono (mcheck_any _ _ _ _ (by have h := HU.out; rw [← HQ.out] at h; rw [← HQ.out]; exact h) (by have := HL.out; rw [HQ.out]; omega)) ?_
      rintro _ w2 ⟨rfl, hb1⟩
      have HW : Hid (Below w.heap.size w w2) := HB.out.trans (hb1.mono HB.out.size)
      have HV2 := Lib.hid (HV.out.below hb1)
      have HU2 := Lib.hid (HU.out.below hb1)
      clear hb1 hc HU HV
      unfold chkE
      cases hc : rowB r with
      | true =>
        rw [if_pos rfl]
        have HC := Lib.hid hc
        clear hc
        by_cases hq0 : q = 0
        · subst hq0
          go_wp2_with fail
          go_roundw
          · exact ⟨j + 1, _, _, by go_num, by omega, (fun i hi => by
              by_cases e : i = j
              · rw [e, HRR.out]; exact HC.out
              · exact HR.out i (by omega)), HV2.out, HH.out.skip HJ.out (by rw [HRR.out, HQ.out]), HW.out⟩
          · simp only [intOf]; omega
        · have t2 : (0 : Int) < (q : Int) := by omega
          have k0 : w2.cell? ⟨w.heap.size, 0, none⟩ = some hv := HV2.out.cell
          obtain ⟨ha, hc', rfl⟩ := HV2.out.own.isSlice
          go_wp2_with fail
          have HUd := Lib.hid (HU2.out.below (below_drew (Below.refl _ _)))
          have HVd : Hid (Hv w.heap.size (fun k => w.heap.size < k) w2.drew w.heap.size (.slice ha l.length hc') l) := HV2.out.below (below_drew (Below.refl _ _))
          have HLm : Hid (l.length < 1000000) := by have := HH.out.len; show _ < _; omega
          have HEL : Hid (∀ k, w2.drew.heap.size ≤ k → w.heap.size < k ∧ (Value.slice ha l.length hc').ownBlock ≠ some k) := fun k hk => ⟨Nat.lt_of_lt_of_le HVd.out.blk.lt hk, fun e => by have := (HVd.out.own.lt k e).2; omega⟩
          go_region_law (first
            | (refine step_append_elF (K := headK) 51 80 _ 32 Try.underlying51 info_head rfl (fun k => w.heap.size < k) w.heap.size (Value.slice ha l.length hc') l x1.heap.size 80 _ ⟨r, (j : Int)⟩ rfl _ _ rfl rfl rfl ((HVd.out.own.below hb1).below ((Below.refl _ _).alloc (Nat.le_refl _) _)) (Blk.at_new rfl rfl) ⟨_, rfl, (hr1.below ((Below.refl _ _).alloc (Nat.le_refl _) _)).mono fun k _ hk => HEL.out k hk⟩ HLm.out (by decide) (HB1.out.alloc HB1.out.size _).size ?_; intro v4 w4 hro hg; obtain ⟨a4, c4, rfl⟩ := hro.isSlice; have HN4 := Lib.hid (new_grown (HVd.out.below hb1) hro hg HB1.out (Nat.le_refl _)); clear hro hg; have k4 : w4.cell? ⟨w.heap.size, 0, none⟩ = some (Value.slice ha l.length hc') := HN4.out.2.1.cell rfl; have f4 := HN4.out.2.1.free 0)
            | (go_simp; go_at_call 55; refine Calls.mono (mown_any F _ r _ (by have h := HUd.out; rw [← HQ.out] at h; rw [← HQ.out]; exact h) (by have := HL.out; rw [HQ.out]; omega) HBG.out) ?_; rintro _ x1 ⟨v1, rfl, hr1, hb1⟩; obtain ⟨va1, vc1, rfl⟩ := hr1.isSlice; have HB1 := Lib.hid (HW.out.trans ((below_of_drew hb1).mono HW.out.size)); have kx : x1.cell? ⟨w.heap.size, 0, none⟩ = some (Value.slice ha l.length hc') := (HVd.out.below hb1).cell; have ky : ∀ o, (x1.alloc o).cell? ⟨w.heap.size, 0, none⟩ = some (Value.slice ha l.length hc') := fun o => ((HVd.out.below hb1).blk.alloc o).cell rfl))
          all_goals
            clear k0 kx ky k4 f4 hr1 hb1 t2
            go_upto_region 10 with fail
            refine wp_gen fun w5 hw5 => ?_
            have HN5 : Hid (Hv w.heap.size (fun k => w.heap.size < k) w5 w.heap.size (.slice a4 (l ++ [(⟨r, (j : Int)⟩ : Hd)]).length c4) (l ++ [⟨r, (j : Int)⟩]) ∧ Below w.heap.size w w5) := by
              rw [hw5, ← show (l ++ [(⟨r, (j : Int)⟩ : Hd)]).length = l.length + 1 by simp]
              exact hv_stored HN4.out (fun e => Nat.lt_irrefl _ e) (Nat.le_refl _)
            clear hw5 HN4 HVd HUd HEL HB1
            have HH5 : Hid (HdsOk rs (j + 1) (l ++ [⟨r, (j : Int)⟩])) := by
              have h5 := HH.out.more HO.out HJ.out (by rw [HRR.out, HQ.out]; exact hq0) (by rw [HRR.out]; exact HC.out)
              rw [HRR.out] at h5
              exact h5
            go_wp2_with fail
            go_roundw
            · exact ⟨j + 1, _, _, by go_num, by omega, (fun i hi => by
                by_cases e : i = j
                · rw [e, HRR.out]; exact HC.out
                · exact HR.out i (by omega)), HN5.out.1, HH5.out, HN5.out.2⟩
            · simp only [intOf]; omega
      | false =>
        rw [if_neg (by decide)]
        have HC := Lib.hid hc
        clear hc
        go_wp2_with fail
        go_ret2
        refine ⟨.pointer none, ret2_of rfl (int_eq (chkR_bad HM.out HC.out).symm), HW.out, fun _ => rfl, fun e => ?_⟩
        rw [chkR_bad HM.out HC.out] at e
        cases e
    · have t1 : ¬ (j : Int) < (n : Int) := by omega
      have HC : Hid (chkR rs = 0) := RowsTo.all (by rw [HN.out]; exact fun i hi => HR.out i (by omega))
      have HT : Hid (HOk l ∧ Hsort l ∧ Tells l (allOf rs)) := by
        obtain ⟨g1, _, g2, _, _, g3⟩ := HH.out
        rw [List.take_of_length_le (by rw [HN.out]; omega)] at g3
        exact ⟨g1, g2, g3⟩
      go_wp2_with fail
      refine Calls.mono (init_any HV.out HT.out.1.few HT.out.1.ne) ?_
      rintro _ w3 ⟨l3, rfl, g1, g2, g3, g4⟩
      have HP : Hid (NewPost F rs w (.returned (.tuple #[.pointer (some ⟨w.heap.size, 0, none⟩), .int .i64 0])) w3) := by
        refine ⟨_, by rw [HC.out], HB.out.trans (g4.below HB.out.size fun k e => (HV.out.own.lt k e).1), fun e => absurd HC.out e, fun _ => ⟨rfl, hv, l3, g1, ?_, HT.out.2.1.perm g2.symm, g3, HT.out.2.2.perm g2.symm⟩⟩
        exact ⟨by rw [g2.length_eq]; exact HT.out.1.few, fun x hx => HT.out.1.ne x (g2.mem_iff.1 hx), fun x hx => HT.out.1.big x (g2.mem_iff.1 hx)⟩
      clear g1 g2 g3 g4
      go_wp2_with fail
      go_ret2
      exact HP.out
end Go.Proofs.Ytmpapipobjoboaa
