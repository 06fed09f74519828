/- skip: All, From. -/
import Derived.Test.YtdjjkdhhjdafmaaSkIt
namespace Go.Proofs.Ytdjjkdhhjdafmaa
open Go.RowKit

attribute [local go_sem] Oper.semAt_some

theorem from_any (q : Option Addr) (w : World) :
    Calls Try.prog 41 #[.pointer q] w fun e w' => e = .returned (.func (.func 54) #[] #[.pointer (some ⟨w.heap.size, 0, none⟩)]) ∧ ∃ T, w' = w.alloc (.cells #[.pointer q] T) := by
  go_enter Try.func41, Try.ntmps41
  go_wp2_with fail
  go_ret
  exact ⟨rfl, _, rfl⟩

theorem wp_store_agg {P : Program} {o : Oper} {a : Act} {w : World} {K : Act → World → Prop} {Q : Exit → Act → World → Prop} (ty : TypeId) (x y : Operand) (ho : o.op = .store ty x y)
    (b off : Nat) (hx : a.eval x = .pointer (some ⟨b, off, none⟩)) (vs : Array Value) (hy : a.eval y = .agg vs) (c : Array Value) (T : TypeId) (hg : Blk w b c T)
    (hi : (P.info? ty).map (·.size) = some vs.size) (hl : off + vs.size ≤ c.size) (h1 : ∀ v ∈ vs.toList, v.oneCell' = true)
    (h : K (a.put o.dst undef) (w.setRow b (over c off vs.toList))) : o.wp P a w K Q := by
  have hst := run_storeCells_at (P := P) b off T vs.toList 0 c w hg (by simpa using hl) h1
  cases hq : P.info? ty with
  | none => simp [hq] at hi
  | some i =>
    have hs : i.size = vs.size := by simpa [hq] using hi
    have hr : (storeVar ty ⟨b, off, none⟩ (.agg vs)).run P w = .ok () (w.setRow b (over c off vs.toList)) := by
      simp only [Nat.add_zero] at hst
      simp [storeVar, Sem.run_bind, sizeOf, typeInfo, hq, hs, Value.cells, hst, over]
    unfold Oper.wp execOp
    simp only [ho, hx, hy, Instr.storeAt, Instr.sureAddr, Sem.run_bind, Sem.run_pure, Result.andThen_ok, hr]
    exact h

section
variable {F : Fence} {n l : Nat} {P : Program} {ops : Array Oper} {Q : Exit → Act → World → Prop} {rest : List Oper} {a : Act} {w : World} {dst : Option Tmp} {ty : TypeId} {pos : String} {after : Array Edge} {guard : Option (Nat × Bool)}
theorem pauseIn_store {t : TypeId} {x y : Operand} (h : Pause (wpListIn F n P ops Q (⟨dst, .store t x y, ty, pos, after, guard⟩ :: rest) a w)) : wpListIn F n P ops Q (⟨dst, .store t x y, ty, pos, after, guard⟩ :: rest) a w := h
theorem pauseIn_append {xs : Array Operand} {ts : Array TypeId} (h : Pause (wpListIn F n P ops Q (⟨dst, .call ⟨.builtin .append, xs, ts⟩, ty, pos, after, guard⟩ :: rest) a w)) : wpListIn F n P ops Q (⟨dst, .call ⟨.builtin .append, xs, ts⟩, ty, pos, after, guard⟩ :: rest) a w := h
theorem listIn_gen {l : List Oper} (h : ∀ W, W = w → wpListIn F n P ops Q l a W) : wpListIn F n P ops Q l a w := h w rfl
theorem wpIn_gen {c : Code} (h : ∀ W, W = w → c.wpIn F n P Q a W) : c.wpIn F n P Q a w := h w rfl
/-- One operation in a round, by its plain law. -/
theorem wpListIn_op {o : Oper} (hgd : o.guard = none) (hd : ∀ c, o.op ≠ .defer c) (h : ∀ K : Act → World → Prop, (∀ a w, wpListIn (Fence.wide.inRound l) n P ops Q rest a w → K a w) → o.wp P a w K Q) : wpListIn (Fence.wide.inRound l) n P ops Q (o :: rest) a w :=
  wpListIn_plain hgd fun K hK => wpIn_of_wp hd (h K hK)
end

theorem info_entry : (Try.prog.info? 34).map (fun i => (i.zero, i.size, i.bytes)) = some (some (.agg zeroE), 4, 64) := by kernel_rfl

/-- What a loop that collects holds. -/
def Coll (w : World) (O M : Nat) (pre : List Ent) (W : World) : Prop :=
  Below w.heap.size w W ∧ ∃ v T, Blk W O #[v] T ∧ ROwnF entK (fun k => M ≤ k) M 34 W v pre

theorem Coll.stays {w : World} {O M : Nat} {D : Nat → Prop} (hD : ∀ k, D k → w.heap.size ≤ k ∧ k < M ∧ k ≠ O) : Stays D (Coll w O M) := by
  rintro pre A B ⟨h1, v, T, h3, h4⟩ hb
  refine ⟨h1.trans (hb.below (fun k hk => (hD k hk).1) h1.size), v, T, h3.same (hb.block O h3.lt fun e => (hD O e).2.2 rfl), h4.keep fun k hk h => hb.block k hk fun e => ?_⟩
  have h5 := (hD k e).2.1
  rcases h with h | h
  · have := (h4.lt k h).1; omega
  · omega

/-- What a round of such a loop holds, ahead of its append. -/
structure Hold (w : World) (O M : Nat) (pre : List Ent) (x : Ent) (vk vv v : Value) (T : TypeId) (W : World) : Prop where
  b : Below w.heap.size w W
  o : Blk W O #[v] T
  r : ROwnF entK (fun k => M ≤ k) M 34 W v pre
  hk : Bytes (fun k => M ≤ k ∧ v.ownBlock ≠ some k) W vk x.key
  hv : Bytes (fun k => M ≤ k ∧ v.ownBlock ≠ some k) W vv x.value
  m : M ≤ W.heap.size
  om : w.heap.size ≤ O ∧ O < M

theorem Hold.keep {w W W' : World} {O M : Nat} {pre : List Ent} {x : Ent} {vk vv v : Value} {T : TypeId} (h : Hold w O M pre x vk vv v T W) {D : Nat → Prop} (hD : ∀ k, D k → w.heap.size ≤ k ∧ k < M ∧ k ≠ O) (hb : But D W W') : Hold w O M pre x vk vv v T W' where
  b := h.b.trans (hb.below (fun k hk => (hD k hk).1) h.b.size)
  o := h.o.same (hb.block O h.o.lt fun e => (hD O e).2.2 rfl)
  r := h.r.keep fun k hk hF => hb.block k hk fun e => by
    have h5 := (hD k e).2.1
    rcases hF with hF | hF
    · have := (h.r.lt k hF).1; omega
    · omega
  hk := h.hk.keep fun k hk hF => hb.block k hk fun e => by have h5 := (hD k e).2.1; omega
  hv := h.hv.keep fun k hk hF => hb.block k hk fun e => by have h5 := (hD k e).2.1; omega
  m := Nat.le_trans h.m hb.size
  om := h.om
theorem Hold.below {w W W' : World} {O M : Nat} {pre : List Ent} {x : Ent} {vk vv v : Value} {T : TypeId} (h : Hold w O M pre x vk vv v T W) (hb : Below W.heap.size W W') : Hold w O M pre x vk vv v T W' :=
  h.keep (D := fun _ => False) (fun _ e => e.elim) (But.of_below hb)

theorem Hold.one {w W : World} {O M : Nat} {pre : List Ent} {x : Ent} {vk vv v : Value} {T : TypeId} (h : Hold w O M pre x vk vv v T W) : ∀ u ∈ (entCells x vk vv).toArray.toList, u.oneCell' = true :=
  entK.one (w := W) (x := x) (F := fun _ => True) ⟨vk, vv, rfl, h.hk.mono fun _ _ _ => trivial, h.hv.mono fun _ _ _ => trivial⟩

/-- The round's append, and the store behind it. -/
theorem Hold.step {w W W' : World} {O M : Nat} {pre : List Ent} {x : Ent} {vk vv v v' : Value} {T : TypeId} (h : Hold w O M pre x vk vv v T W) (hr : ROwnF entK (fun k => M ≤ k) M 34 W' v' (pre ++ [x])) (hg : Grew W W' v v') :
    Coll w O M (pre ++ [x]) (W'.setCell ⟨O, 0, none⟩ v') ∧ (∀ k, k < M → k ≠ O → (W'.setCell ⟨O, 0, none⟩ v').heap[k]? = W.heap[k]?) ∧ Below w.heap.size W (W'.setCell ⟨O, 0, none⟩ v') := by
  have hb : Below M W W' := hg.below h.m fun k hk => (h.r.lt k hk).1
  have hb2 : Below w.heap.size W (W'.setCell ⟨O, 0, none⟩ v') := (hb.mono (by have := h.om; omega)).setCell h.om.1 _
  refine ⟨⟨h.b.trans hb2, v', T, (h.o.below hb h.om.2).set 0 v', hr.keep fun k _ hF => setCell_keep k fun e => ?_⟩, fun k hk hne => (setCell_keep k hne).trans (hb.block k hk), hb2⟩
  have := h.om
  rcases hF with hF | hF
  · have := (hr.lt k hF).1; omega
  · omega

set_option maxRecDepth 100000 in
set_option maxHeartbeats 4000000 in
theorem skAll_any (lo : Lo) (b : Nat) (hd : Tw) (ts : List Tw) (w : World) (h : Skp lo w b hd ts) :
    Calls Try.prog 12 #[.pointer (some ⟨b, 0, none⟩)] w fun e w' => ∃ v, e = .returned v ∧ Rw entK (fun k => w.heap.size ≤ k) w' v (ts.map Tw.e) ∧ Below w.heap.size w w' := by
  have HI := Lib.hid h
  clear h
  refine callsIn_wide.1 (callsIn_of_wp_marks (n := 9) Try.func12 rfl trivial ?_ rfl)
  simp only [Try.ntmps12, List.size_toArray, List.length_cons, List.length_nil, Nat.reduceAdd, Nat.reduceSub, Array.replicate_succ, Array.replicate_zero, List.push_toArray, List.append_toArray, List.nil_append, List.cons_append]
  gi_wp2
  refine ⟨trivial, CallsIn.mono (callsIn_wide.2 (skNone_false HI.out)) ?_⟩
  rintro _ w1 ⟨rfl, rfl⟩
  have HA : Hid (∀ T : TypeId, Skp lo (w1.alloc (.cells #[.slice none 0 0] T)) b hd ts) := fun T => HI.out.below ((Below.refl _ _).alloc (Nat.le_refl _) _)
  have k0 : ∀ T : TypeId, (w1.alloc (.cells #[.slice none 0 0] T)).cell? ⟨b, 0, none⟩ = some (.pointer (some ⟨hd.b, 0, none⟩)) := fun T => (HA.out T).blk.cell rfl
  obtain ⟨q, hq⟩ := nxt_ptr 0 ts
  have k4 : ∀ T : TypeId, (w1.alloc (.cells #[.slice none 0 0] T)).cell? ⟨hd.b, 4, none⟩ = some (.pointer q) := by
    intro T
    obtain ⟨vk, vv, g1, _, _⟩ := (HA.out T).tower (p := []) (t := hd) (r := ts) rfl
    refine g1.cell ?_
    rw [List.getElem?_toArray]
    exact (twCells_all hd vk vv ts 0 (by omega)).trans (by rw [if_pos (by rw [HI.out.h12]; omega), hq])
  have HQ := Lib.hid hq
  clear hq
  gi_wp2
  refine ⟨trivial, CallsIn.mono (callsIn_wide.2 (from_any _ _)) ?_⟩
  rintro _ w2 ⟨rfl, T2, hw2⟩
  have HX : Hid (Blk w2 (w1.heap.size + 1) #[nxt 0 ts] T2) := by rw [hw2]; exact Blk.at_new (by simp) (by rw [HQ.out])
  have HO : Hid (∃ T, Blk w2 w1.heap.size #[.slice none 0 0] T) := by rw [hw2]; exact ⟨_, (Blk.at_new rfl rfl).alloc _⟩
  have HB : Hid (Below w1.heap.size w1 w2) := by rw [hw2]; exact below_two _ _ _
  have hsz : w2.heap.size = w1.heap.size + 2 := by rw [hw2]; simp
  have HSZ := Lib.hid hsz
  clear hw2 k0 k4 HQ HA hsz
  gi_wp2
  obtain ⟨TO, HO⟩ := HO.out
  have HO := Lib.hid HO
  have HK : ∀ k, Kept3 (w1.heap.size + 1) w2.heap.size k → w1.heap.size ≤ k ∧ k < w1.heap.size + 4 ∧ k ≠ w1.heap.size := fun k hk => by
    have := HSZ.out
    rcases hk with rfl | rfl | rfl <;> omega
  have HK := Lib.hid HK
  refine wpIn_rangeX rfl (by omega) (gf := 54) (lb := #[.pointer (some ⟨w1.heap.size + 1, 0, none⟩)]) rfl trivial (enters_of Try.func54 (by kernel_rfl) rfl)
    (w1.heap.size + 1) w1.heap.size (by have := HSZ.out; omega) HB.out.size (ts.map Tw.e) handed (from1_iter lo b hd ts [] ts (9 - 1) (w1.heap.size + 1) T2 w1 w2 HI.out rfl HB.out (by omega) HX.out)
    (fun A B x vs hv => by obtain ⟨_, _, rfl, _⟩ := hv; rfl) (fun pre W => Coll w1 w1.heap.size (w1.heap.size + 4) pre W ∧ pre.length ≤ ts.length) (fun _ _ _ => False)
    (fun pre A B h hb => ⟨Coll.stays HK.out pre A B h.1 hb, h.2⟩) (fun _ _ _ _ h _ => h) ?start ?round ?done ?stop
  case start => exact ⟨⟨HB.out, _, _, HO.out, ROwnF.nil _ _ _ _ _⟩, Nat.zero_le _⟩
  case stop => exact fun _ _ _ _ h _ => h.elim
  case round =>
    intro pre x rest vs Wp W hxs hip hbp hvs hlt hi
    obtain ⟨vk, vv, rfl, hk, hv⟩ := hvs
    clear hi
    obtain ⟨⟨hbw, v0, T0, ho, hr⟩, hpl⟩ := hip
    have hpt : pre.length < ts.length := by have := congrArg List.length hxs; simp at this; omega
    have hM : w1.heap.size + 4 ≤ Wp.heap.size := by have := HSZ.out; omega
    obtain ⟨ka, kc, rfl⟩ := hk.isSlice
    obtain ⟨va, vc, rfl⟩ := hv.isSlice
    obtain ⟨oa, oc, rfl⟩ := hr.isSlice
    have hno : ∀ k, Wp.heap.size ≤ k → (Value.slice oa pre.length oc).ownBlock ≠ some k := fun k hk e => by have := (hr.lt k e).2; omega
    have HD := Lib.hid (show Hold w1 w1.heap.size (w1.heap.size + 4) pre x (.slice ka x.key.length kc) (.slice va x.value.length vc) (.slice oa pre.length oc) T0 W from
      ⟨hbw.trans (hbp.mono hbw.size), ho.below hbp ho.lt, hr.below hbp, hk.mono fun k _ h => ⟨by omega, hno k h⟩, hv.mono fun k _ h => ⟨by omega, hno k h⟩, Nat.le_trans hM hbp.size, ⟨Nat.le_refl _, by omega⟩⟩)
    have HPT := Lib.hid hpt
    have HXS := Lib.hid hxs
    have HFEW := Lib.hid HI.out.few
    clear hbw ho hr hk hv hno hpt hxs hpl hlt hM hbp HI
    gi_wp2_with (with_reducible refine pauseIn_store ?_)
    refine Pause.go (wpListIn_op rfl (by intro c e; cases e) fun K hK => wp_store_agg _ _ _ rfl W.heap.size 0 rfl _ rfl zeroE _ (Blk.at_new rfl rfl) (by kernel_rfl) (by simp [zeroE, entCells]) HD.out.one (hK _ _ ?_))
    rw [over_all zeroE _ (by simp [zeroE, entCells])]
    clear hK
    refine listIn_gen fun W3 hW3 => ?_
    have HZ3 : Hid (Blk W3 W.heap.size (entCells x (.slice ka x.key.length kc) (.slice va x.value.length vc)).toArray 34) := by rw [hW3]; exact (Blk.at_new rfl rfl).row _
    have HB3 : Hid (Below W.heap.size W W3) := by rw [hW3]; exact below_setRow ((Below.refl _ _).alloc (Nat.le_refl _) _) (Nat.le_refl _) _
    clear hW3
    have HD3 := Lib.hid (HD.out.below HB3.out)
    gi_wp2
    refine ⟨fun k hk => HB3.out.block k (by have := HK.out k hk; have := HD.out.m; omega), HB3.out.mono HD.out.b.size, fun W4 hb4 => ?_⟩
    have HD4 := Lib.hid (HD3.out.keep (fun k e => HK.out k (.inr (.inr e))) hb4)
    have HZ4 : Hid (Blk W4 W.heap.size (entCells x (.slice ka x.key.length kc) (.slice va x.value.length vc)).toArray 34) := HZ3.out.same (hb4.block _ HZ3.out.lt fun e => by have := (HK.out _ (.inr (.inr e))).2.1; have := HD.out.m; omega)
    have c0 : W4.cell? ⟨W.heap.size, 0, none⟩ = some (.slice ka x.key.length kc) := HZ4.out.cell rfl
    have c1 : W4.cell? ⟨W.heap.size, 1, none⟩ = some (.int .u64 x.seq) := HZ4.out.cell rfl
    have c2 : W4.cell? ⟨W.heap.size, 2, none⟩ = some (.int .i64 x.kind) := HZ4.out.cell rfl
    have c3 : W4.cell? ⟨W.heap.size, 3, none⟩ = some (.slice va x.value.length vc) := HZ4.out.cell rfl
    have co : W4.cell? ⟨w1.heap.size, 0, none⟩ = some (.slice oa pre.length oc) := HD4.out.o.cell rfl
    clear hb4 HD3 HZ3 HB3
    gi_wp2_with (with_reducible refine pauseIn_append ?_)
    refine listIn_gen fun W5 hW5 => ?_
    have HB5 : Hid (Below W4.heap.size W4 W5) := by rw [hW5]; exact (Below.refl _ _).alloc (Nat.le_refl _) _
    have HS5 : Hid (Blk W5 W4.heap.size (entCells x (.slice ka x.key.length kc) (.slice va x.value.length vc)).toArray 34) := by rw [hW5]; exact Blk.at_new rfl rfl
    clear hW5 c0 c1 c2 c3 co
    have HD5 := Lib.hid (HD4.out.below HB5.out)
    refine Pause.go (wpListIn_op rfl (by intro c e; cases e) fun K hK => wp_append_elF (K := entK) 22 34 _ 64 Try.underlying22 info_entry rfl (fun k => w1.heap.size + 4 ≤ k) (w1.heap.size + 4) (.slice oa pre.length oc) pre W4.heap.size 34 _ x _ _ rfl rfl rfl HD5.out.r HS5.out ⟨_, _, rfl, HD5.out.hk, HD5.out.hv⟩ (by have := HPT.out; have := HFEW.out; omega) (by decide) HD5.out.m fun v' w' ho hg => hK _ _ ?_)
    clear hK
    obtain ⟨s1, s2, s3⟩ := HD5.out.step ho hg
    obtain ⟨na, nc, rfl⟩ := ho.isSlice
    have hO6 : Blk w' w1.heap.size #[.slice oa pre.length oc] T0 := HD5.out.o.same (hg.grown.block _ HD5.out.o.lt fun e => by have := (HD5.out.r.lt _ e.symm).1; omega)
    have co : w'.cell? ⟨w1.heap.size, 0, none⟩ = some (.slice oa pre.length oc) := hO6.cell rfl
    have fo : w'.frozen? ⟨w1.heap.size, 0, none⟩ = false := hO6.free 0
    rw [List.length_append, List.length_singleton] at s1 s2 s3
    have S1 := Lib.hid s1
    have S2 := Lib.hid s2
    have S3 := Lib.hid s3
    clear s1 s2 s3 ho hg hO6
    gi_wp2
    refine ⟨fun k hk => ?_, (HB5.out.mono HD4.out.b.size).trans S3.out, S1.out, ?_⟩
    · have h1 := HK.out k hk
      exact (S2.out k h1.2.1 h1.2.2).trans (HB5.out.block k (by have := HD4.out.m; omega))
    · have := HPT.out
      simp only [List.length_append, List.length_singleton]
      omega
  case done =>
    intro W hi hK
    obtain ⟨⟨hb, v0, T0, ho, hr⟩, _⟩ := hi
    obtain ⟨oa, oc, rfl⟩ := hr.isSlice
    have co : W.cell? ⟨w1.heap.size, 0, none⟩ = some (.slice oa (ts.map Tw.e).length oc) := ho.cell rfl
    have HBw := Lib.hid hb
    have HRw := Lib.hid hr
    have HKw := Lib.hid hK
    clear hb ho hr hK
    gi_wp2
    refine ⟨by simp, .inl ⟨_, _, rfl, run_takeDeferred HKw.out, ?_⟩⟩
    refine ⟨_, results_tmp rfl _ _ _, _, rfl, ?_, ?_⟩
    · have hbt := But.putObj (D := fun k => k = w2.heap.size) W (k := w2.heap.size) (.deferred none) rfl
      have hr2 := HRw.out.keep (w' := W.putObj w2.heap.size (.deferred none)) fun k hk hF => hbt.block k hk fun e => by
        have := HSZ.out
        rcases hF with hF | hF
        · have := (HRw.out.lt k hF).1; omega
        · omega
      rw [List.length_map] at hr2
      exact hr2.rows.mono fun k _ h => by
        rcases h with h | h
        · have := (hr2.lt k h).1; omega
        · omega
    · exact HBw.out.trans ((But.putObj (D := fun k => k = w2.heap.size) W (.deferred none) rfl).below (fun k e => by have := HSZ.out; omega) HBw.out.size)
end Go.Proofs.Ytdjjkdhhjdafmaa
