/- Chapter 14: slices.Grow of nothing, slices.Concat of two. -/
import Derived.Test.YtkcohhldmhdcfaaPkF
namespace Go.Proofs.Ytkcohhldmhdcfaa
open Go.RowKit

/-- append of zeros to nothing: a new row. -/
theorem wpList_append_zeros0 {P : Program} {ops : Array Oper} {rest : List Oper} {w : World} {o : Oper} {a : Act} {Q : Exit → Act → World → Prop} (hgd : o.guard = none) (s x : Operand) (t tn e : TypeId)
    (ho : o.op = .call { callee := .builtin .append, args := #[s, x], argTypes := #[t, tn] }) (ht : P.underlying t = some (.slice e)) (htn : P.underlying tn = some (.int .i64)) (z : Value) (size bytes : Nat)
    (hinfo : (P.info? e).map (fun i => (i.zero, i.size, i.bytes)) = some (some z, size, bytes)) (hzs : z.cells.size = size) (hsz : 0 < size)
    (hs : a.eval s = .slice none 0 0) (k : Nat) (kz : Int) (hkz : kz = (k : Int)) (hx : a.eval x = .int .i64 kz)
    (hk : 0 < k) (hfew : k ≤ 1000000) (hby : bytes ≤ 100000)
    (h : ∀ w' g' cap' cur', w.heap.size ≤ g' → Blk w' g' cur' e → cur'.size = cap' * size → k ≤ cap' → cap' ≤ maxLen → Below w.heap.size w w' → wpList P ops Q rest (a.put o.dst (.slice (some ⟨g', 0, none⟩) k cap')) w') : wpList P ops Q (o :: rest) a w := by
  subst hkz
  obtain ⟨i0, hi, hz0, hz1, hz2⟩ := info_parts hinfo
  subst hz1 hz2
  have hold := run_firstCells_none (P := P) w.drew i0.size 0 0 0
  have hb1 : k * i0.bytes ≤ 140737488355328 := Nat.le_trans (Nat.mul_le_mul hfew hby) (by decide)
  have hr := Lib.run_append_grow_zeros (P := P) w t tn o.type e i0 z .i64 .i64 ht htn hi hz0 none 0 0 _ hold k hk hsz (by omega) (by omega) (by omega) (growslice_fits (by omega) (by rw [Nat.zero_add]; omega))
  have hge := grownCap_ge w (0 + k) 0 e
  have hcm := grownCap_le_maxLen w (0 + k) 0 e (by simp only [maxLen]; omega)
  rw [Nat.zero_add] at hr hge hcm
  refine wpList_plain hgd fun K hK => ?_
  unfold Oper.wp execOp
  simp only [ho, resolve, invoke, builtin, Sem.run_bind, Sem.run_pure, Result.andThen_ok, List.map_toArray, List.map_cons, List.map_nil, hs, hx, hr]
  refine hK _ _ (h _ _ _ _ (Nat.le_refl _) (heap_alloc_new w.drew _) ?_ hge hcm ((below_of_drew (Below.refl _ _)).alloc (Nat.le_refl _) _))
  simp only [Array.size_append, size_zeroCells, hzs]
  rw [show (#[] : Array Value).size = 0 from rfl, Nat.zero_add, ← Nat.add_mul]
  congr 1
  omega
set_option maxRecDepth 100000 in
set_option maxHeartbeats 2000000 in
theorem grow0_any (F : Nat → Prop) (n : Nat) (w : World) (hn : n ≤ 1000000) :
    Calls Try.prog 104 #[.slice none 0 0, .int .i64 (n : Int)] w fun e w' => ∃ a c, e = .returned (.slice a 0 c) ∧ ROwnF filK F w.heap.size 42 w' (.slice a 0 c) [] ∧ Below w.heap.size w w' := by
  have t0 : ¬ (n : Int) < 0 := by omega
  by_cases h0 : 0 < n
  · have t1 : 0 < (n : Int) := by omega
    go_enter Try.func104, Try.ntmps104
    have hX0 : ∀ w, (Instr.slice 33 (.slice none 0 0) none (some (.int .i64 0)) none).run Try.prog w = .ok (.slice none 0 0) w := fun w => by kernel_rfl
    go_wp2_with (with_reducible refine pause_append ?_)
    refine Pause.go (wpList_append_zeros0 rfl _ _ 33 3 42 rfl under_fils Try.underlying3 zeroFil 6 80 info_filO rfl (by decide) rfl n _ ?_ rfl h0 hn (by decide) ?_)
    · first | rfl | simp
    intro w2 g2 cap2 cur2 hg2 hb2 hs2 hc2 hm2 hbel
    have HB := Lib.hid hbel
    have HO : Hid (ROwnF filK F w.heap.size 42 w2 (.slice (some ⟨g2, 0, none⟩) 0 cap2) []) := ⟨[], ⟨rfl, .inr ⟨g2, cap2, cur2, rfl, hg2, hb2, Nat.zero_le _, hm2, hs2, by simp⟩⟩, rfl⟩
    have hX := fsl_h g2 n cap2 0 (by omega)
    clear hbel hb2 hs2
    go_wp2_with fail
    go_ret
    exact ⟨_, _, rfl, HO.out, HB.out⟩
  · obtain rfl : n = 0 := by omega
    have t1 : ¬ (0 : Int) < 0 := by omega
    go_enter Try.func104, Try.ntmps104
    go_wp2_with fail
    go_ret
    exact ⟨_, _, rfl, ROwnF.nil _ _ _ _ _, Below.refl _ _⟩

set_option maxRecDepth 100000 in
set_option maxHeartbeats 4000000 in
theorem concat_any (F : Nat → Prop) (b : Nat) (v1 v2 : Value) (l1 l2 : List Fil) (w : World) (hb : Blk w b #[v1, v2] 33) (h1 : Rw filK F w v1 l1) (h2 : Rw filK F w v2 l2) (hfew : l1.length + l2.length ≤ 1000000) :
    Calls Try.prog 60 #[.slice (some ⟨b, 0, none⟩) 2 2] w fun e w' => ∃ r, e = .returned r ∧ Rw filK (fun k => w.heap.size ≤ k ∨ F k) w' r (l1 ++ l2) ∧ Below w.heap.size w w' := by
  have H1 : Hid (Rw filK (fun k => F k ∧ k < w.heap.size) w v1 l1) := h1.mono fun k hk hF => ⟨hF, hk⟩
  have H2 : Hid (Rw filK (fun k => F k ∧ k < w.heap.size) w v2 l2) := h2.mono fun k hk hF => ⟨hF, hk⟩
  obtain ⟨a1, c1, rfl⟩ := h1.isSlice
  obtain ⟨a2, c2, rfl⟩ := h2.isSlice
  clear h1 h2
  have HBK := Lib.hid hb
  have x0 : w.cell? ⟨b, 0, none⟩ = some (.slice a1 l1.length c1) := hb.cell rfl
  have x1 : w.cell? ⟨b, 1, none⟩ = some (.slice a2 l2.length c2) := hb.cell rfl
  obtain ⟨n1, hn1⟩ : ∃ n, l1.length = n := ⟨_, rfl⟩
  obtain ⟨n2, hn2⟩ : ∃ n, l2.length = n := ⟨_, rfl⟩
  have HN1 := Lib.hid hn1
  have HN2 := Lib.hid hn2
  rw [hn1] at H1 x0 HBK hfew
  rw [hn2] at H2 x1 HBK hfew
  clear hb hn1 hn2
  have t0 : ¬ (n1 : Int) < 0 := by omega
  have t1 : ¬ (n1 : Int) + (n2 : Int) < 0 := by omega
  go_enter Try.func60, Try.ntmps60
  go_wp2_with fail
  refine wp_loop_rounds 3 ?_
  rw [rounds_succ]
  go_wp2_with fail
  rw [rounds_succ]
  go_wp2_with fail
  rw [rounds_succ]
  go_wp2_with fail
  have hg := grow0_any (fun k => F k ∧ k < w.heap.size) (n1 + n2) w hfew
  rw [Int.natCast_add] at hg
  refine Calls.mono hg ?_
  rintro _ w2 ⟨ga, gc, rfl, hro, hb2⟩
  have HRO := Lib.hid hro
  have HB2 := Lib.hid hb2
  have y0 : w2.cell? ⟨b, 0, none⟩ = some (.slice a1 n1 c1) := (HBK.out.below hb2 HBK.out.lt).cell rfl
  have y1 : w2.cell? ⟨b, 1, none⟩ = some (.slice a2 n2 c2) := (HBK.out.below hb2 HBK.out.lt).cell rfl
  clear hg hro hb2 x0 x1
  go_wp2_with fail
  refine wp_loop_rounds 3 ?_
  rw [rounds_succ]
  go_wp2_with (with_reducible refine pause_append ?_)
  clear y0 y1
  obtain ⟨cs1, hs1, he1⟩ := H1.out.below HB2.out
  refine Pause.go (wpList_append_elsF (K := filK) 33 42 _ 80 Try.underlying33 info_filO rfl (fun k => F k ∧ k < w.heap.size) w.heap.size _ [] _ l1 rfl _ _ rfl rfl rfl HRO.out cs1 (fun k => F k ∧ k < w.heap.size) (by rw [HN1.out]; rw [HN1.out] at hs1; exact hs1) (he1.mono fun j _ hj => ⟨hj, fun e0 => by have := (HRO.out.lt j e0).1; have := hj.2; omega⟩) (by rw [HN1.out]; simp only [List.length_nil]; omega) (by decide) HB2.out.size ?_)
  intro v3 w3 hro hgw
  rw [List.nil_append] at hro
  have HB3 : Hid (Below w.heap.size w w3) := HB2.out.trans (hgw.below HB2.out.size fun j e0 => (HRO.out.lt j e0).1)
  have HRO3 := Lib.hid hro
  have z1 : w3.cell? ⟨b, 1, none⟩ = some (.slice a2 n2 c2) := (HBK.out.below HB3.out HBK.out.lt).cell rfl
  obtain ⟨a3, c3, rfl⟩ := hro.isSlice
  clear hro hgw hs1 he1 HRO HB2
  go_wp2_with fail
  rw [rounds_succ]
  go_wp2_with (with_reducible refine pause_append ?_)
  clear z1
  obtain ⟨cs2, hs2, he2⟩ := H2.out.below HB3.out
  refine Pause.go (wpList_append_elsF (K := filK) 33 42 _ 80 Try.underlying33 info_filO rfl (fun k => F k ∧ k < w.heap.size) w.heap.size _ l1 _ l2 rfl _ _ rfl rfl rfl HRO3.out cs2 (fun k => F k ∧ k < w.heap.size) (by rw [HN2.out]; rw [HN2.out] at hs2; exact hs2) (he2.mono fun j _ hj => ⟨hj, fun e0 => by have := (HRO3.out.lt j e0).1; have := hj.2; omega⟩) (by rw [HN1.out, HN2.out]; omega) (by decide) HB3.out.size ?_)
  intro v4 w4 hro hgw
  have HB4 : Hid (Below w.heap.size w w4) := HB3.out.trans (hgw.below HB3.out.size fun j e0 => (HRO3.out.lt j e0).1)
  have HRO4 : Hid (Rw filK (fun k => w.heap.size ≤ k ∨ F k) w4 v4 (l1 ++ l2)) := hro.rows.mono fun k _ hk => hk.elim (fun e => .inl (hro.lt k e).1) fun e => .inr e.1.1
  obtain ⟨a4, c4, rfl⟩ := hro.isSlice
  obtain ⟨n4, hn4⟩ : ∃ n, (l1 ++ l2).length = n := ⟨_, rfl⟩
  rw [hn4] at HRO4 ⊢
  clear hro hgw hs2 he2 HRO3 HB3
  go_wp2_with fail
  rw [rounds_succ]
  go_wp2_with fail
  go_ret
  exact ⟨_, rfl, HRO4.out, HB4.out⟩
end Go.Proofs.Ytkcohhldmhdcfaa
