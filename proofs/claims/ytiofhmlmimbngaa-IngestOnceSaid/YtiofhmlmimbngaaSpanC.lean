/- Copies of spans. -/
import Derived.Test.YtiofhmlmimbngaaSpanB
import Derived.Lib.SlBytesConst
import Derived.Lib.SliceRun
namespace Go.Proofs.Ytiofhmlmimbngaa
open Go.RowKit

def emptyStr : Value := .string ⟨#[]⟩
theorem info_tag : (Try.prog.info? 73).map (fun i => (i.zero, i.size, i.bytes)) = some (some (.agg #[emptyStr, emptyStr]), tagK.sz, 32) := by kernel_rfl
theorem info_span : (Try.prog.info? 35).map (fun i => (i.zero, i.size, i.bytes)) = some (some (.agg #[.int .u64 0, .int .u64 0, .int .u64 0, .int .u64 0, emptyStr, emptyStr, .int .i64 0, .int .i64 0, .int .i64 0, .bool false, .slice none 0 0]), spanK.sz, 120) := by kernel_rfl

theorem Rw.of_none {α : Type} {K : Kind α} {F : Nat → Prop} {w : World} {xs : List α} {n c : Nat} (h : Rw K F w (.slice none n c) xs) : n = 0 ∧ c = 0 ∧ xs = [] := by
  obtain ⟨cs, h1, _⟩ := h
  obtain ⟨a, cap, e, h2, _, h4, _⟩ := h1.ex
  injection e with e1 e2 e3
  have := h4 e1.symm
  exact ⟨by omega, by omega, List.eq_nil_of_length_eq_zero (by omega)⟩

theorem ROwned.lit {α : Type} (K : Kind α) (e : Nat) (w : World) : ROwned K w.heap.size e (w.alloc (.cells #[] e)) (.slice (some ⟨w.heap.size, 0, none⟩) 0 0) [] :=
  ⟨[], World.ownsRow_lit w #[] 0 (Nat.le_refl _) (by simp [maxLen]) (by simp), rfl⟩

set_option maxRecDepth 100000 in
theorem clone_any (F : Nat → Prop) (v : Value) (ts : List Sp.Tag) (w : World) (hv : Rw tagK F w v ts) (hl : ts.length ≤ 1000000) :
    Calls Try.prog 44 #[v] w fun e w' => ∃ v', e = .returned v' ∧ Rw tagK (fun k => w.heap.size ≤ k) w' v' ts ∧ Below w.heap.size w w' := by
  obtain ⟨a, c, rfl⟩ := hv.isSlice
  have hnil := fun w => Lib.run_eql_slice_nil (P := Try.prog) w 33 73 a ts.length c 0 0 Try.underlying33
  cases a with
  | none =>
    obtain ⟨h1, h2, h3⟩ := hv.of_none
    subst h2 h3
    clear hv h1 hl
    simp only [List.length_nil] at hnil ⊢
    go_enter Try.func44, Try.ntmps44
    go_wp2_with fail
    go_ret
    exact ⟨_, rfl, Rw.nil _ _ _, Below.refl _ _⟩
  | some a =>
    have HV := Lib.hid hv
    clear hv
    go_enter Try.func44, Try.ntmps44
    go_wp2_with (with_reducible refine pause_append ?_)
    refine list_gen fun W1 hW1 => ?_
    have HO : Hid (ROwned tagK w.heap.size 73 W1 (.slice (some ⟨w.heap.size, 0, none⟩) 0 0) []) := by rw [hW1]; exact ROwned.lit _ _ _
    have HW : Hid (Below w.heap.size w W1) := by rw [hW1]; exact (Below.refl _ _).alloc (Nat.le_refl _) _
    clear hW1
    obtain ⟨cs, h1, h2⟩ := HV.out.below HW.out
    have h2' : Els tagK (fun k => w.heap.size ≤ k ∧ (Value.slice (some ⟨w.heap.size, 0, none⟩) 0 0).ownBlock ≠ some k) W1 cs ts := tagEls h2
    refine Pause.go (wpList_append_els (K := tagK) 33 73 _ 32 Try.underlying33 info_tag rfl w.heap.size _ _ _ ts rfl _ _ rfl rfl rfl HO.out cs F h1 h2' (by simp [maxLen]; omega) (by simp; omega) HW.out.size ?_)
    intro v' w' ho hg
    obtain ⟨a', n', rfl⟩ := ho.isSlice
    have HO' := Lib.hid ho.rows
    have HW' : Hid (Below w.heap.size w w') := HW.out.trans (hg.below HW.out.size (fun k e => (HO.out.lt k e).1))
    clear ho hg
    go_wp2_with fail
    go_ret
    exact ⟨_, rfl, HO'.out, HW'.out⟩

theorem results_cell1 {P : Program} {fn : Func} {p : Tmp} {ty : TypeId} (h : fn.results = #[.cell p ty]) (tmps : Array Value) (w : World) (g : Nat) (T : TypeId) (cs : Array Value) (d : TypeDesc)
    (hp : tmps.getD p undef = .pointer (some ⟨g, 0, none⟩)) (hg : Blk w g cs T)
    (hu : P.underlying ty = some d) (hd : (match d with | .struct _ | .array _ _ => true | _ => false) = true) (hi : (P.info? ty).map (·.size) = some cs.size) :
    (results fn tmps).run P w = .ok (.agg cs) w := by
  have hp' : tmps[p]?.getD undef = .pointer (some ⟨g, 0, none⟩) := by simpa using hp
  simp [results, h, hp', asAddr, run_loadVar_row w g T ty cs (0, 0) d hg hu hd hi]

theorem spanCells_one (s : Sp.T) {vt : Value} (h : vt.oneCell' = true) : ∀ u ∈ spanCells s vt, u.oneCell' = true := by
  intro u hu
  simp only [spanCells, List.mem_cons, List.not_mem_nil, or_false] at hu
  rcases hu with rfl | rfl | rfl | rfl | rfl | rfl | rfl | rfl | rfl | rfl | rfl <;> first | rfl | exact h

set_option maxRecDepth 100000 in
theorem copy_any (F : Nat → Prop) (s : Sp.T) (vt : Value) (w : World) (hv : Rw tagK F w vt s.tags) (hl : s.tags.length ≤ 1000000) :
    Calls Try.prog 35 #[.agg (spanCells s vt).toArray] w fun e w' => ∃ vt', e = .returned (.agg (spanCells s vt').toArray) ∧ Rw tagK (fun k => w.heap.size ≤ k) w' vt' s.tags ∧ Below w.heap.size w w' := by
  obtain ⟨a, c, rfl⟩ := hv.isSlice
  have HV := Lib.hid hv
  clear hv
  unfold spanCells
  go_enter Try.func35, Try.ntmps35
  go_wp2_with fail
  refine calls_gen fun W1 hW1 => ?_
  have HW1 : Hid (Below w.heap.size w W1) := by rw [hW1]; exact ((Below.refl _ _).alloc (Nat.le_refl _) _).alloc (by simp) _
  have HA1 : Hid (Blk W1 w.heap.size (spanCells s (.slice a s.tags.length c)).toArray 35) := by rw [hW1]; exact (Blk.at_new rfl rfl).alloc _
  have HB1 : Hid (∃ cs, Blk W1 (w.heap.size + 1) cs 35 ∧ cs.size = 11) := by rw [hW1]; exact ⟨_, Blk.at_new (by simp) rfl, rfl⟩
  clear hW1
  refine Calls.mono (clone_any F _ s.tags _ (HV.out.below HW1.out) hl) ?_
  rintro e w2 ⟨v2, rfl, hr, hb⟩
  obtain ⟨a2, c2, rfl⟩ := hr.isSlice
  have HR2 : Hid (Rw tagK (fun k => W1.heap.size ≤ k) w2 (.slice a2 s.tags.length c2) s.tags) := hr
  have HW2 : Hid (Below w.heap.size w w2) := HW1.out.trans (hb.mono HW1.out.size)
  have HA2 : Hid (Blk w2 w.heap.size (spanCells s (.slice a s.tags.length c)).toArray 35) := HA1.out.below hb HA1.out.lt
  have HB2 : Hid (∃ cs, Blk w2 (w.heap.size + 1) cs 35 ∧ cs.size = 11) := by obtain ⟨cs, h1, h2⟩ := HB1.out; exact ⟨cs, h1.below hb h1.lt, h2⟩
  have HS2 : Hid (w.heap.size + 1 < W1.heap.size) := by obtain ⟨cs, h1, _⟩ := HB1.out; exact h1.lt
  clear hr hb HW1 HA1 HB1
  have k10 : w2.cell? ⟨w.heap.size, 10, none⟩ = some (.slice a s.tags.length c) := HA2.out.cell rfl
  have f10 := HA2.out.free 10
  go_wp2_with (with_reducible refine pause_load ?_)
  refine list_gen fun W3 hW3 => ?_
  have HA3 : Hid (Blk W3 w.heap.size (spanCells s (.slice a2 s.tags.length c2)).toArray 35) := by rw [hW3]; exact HA2.out.set 10 _
  have HB3 : Hid (∃ cs, Blk W3 (w.heap.size + 1) cs 35 ∧ cs.size = 11) := by obtain ⟨cs, h1, h2⟩ := HB2.out; rw [hW3]; exact ⟨cs, h1.set_other _ _ (by simp), h2⟩
  have HW3 : Hid (Below w.heap.size w W3) := by rw [hW3]; exact HW2.out.setCell (by exact Nat.le_refl _) _
  have HR3 : Hid (Rw tagK (fun k => W1.heap.size ≤ k) W3 (.slice a2 s.tags.length c2) s.tags) := by
    rw [hW3]
    refine HR2.out.keep fun k hk hF => ?_
    have := HS2.out
    exact heap_setCell_other _ _ _ _ (by show k ≠ w.heap.size; omega)
  clear hW3 HA2 HB2 HW2 HR2 k10 f10
  obtain ⟨cs, hc1, hc2⟩ := HB3.out
  have HC3 := Lib.hid hc1
  clear hc1 HB3
  refine Pause.go (wpList_load_agg rfl 35 _ rfl ⟨w.heap.size, 0, none⟩ rfl (spanCells s (.slice a2 s.tags.length c2)) _ (fun j v hj => by rw [add_plain']; exact HA3.out.cell (by simpa using hj)) Try.underlying35 rfl (by kernel_rfl) ?_)
  go_wp2_with (with_reducible refine pause_store ?_)
  refine Pause.go (wpList_store_agg rfl _ _ _ rfl (w.heap.size + 1) 0 rfl _ rfl _ _ HC3.out (by kernel_rfl) (by rw [hc2]; exact Nat.le_refl _) (spanCells_one s rfl) ?_)
  rw [over_all cs _ (by rw [hc2]; rfl)]
  refine list_gen fun W4 hW4 => ?_
  have HC4 : Hid (Blk W4 (w.heap.size + 1) (spanCells s (.slice a2 s.tags.length c2)).toArray 35) := by rw [hW4]; exact HC3.out.row _
  have HR4 : Hid (Rw tagK (fun k => w.heap.size ≤ k) W4 (.slice a2 s.tags.length c2) s.tags) := by
    rw [hW4]
    refine (HR3.out.keep fun k hk hF => ?_).mono fun k _ hF => ?_
    · have := HS2.out
      exact setRow_other W3 (w.heap.size + 1) k _ (by omega)
    · have := HS2.out; omega
  have HW4 : Hid (Below w.heap.size w W4) := by rw [hW4]; exact below_setRow HW3.out (Nat.le_succ _) _
  clear hW4
  go_wp2_with fail
  refine bodyPost_ret (results_cell1 (p := 2) rfl _ _ (w.heap.size + 1) 35 (spanCells s (.slice a2 s.tags.length c2)).toArray _ rfl HC4.out Try.underlying35 rfl (by kernel_rfl)) rfl ?_
  exact ⟨_, rfl, HR4.out, HW4.out⟩
end Go.Proofs.Ytiofhmlmimbngaa
