/- The intake: nobody's. -/
import Derived.Test.YtiofhmlmimbngaaSpanC
import Derived.Deep.RegionWith
namespace Go.Proofs.Ytiofhmlmimbngaa
open Go.RowKit

/-- No intake: nil, or one that nobody made. -/
def NoIntake (w : World) (p : Value) : Prop := p = .pointer none ∨ ∃ b, p = .pointer (some ⟨b, 0, none⟩) ∧ b < w.heap.size ∧ w.cell? ⟨b, 0, none⟩ = some (.slice none 0 0)

theorem NoIntake.below {w w' : World} {p : Value} (h : NoIntake w p) (hb : Below w.heap.size w w') : NoIntake w' p := by
  rcases h with h | ⟨b, h1, h2, h3⟩
  · exact .inl h
  · exact .inr ⟨b, h1, Nat.lt_of_lt_of_le h2 hb.size, (World.cell?_of_block (hb.block b h2)).trans h3⟩

theorem nil_spans (w : World) (a : Option Addr) (n c : Nat) : (binOp .eql 60 (.slice a n c) (.slice none 0 0)).run Try.prog w = .ok (.bool a.isNone) w :=
  Lib.run_eql_slice_nil (P := Try.prog) w 60 37 a n c 0 0 Try.underlying60

theorem none_true (w : World) (p : Value) (h : NoIntake w p) :
    Calls Try.prog 33 #[p] w fun e w' => e = .returned (.bool true) ∧ w' = w := by
  have hnil := nil_spans
  rcases h with rfl | ⟨b, rfl, h2, h3⟩
  · go_enter Try.func33, Try.ntmps33
    go_wp2_with fail
    go_ret
    exact ⟨rfl, rfl⟩
  · go_enter Try.func33, Try.ntmps33
    go_wp2_with fail
    go_ret
    exact ⟨rfl, rfl⟩

theorem NoIntake.ptr {w : World} {p : Value} (h : NoIntake w p) : ∃ a, p = .pointer a := by
  rcases h with rfl | ⟨b, rfl, _⟩ <;> exact ⟨_, rfl⟩

theorem below_drew {B : Nat} {w w' : World} (h : Below B w w') : Below B w w'.drew := ⟨h.os, h.tape, h.output, h.size, h.block⟩
def zeroSpan : Array Value := #[.int .u64 0, .int .u64 0, .int .u64 0, .int .u64 0, emptyStr, emptyStr, .int .i64 0, .int .i64 0, .int .i64 0, .bool false, .slice none 0 0]

theorem offer_none (w : World) (p : Value) (h : NoIntake w p) (a : Option Addr) (n c : Nat) :
    Calls Try.prog 9 #[p, .slice a n c] w fun e w' => e = .returned (.int .i64 1) ∧ w' = w := by
  obtain ⟨ad, rfl⟩ := h.ptr
  go_enter Try.func9, Try.ntmps9
  go_wp2_with fail
  refine Calls.mono (none_true w _ h) ?_
  rintro e w1 ⟨rfl, rfl⟩
  go_wp2_with fail
  go_ret
  exact ⟨rfl, rfl⟩

theorem runnable_none (w : World) (p : Value) (h : NoIntake w p) :
    Calls Try.prog 11 #[p] w fun e w' => e = .returned (.slice none 0 0) ∧ w' = w := by
  obtain ⟨ad, rfl⟩ := h.ptr
  go_enter Try.func11, Try.ntmps11
  go_wp2_with fail
  refine Calls.mono (none_true w _ h) ?_
  rintro e w1 ⟨rfl, rfl⟩
  go_wp2_with fail
  go_ret
  exact ⟨rfl, rfl⟩

theorem waiting_none (w : World) (p : Value) (h : NoIntake w p) :
    Calls Try.prog 18 #[p] w fun e w' => e = .returned (.int .i64 0) ∧ w' = w := by
  obtain ⟨ad, rfl⟩ := h.ptr
  go_enter Try.func18, Try.ntmps18
  go_wp2_with fail
  refine Calls.mono (none_true w _ h) ?_
  rintro e w1 ⟨rfl, rfl⟩
  go_wp2_with fail
  go_ret
  exact ⟨rfl, rfl⟩

theorem left_none (w : World) (p : Value) (h : NoIntake w p) :
    Calls Try.prog 14 #[p] w fun e w' => e = .returned (.int .i64 0) ∧ w' = w := by
  obtain ⟨ad, rfl⟩ := h.ptr
  go_enter Try.func14, Try.ntmps14
  go_wp2_with fail
  refine Calls.mono (none_true w _ h) ?_
  rintro e w1 ⟨rfl, rfl⟩
  go_wp2_with fail
  go_ret
  exact ⟨rfl, rfl⟩

theorem idle_none (w : World) (p : Value) (h : NoIntake w p) :
    Calls Try.prog 15 #[p] w fun e w' => e = .returned (.bool true) ∧ w' = w := by
  obtain ⟨ad, rfl⟩ := h.ptr
  go_enter Try.func15, Try.ntmps15
  go_wp2_with fail
  refine Calls.mono (left_none w _ h) ?_
  rintro e w1 ⟨rfl, rfl⟩
  go_wp2_with fail
  go_ret
  exact ⟨rfl, rfl⟩

theorem held_none (w : World) (p : Value) (h : NoIntake w p) (x : Int) :
    Calls Try.prog 29 #[p, .int .i64 x] w fun e w' => e = .returned (.int .i64 0) ∧ w' = w := by
  obtain ⟨ad, rfl⟩ := h.ptr
  go_enter Try.func29, Try.ntmps29
  go_wp2_with fail
  refine Calls.mono (none_true w _ h) ?_
  rintro e w1 ⟨rfl, rfl⟩
  go_wp2_with fail
  go_ret
  exact ⟨rfl, rfl⟩

theorem results_tmp_cell_tmp {P : Program} {fn : Func} {p t u : Tmp} {ty : TypeId} (h : fn.results = #[.tmp t, .cell p ty, .tmp u]) (tmps : Array Value) (w : World) (g : Nat) (T : TypeId) (cs : Array Value) (d : TypeDesc)
    (hp : tmps.getD p undef = .pointer (some ⟨g, 0, none⟩)) (hg : Blk w g cs T)
    (hu : P.underlying ty = some d) (hd : (match d with | .struct _ | .array _ _ => true | _ => false) = true) (hi : (P.info? ty).map (·.size) = some cs.size) :
    (results fn tmps).run P w = .ok (.tuple #[tmps.getD t undef, .agg cs, tmps.getD u undef]) w := by
  have hp' : tmps[p]?.getD undef = .pointer (some ⟨g, 0, none⟩) := by simpa using hp
  simp [results, h, hp', asAddr, run_loadVar_row w g T ty cs (0, 0) d hg hu hd hi]

/-- A block's own cells, written over it one by one. -/
def putAll (w : World) (b : Nat) : List Value → Nat → World
  | [], _ => w
  | v :: vs, i => putAll (w.setCell ⟨b, i, none⟩ v) b vs (i + 1)

theorem Blk.putAll {b : Nat} {T : TypeId} : ∀ (vs : List Value) (i : Nat) (w : World) (c c' : Array Value), Blk w b c T → c.toList.take i ++ vs ++ c.toList.drop (i + vs.length) = c'.toList → i + vs.length ≤ c.size → Blk (Go.Proofs.Ytiofhmlmimbngaa.putAll w b vs i) b c' T
  | [], i, w, c, c', h, e, _ => by
    have : c = c' := Array.ext' (by simpa using e)
    subst this; exact h
  | v :: vs, i, w, c, c', h, e, hl => by
    simp only [List.length_cons] at hl
    refine Blk.putAll vs (i + 1) _ _ c' (h.set i v) ?_ (by simp; omega)
    rw [← e]
    have hi : i < c.toList.length := by simp; omega
    rw [Array.setIfInBounds_def, dif_pos (by omega)]
    simp only [Array.toList_set, List.length_cons]
    rw [List.take_succ_eq_append_getElem (by simp; omega), List.take_set_of_le (Nat.le_refl _), List.getElem_set_self, List.drop_set_of_lt (by omega)]
    have : i + 1 + vs.length = i + (vs.length + 1) := by omega
    rw [this]; simp

theorem below_putAll {B b : Nat} {w : World} (hb : B ≤ b) : ∀ (vs : List Value) (i : Nat) (w' : World), Below B w w' → Below B w (putAll w' b vs i)
  | [], _, _, h => h
  | v :: vs, i, _, h => below_putAll hb vs (i + 1) _ (h.setCell hb v)

set_option maxRecDepth 100000 in
theorem step_none (w : World) (p : Value) (h : NoIntake w p) (x : Int) :
    Calls Try.prog 12 #[p, .int .i64 x] w fun e w' => e = .returned (.tuple #[.int .i64 0, .agg zeroSpan, .int .i64 1]) ∧ Below w.heap.size w w' := by
  obtain ⟨ad, rfl⟩ := h.ptr
  have HN := Lib.hid h
  clear h
  go_enter Try.func12, Try.ntmps12
  go_wp2_with fail
  refine calls_gen fun W1 hW1 => ?_
  have HW1 : Hid (Below w.heap.size w W1) := by rw [hW1]; exact (Below.refl _ _).alloc (Nat.le_refl _) _
  have HZ1 : Hid (Blk W1 w.heap.size zeroSpan 35) := by rw [hW1]; exact Blk.at_new rfl rfl
  clear hW1
  refine Calls.mono (none_true W1 _ (HN.out.below HW1.out)) ?_
  rintro e w1 ⟨rfl, rfl⟩
  go_wp2_with fail
  have k0 : w1.cell? ⟨w.heap.size, 0, none⟩ = some (.int .u64 0) := HZ1.out.cell rfl
  have f0 := HZ1.out.free 0
  have k1 : w1.cell? ⟨w.heap.size, 1, none⟩ = some (.int .u64 0) := HZ1.out.cell rfl
  have f1 := HZ1.out.free 1
  have k2 : w1.cell? ⟨w.heap.size, 2, none⟩ = some (.int .u64 0) := HZ1.out.cell rfl
  have f2 := HZ1.out.free 2
  have k3 : w1.cell? ⟨w.heap.size, 3, none⟩ = some (.int .u64 0) := HZ1.out.cell rfl
  have f3 := HZ1.out.free 3
  have k4 : w1.cell? ⟨w.heap.size, 4, none⟩ = some emptyStr := HZ1.out.cell rfl
  have f4 := HZ1.out.free 4
  have k5 : w1.cell? ⟨w.heap.size, 5, none⟩ = some emptyStr := HZ1.out.cell rfl
  have f5 := HZ1.out.free 5
  have k6 : w1.cell? ⟨w.heap.size, 6, none⟩ = some (.int .i64 0) := HZ1.out.cell rfl
  have f6 := HZ1.out.free 6
  have k7 : w1.cell? ⟨w.heap.size, 7, none⟩ = some (.int .i64 0) := HZ1.out.cell rfl
  have f7 := HZ1.out.free 7
  have k8 : w1.cell? ⟨w.heap.size, 8, none⟩ = some (.int .i64 0) := HZ1.out.cell rfl
  have f8 := HZ1.out.free 8
  have k9 : w1.cell? ⟨w.heap.size, 9, none⟩ = some (.bool false) := HZ1.out.cell rfl
  have f9 := HZ1.out.free 9
  have k10 : w1.cell? ⟨w.heap.size, 10, none⟩ = some (.slice none 0 0) := HZ1.out.cell rfl
  have f10 := HZ1.out.free 10
  unfold emptyStr at k4 k5
  go_region_with (fail)
  all_goals
    go_wp2_with fail
    refine bodyPost_ret (results_tmp_cell_tmp (p := 5) (t := 4) (u := 6) rfl _ _ w.heap.size 35 zeroSpan _ rfl ?_ Try.underlying35 rfl (by kernel_rfl)) rfl ?_
    · exact Blk.drew (Blk.putAll zeroSpan.toList 0 _ _ _ HZ1.out rfl (by decide))
    · exact ⟨rfl, below_drew (below_putAll (Nat.le_refl _) zeroSpan.toList 0 _ HW1.out)⟩
end Go.Proofs.Ytiofhmlmimbngaa
