/- Chapter 17's document: Compare tells what the plain order tells. -/
import Derived.Test.YtiofhmlmimbngaaCmpW
import Derived.Deep.RegionHeld3
namespace Go.Proofs.Ytiofhmlmimbngaa
open Go.RowKit

def intCells (l : List Int) : Array Value := (l.map fun x => Value.int .i64 x).toArray
theorem intCells_get {l : List Int} {j : Nat} (h : j < l.length) : (intCells l)[j]? = some (.int .i64 l[j]) := by
  simp [intCells, h]

/-- The cells of two spans, in blocks z and z + 1. -/
def CS (z : Nat) (s t : Sp.T) (va vb : Value) (w' : World) : Prop :=
  (w'.cell? ⟨z, 0, none⟩ = some (.int .u64 s.hi) ∧ w'.cell? ⟨z, 1, none⟩ = some (.int .u64 s.lo) ∧ w'.cell? ⟨z, 2, none⟩ = some (.int .u64 s.id) ∧ w'.cell? ⟨z, 3, none⟩ = some (.int .u64 s.parent) ∧ w'.cell? ⟨z, 4, none⟩ = some (.string s.service) ∧ w'.cell? ⟨z, 5, none⟩ = some (.string s.name) ∧
      w'.cell? ⟨z, 6, none⟩ = some (.int .i64 s.kind) ∧ w'.cell? ⟨z, 7, none⟩ = some (.int .i64 s.start) ∧ w'.cell? ⟨z, 8, none⟩ = some (.int .i64 s.length) ∧ w'.cell? ⟨z, 9, none⟩ = some (.bool s.fails) ∧ w'.cell? ⟨z, 10, none⟩ = some va) ∧
      (w'.cell? ⟨z + 1, 0, none⟩ = some (.int .u64 t.hi) ∧ w'.cell? ⟨z + 1, 1, none⟩ = some (.int .u64 t.lo) ∧ w'.cell? ⟨z + 1, 2, none⟩ = some (.int .u64 t.id) ∧ w'.cell? ⟨z + 1, 3, none⟩ = some (.int .u64 t.parent) ∧ w'.cell? ⟨z + 1, 4, none⟩ = some (.string t.service) ∧ w'.cell? ⟨z + 1, 5, none⟩ = some (.string t.name) ∧
      w'.cell? ⟨z + 1, 6, none⟩ = some (.int .i64 t.kind) ∧ w'.cell? ⟨z + 1, 7, none⟩ = some (.int .i64 t.start) ∧ w'.cell? ⟨z + 1, 8, none⟩ = some (.int .i64 t.length) ∧ w'.cell? ⟨z + 1, 9, none⟩ = some (.bool t.fails) ∧ w'.cell? ⟨z + 1, 10, none⟩ = some vb)

theorem CS.alloc {z : Nat} {s t : Sp.T} {va vb : Value} {w' : World} (h : CS z s t va vb w') (hz : z + 1 < w'.heap.size) (o : Obj) : CS z s t va vb (w'.alloc o) := by
  have hb : Below w'.heap.size w' (w'.alloc o) := (Below.refl _ _).alloc (Nat.le_refl _) _
  have e1 : ∀ i, (w'.alloc o).cell? ⟨z, i, none⟩ = w'.cell? ⟨z, i, none⟩ := fun i => World.cell?_of_block (hb.block z (by omega))
  have e2 : ∀ i, (w'.alloc o).cell? ⟨z + 1, i, none⟩ = w'.cell? ⟨z + 1, i, none⟩ := fun i => World.cell?_of_block (hb.block (z + 1) hz)
  unfold CS at *
  simp only [e1, e2]
  exact h

set_option maxRecDepth 100000 in
set_option maxHeartbeats 4000000 in
theorem compare_any (F G : Nat → Prop) (s t : Sp.T) (vs vt : Value) (w : World) (hs : Rw tagK F w vs s.tags) (ht : Rw tagK G w vt t.tags) :
    Calls Try.prog 37 #[.agg (spanCells s vs).toArray, .agg (spanCells t vt).toArray] w fun e w' => e = .returned (.int .i64 (Sp.cmp s t)) ∧ Below w.heap.size w w' := by
  obtain ⟨aa, ca, rfl⟩ := hs.isSlice
  obtain ⟨ab, cb, rfl⟩ := ht.isSlice
  have HS := Lib.hid hs
  have HT := Lib.hid ht
  clear hs ht
  unfold spanCells
  go_enter Try.func37, Try.ntmps37
  go_upto_region 1 with fail
  refine wp_gen fun w1 hw1 => ?_
  have HW1 : Hid (Below w.heap.size w w1) := by rw [hw1]; exact ((Below.refl _ _).alloc (Nat.le_refl _) _).alloc (by simp) _
  have HA1 : Hid (Blk w1 w.heap.size (spanCells s (.slice aa s.tags.length ca)).toArray 35) := by rw [hw1]; exact (Blk.at_new rfl rfl).alloc _
  have HB1 : Hid (Blk w1 (w.heap.size + 1) (spanCells t (.slice ab t.tags.length cb)).toArray 35) := by rw [hw1]; exact Blk.at_new (by simp) rfl
  clear hw1
  have a0 : w1.cell? ⟨w.heap.size, 0, none⟩ = some (.int .u64 s.hi) := HA1.out.cell rfl
  have a1 : w1.cell? ⟨w.heap.size, 1, none⟩ = some (.int .u64 s.lo) := HA1.out.cell rfl
  have a2 : w1.cell? ⟨w.heap.size, 2, none⟩ = some (.int .u64 s.id) := HA1.out.cell rfl
  have a3 : w1.cell? ⟨w.heap.size, 3, none⟩ = some (.int .u64 s.parent) := HA1.out.cell rfl
  have a4 : w1.cell? ⟨w.heap.size, 4, none⟩ = some (.string s.service) := HA1.out.cell rfl
  have a5 : w1.cell? ⟨w.heap.size, 5, none⟩ = some (.string s.name) := HA1.out.cell rfl
  have a6 : w1.cell? ⟨w.heap.size, 6, none⟩ = some (.int .i64 s.kind) := HA1.out.cell rfl
  have a7 : w1.cell? ⟨w.heap.size, 7, none⟩ = some (.int .i64 s.start) := HA1.out.cell rfl
  have a8 : w1.cell? ⟨w.heap.size, 8, none⟩ = some (.int .i64 s.length) := HA1.out.cell rfl
  have a9 : w1.cell? ⟨w.heap.size, 9, none⟩ = some (.bool s.fails) := HA1.out.cell rfl
  have a10 : w1.cell? ⟨w.heap.size, 10, none⟩ = some (.slice aa s.tags.length ca) := HA1.out.cell rfl
  have b0 : w1.cell? ⟨w.heap.size + 1, 0, none⟩ = some (.int .u64 t.hi) := HB1.out.cell rfl
  have b1 : w1.cell? ⟨w.heap.size + 1, 1, none⟩ = some (.int .u64 t.lo) := HB1.out.cell rfl
  have b2 : w1.cell? ⟨w.heap.size + 1, 2, none⟩ = some (.int .u64 t.id) := HB1.out.cell rfl
  have b3 : w1.cell? ⟨w.heap.size + 1, 3, none⟩ = some (.int .u64 t.parent) := HB1.out.cell rfl
  have b4 : w1.cell? ⟨w.heap.size + 1, 4, none⟩ = some (.string t.service) := HB1.out.cell rfl
  have b5 : w1.cell? ⟨w.heap.size + 1, 5, none⟩ = some (.string t.name) := HB1.out.cell rfl
  have b6 : w1.cell? ⟨w.heap.size + 1, 6, none⟩ = some (.int .i64 t.kind) := HB1.out.cell rfl
  have b7 : w1.cell? ⟨w.heap.size + 1, 7, none⟩ = some (.int .i64 t.start) := HB1.out.cell rfl
  have b8 : w1.cell? ⟨w.heap.size + 1, 8, none⟩ = some (.int .i64 t.length) := HB1.out.cell rfl
  have b9 : w1.cell? ⟨w.heap.size + 1, 9, none⟩ = some (.bool t.fails) := HB1.out.cell rfl
  have b10 : w1.cell? ⟨w.heap.size + 1, 10, none⟩ = some (.slice ab t.tags.length cb) := HB1.out.cell rfl
  have HF : Hid ((w1.cell? ⟨w.heap.size, 0, none⟩ = some (.int .u64 s.hi) ∧ w1.cell? ⟨w.heap.size, 1, none⟩ = some (.int .u64 s.lo) ∧ w1.cell? ⟨w.heap.size, 2, none⟩ = some (.int .u64 s.id) ∧ w1.cell? ⟨w.heap.size, 3, none⟩ = some (.int .u64 s.parent) ∧ w1.cell? ⟨w.heap.size, 4, none⟩ = some (.string s.service) ∧ w1.cell? ⟨w.heap.size, 5, none⟩ = some (.string s.name) ∧
      w1.cell? ⟨w.heap.size, 6, none⟩ = some (.int .i64 s.kind) ∧ w1.cell? ⟨w.heap.size, 7, none⟩ = some (.int .i64 s.start) ∧ w1.cell? ⟨w.heap.size, 8, none⟩ = some (.int .i64 s.length) ∧ w1.cell? ⟨w.heap.size, 9, none⟩ = some (.bool s.fails) ∧ w1.cell? ⟨w.heap.size, 10, none⟩ = some (.slice aa s.tags.length ca)) ∧
      (w1.cell? ⟨w.heap.size + 1, 0, none⟩ = some (.int .u64 t.hi) ∧ w1.cell? ⟨w.heap.size + 1, 1, none⟩ = some (.int .u64 t.lo) ∧ w1.cell? ⟨w.heap.size + 1, 2, none⟩ = some (.int .u64 t.id) ∧ w1.cell? ⟨w.heap.size + 1, 3, none⟩ = some (.int .u64 t.parent) ∧ w1.cell? ⟨w.heap.size + 1, 4, none⟩ = some (.string t.service) ∧ w1.cell? ⟨w.heap.size + 1, 5, none⟩ = some (.string t.name) ∧
      w1.cell? ⟨w.heap.size + 1, 6, none⟩ = some (.int .i64 t.kind) ∧ w1.cell? ⟨w.heap.size + 1, 7, none⟩ = some (.int .i64 t.start) ∧ w1.cell? ⟨w.heap.size + 1, 8, none⟩ = some (.int .i64 t.length) ∧ w1.cell? ⟨w.heap.size + 1, 9, none⟩ = some (.bool t.fails) ∧ w1.cell? ⟨w.heap.size + 1, 10, none⟩ = some (.slice ab t.tags.length cb))) :=
    ⟨⟨a0, a1, a2, a3, a4, a5, a6, a7, a8, a9, a10⟩, b0, b1, b2, b3, b4, b5, b6, b7, b8, b9, b10⟩
  have HS1 := Lib.hid (HS.out.below HW1.out)
  have HT1 := Lib.hid (HT.out.below HW1.out)
  have HZ1 : Hid (w.heap.size + 1 < w1.heap.size) := HB1.out.lt
  clear a0 a1 a2 a3 a4 a5 a6 a7 a8 a9 a10 b0 b1 b2 b3 b4 b5 b6 b7 b8 b9 b10 HA1 HB1 HS HT
  generalize hz : w.heap.size = z at *
  have HZQ := Lib.hid hz
  clear hz
  go_region_held3 (fun w' => (w'.cell? ⟨z, 0, none⟩ = some (.int .u64 s.hi) ∧ w'.cell? ⟨z, 1, none⟩ = some (.int .u64 s.lo) ∧ w'.cell? ⟨z, 2, none⟩ = some (.int .u64 s.id) ∧ w'.cell? ⟨z, 3, none⟩ = some (.int .u64 s.parent) ∧ w'.cell? ⟨z, 4, none⟩ = some (.string s.service) ∧ w'.cell? ⟨z, 5, none⟩ = some (.string s.name) ∧
      w'.cell? ⟨z, 6, none⟩ = some (.int .i64 s.kind) ∧ w'.cell? ⟨z, 7, none⟩ = some (.int .i64 s.start) ∧ w'.cell? ⟨z, 8, none⟩ = some (.int .i64 s.length) ∧ w'.cell? ⟨z, 9, none⟩ = some (.bool s.fails) ∧ w'.cell? ⟨z, 10, none⟩ = some (.slice aa s.tags.length ca)) ∧
      (w'.cell? ⟨z + 1, 0, none⟩ = some (.int .u64 t.hi) ∧ w'.cell? ⟨z + 1, 1, none⟩ = some (.int .u64 t.lo) ∧ w'.cell? ⟨z + 1, 2, none⟩ = some (.int .u64 t.id) ∧ w'.cell? ⟨z + 1, 3, none⟩ = some (.int .u64 t.parent) ∧ w'.cell? ⟨z + 1, 4, none⟩ = some (.string t.service) ∧ w'.cell? ⟨z + 1, 5, none⟩ = some (.string t.name) ∧
      w'.cell? ⟨z + 1, 6, none⟩ = some (.int .i64 t.kind) ∧ w'.cell? ⟨z + 1, 7, none⟩ = some (.int .i64 t.start) ∧ w'.cell? ⟨z + 1, 8, none⟩ = some (.int .i64 t.length) ∧ w'.cell? ⟨z + 1, 9, none⟩ = some (.bool t.fails) ∧ w'.cell? ⟨z + 1, 10, none⟩ = some (.slice ab t.tags.length cb)))
    (first | exact HF.out | exact CS.alloc (w' := w1.drewN _) (va := .slice aa s.tags.length ca) (vb := .slice ab t.tags.length cb) HF.out HZ1.out _)
    (first
      | (go_at_call 46; (with_reducible refine Calls.mono (number_any _ _ _) ?_); rintro e x ⟨rfl, rfl⟩; skip)
      | (go_at_call 47; (with_reducible refine Calls.mono (signed_any _ _ _) ?_); rintro e x ⟨rfl, rfl⟩; skip)
      | (go_at_call 48; (with_reducible refine Calls.mono (text17_any _ _ _) ?_); rintro e x ⟨rfl, rfl⟩; skip)
      | (go_at_call 49; (with_reducible refine Calls.mono (truth_any _ _) ?_); rintro e x ⟨rfl, rfl⟩; skip)
      | (go_at_call 50; (with_reducible refine Calls.mono (tags_any _ _ _ _ s.tags t.tags _ (HS1.out.below (below_dn (Below.refl _ _) 1)) (HT1.out.below (below_dn (Below.refl _ _) 1))) ?_); rintro e x ⟨rfl, n, hx⟩; subst hx; skip))
  go_upto_region 2 with fail
  refine wp_gen fun w5 hw5 => ?_
  have HL5 : Hid (Blk w5 w1.heap.size (intCells (Sp.cells s t)) 3) := by rw [hw5]; exact Blk.at_new rfl rfl
  have HW5 : Hid (Below z w w5) := by rw [hw5]; exact (below_dn HW1.out _).alloc (by have := HZ1.out; show z ≤ w1.heap.size; omega) _
  clear hw5 HF HS1 HT1 HW1
  have HE0 : Hid (Sp.cmp s t = Sp.firstNz (Sp.cells s t)) := rfl
  have hlen : (Sp.cells s t).length = 11 := rfl
  generalize Sp.cells s t = l at *
  generalize w1.heap.size = g at *
  clear HZ1
  go_wp2_with fail
  go_loop [6] (fun i => ∃ j : Nat, i = .int .i64 (j : Int) ∧ j ≤ 11 ∧ Hid (Sp.cmp s t = Sp.firstNz (l.drop j))) (fun i => 11 - (intOf i).toNat)
  case atStart => exact ⟨0, rfl, by omega, HE0⟩
  case round =>
    obtain ⟨j, rfl, hj, HE⟩ := hrel
    by_cases hlt : j < 11
    · have hlt' : (j : Int) < 11 := by omega
      have hjl : j < l.length := by omega
      have kj : w5.cell? ⟨g, j, none⟩ = some (.int .i64 l[j]) := HL5.out.cell (intCells_get hjl)
      have HN : Hid (Sp.cmp s t = Sp.lex l[j] (Sp.firstNz (l.drop (j + 1)))) := by
        have := HE.out
        rw [List.drop_eq_getElem_cons hjl] at this
        exact this
      clear HE
      generalize l[j] = x at *
      by_cases hx : x = 0
      · subst hx
        go_wp2_with fail
        go_round
        case rel => exact ⟨j + 1, by go_num, by omega, HN.out⟩
        case measure => simp only [intOf]; omega
      · have HR : Hid (Sp.cmp s t = x) := by
          refine HN.out.trans ?_
          unfold Sp.lex
          simp [hx]
        go_wp2_with fail
        go_ret
        exact ⟨ret_int HR.out.symm, by rw [HZQ.out]; exact HW5.out⟩
    · obtain rfl : j = 11 := by omega
      have HR : Hid (Sp.cmp s t = 0) := by
        refine HE.out.trans ?_
        rw [List.drop_of_length_le (by omega)]
        rfl
      go_wp2_with fail
      go_ret
      exact ⟨ret_int HR.out.symm, by rw [HZQ.out]; exact HW5.out⟩

theorem compare_at (F G : Nat → Prop) (s t : Sp.T) (r : Int) (hr : Sp.cmp s t = r) (vs vt : Value) (w : World) (hs : Rw tagK F w vs s.tags) (ht : Rw tagK G w vt t.tags) :
    Calls Try.prog 37 #[.agg (spanCells s vs).toArray, .agg (spanCells t vt).toArray] w fun e w' => e = .returned (.int .i64 r) ∧ Below w.heap.size w w' := by
  subst hr; exact compare_any F G s t vs vt w hs ht
end Go.Proofs.Ytiofhmlmimbngaa
