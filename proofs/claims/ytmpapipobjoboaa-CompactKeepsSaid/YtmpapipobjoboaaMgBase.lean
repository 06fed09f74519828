/- Merge: what its texts share: comparing, writing, cells. -/
import Derived.Test.YtmpapipobjoboaaOrdW
import Derived.Test.YtmpapipobjoboaaAppN
import Derived.Deep.CutBlock
import Derived.Deep.CutRange
import Derived.Deep.DeepCutAuto
namespace Go.Proofs.Ytmpapipobjoboaa
open Go.RowKit

/-- The cells of two entries' keys and numbers. -/
def CE (z : Nat) (a b : Ent) (va vb : Value) (w' : World) : Prop :=
  w'.cell? ⟨z, 0, none⟩ = some va ∧ w'.cell? ⟨z, 1, none⟩ = some (.int .u64 a.seq) ∧ w'.cell? ⟨z + 1, 0, none⟩ = some vb ∧ w'.cell? ⟨z + 1, 1, none⟩ = some (.int .u64 b.seq)
theorem CE.keep {B z : Nat} {a b : Ent} {va vb : Value} {w w' : World} (h : CE z a b va vb w) (hb : Below B w w') (hz : z + 1 < B) : CE z a b va vb w' := by
  have e1 : ∀ i, w'.cell? ⟨z, i, none⟩ = w.cell? ⟨z, i, none⟩ := fun i => World.cell?_of_block (hb.block z (by omega))
  have e2 : ∀ i, w'.cell? ⟨z + 1, i, none⟩ = w.cell? ⟨z + 1, i, none⟩ := fun i => World.cell?_of_block (hb.block (z + 1) hz)
  unfold CE at *
  simp only [e1, e2]
  exact h

theorem below_drew {B : Nat} {w w' : World} (h : Below B w w') : Below B w w'.drew := ⟨h.os, h.tape, h.output, h.size, h.block⟩
theorem below_dn {B : Nat} {w w' : World} (h : Below B w w') (n : Nat) : Below B w (w'.drewN n) := ⟨h.os, h.tape, h.output, h.size, h.block⟩

set_option maxRecDepth 100000 in
theorem ecompare_any (F G : Nat → Prop) (a b : Ent) (ka va kb vb : Value) (w : World) (ha : Bytes F w ka a.key) (hb : Bytes G w kb b.key) :
    Calls Try.prog 59 #[.agg (entCells a ka va).toArray, .agg (entCells b kb vb).toArray] w fun e w' => e = .returned (.int .i64 (Ent.cmp a b)) ∧ Below w.heap.size w w' := by
  obtain ⟨aa, ca, rfl⟩ := ha.isSlice
  obtain ⟨ab, cb, rfl⟩ := hb.isSlice
  have HS := Lib.hid ha
  have HT := Lib.hid hb
  clear ha hb
  unfold entCells
  go_enter Try.func59, Try.ntmps59
  go_upto_region 1 with fail
  refine wp_gen fun w1 hw1 => ?_
  have HW1 : Hid (Below w.heap.size w w1) := by rw [hw1]; exact ((Below.refl _ _).alloc (Nat.le_refl _) _).alloc (by simp) _
  have HA1 : Hid (Blk w1 w.heap.size (entCells a (.slice aa a.key.length ca) va).toArray 29) := by rw [hw1]; exact (Blk.at_new rfl rfl).alloc _
  have HB1 : Hid (Blk w1 (w.heap.size + 1) (entCells b (.slice ab b.key.length cb) vb).toArray 29) := by rw [hw1]; exact Blk.at_new (by simp) rfl
  clear hw1
  have HC1 : Hid (CE w.heap.size a b (.slice aa a.key.length ca) (.slice ab b.key.length cb) w1.drew) := ⟨HA1.out.cell rfl, HA1.out.cell rfl, HB1.out.cell rfl, HB1.out.cell rfl⟩
  have HZ1 : Hid (w.heap.size + 1 < w1.drew.heap.size) := HB1.out.lt
  have HS1 : Hid (Bytes F w1.drew (.slice aa a.key.length ca) a.key) := (HS.out.below HW1.out).below (below_drew (Below.refl _ _))
  have HT1 : Hid (Bytes G w1.drew (.slice ab b.key.length cb) b.key) := (HT.out.below HW1.out).below (below_drew (Below.refl _ _))
  obtain ⟨x, hx⟩ : ∃ x, Ent.bcmp a.key b.key = x := ⟨_, rfl⟩
  obtain ⟨y, hy⟩ : ∃ y, Ent.sgn b.seq a.seq = y := ⟨_, rfl⟩
  have HR : Hid (Ent.cmp a b = Ent.lex x y) := by show _ = _; rw [← hx, ← hy]; rfl
  have HX := Lib.hid hx
  have HY := Lib.hid hy
  have HW0 : Hid (Below w.heap.size w w1.drew) := below_drew HW1.out
  clear hx hy HA1 HB1 HS HT
  go_region_held3 (fun w' => w'.cell? ⟨w.heap.size, 0, none⟩ = some (.slice aa a.key.length ca) ∧ w'.cell? ⟨w.heap.size, 1, none⟩ = some (.int .u64 a.seq) ∧ w'.cell? ⟨w.heap.size + 1, 0, none⟩ = some (.slice ab b.key.length cb) ∧ w'.cell? ⟨w.heap.size + 1, 1, none⟩ = some (.int .u64 b.seq))
    (first | exact HC1.out | exact HC1.out.keep ((Below.refl _ _).alloc (Nat.le_refl _) _) HZ1.out | exact HC1.out.keep (((Below.refl _ _).alloc (Nat.le_refl _) _).trans (hbx.mono (Nat.le_of_lt (by simp)))) HZ1.out)
    (first
      | (go_at_call 63; (with_reducible refine Calls.mono (bytesCompare_any _ _ _ _ a.key b.key _ HS1.out HT1.out) ?_); rintro e x1 ⟨rfl, rfl⟩; rw [HX.out])
      | (go_at_call 77; (with_reducible refine Calls.mono (cmpU64_any _ _ _) ?_); rintro e x2 ⟨rfl, rfl⟩; rw [HY.out])
      | (go_at_call 76; refine Calls.mono (or2_any x y _ _ (Blk.at_new rfl rfl)) ?_; rintro e x3 ⟨rfl, hbx⟩; skip))
  have HW3 : Hid (Below w.heap.size w x3) := HW0.out.trans ((((Below.refl _ _).alloc (Nat.le_refl _) _).trans (hbx.mono (Nat.le_of_lt (by simp)))).mono HW0.out.size)
  clear hbx
  go_wp2_with fail
  go_ret
  exact ⟨ret_int HR.out.symm, HW3.out⟩

theorem below_two (w : World) (o1 o2 : Obj) : Below w.heap.size w ((w.alloc o1).alloc o2) := ((Below.refl w.heap.size w).alloc (Nat.le_refl _) o1).alloc (by simp) o2

theorem blk_two (w : World) (o : Obj) (c : Array Value) (T : TypeId) : Blk ((w.alloc o).alloc (.cells c T)) (w.heap.size + 1) c T := Blk.at_new (by simp) rfl

theorem Blk.drewN_ {w : World} {b : Nat} {c : Array Value} {T : TypeId} (h : Blk w b c T) (n : Nat) : Blk (w.drewN n) b c T := h

theorem ecompare_at (F G : Nat → Prop) (a b : Ent) (r : Int) (hr : Ent.cmp a b = r) (ka va kb vb : Value) (w : World) (ha : Bytes F w ka a.key) (hb : Bytes G w kb b.key) :
    Calls Try.prog 59 #[.agg (entCells a ka va).toArray, .agg (entCells b kb vb).toArray] w fun e w' => e = .returned (.int .i64 r) ∧ Below w.heap.size w w' := by
  subst hr; exact ecompare_any F G a b ka va kb vb w ha hb

/-- The cells of an entry at the beginning of a block. -/
def C4 (b : Nat) (e : Ent) (k v : Value) (w : World) : Prop := w.cell? ⟨b, 0, none⟩ = some k ∧ w.cell? ⟨b, 1, none⟩ = some (.int .u64 e.seq) ∧ w.cell? ⟨b, 2, none⟩ = some (.int .i64 e.kind) ∧ w.cell? ⟨b, 3, none⟩ = some v
theorem C4.keep {B b : Nat} {e : Ent} {k v : Value} {w w' : World} (h : C4 b e k v w) (hb : Below B w w') (hz : b < B) : C4 b e k v w' := by
  have e1 : ∀ i, w'.cell? ⟨b, i, none⟩ = w.cell? ⟨b, i, none⟩ := fun i => World.cell?_of_block (hb.block b hz)
  unfold C4 at *
  simp only [e1]
  exact h

/-- Only blocks of S were written, and new blocks made. -/
structure Wrote (S : Nat → Prop) (w w' : World) : Prop where
  os : w'.os = w.os
  tape : w'.tape = w.tape
  output : w'.output = w.output
  size : w.heap.size ≤ w'.heap.size
  block : ∀ k, k < w.heap.size → ¬ S k → w'.heap[k]? = w.heap[k]?

section
variable {S : Nat → Prop} {w w1 w' : World}
theorem Wrote.of_below (h : Below w.heap.size w w') : Wrote S w w' := ⟨h.os, h.tape, h.output, h.size, fun k hk _ => h.block k hk⟩
theorem Wrote.trans (h : Wrote S w w1) (k : Wrote S w1 w') : Wrote S w w' := ⟨k.os.trans h.os, k.tape.trans h.tape, k.output.trans h.output, Nat.le_trans h.size k.size, fun i hi hn => (k.block i (Nat.lt_of_lt_of_le hi h.size) hn).trans (h.block i hi hn)⟩
theorem Wrote.setCell (h : Wrote S w w1) (a : Addr) (v : Value) (ha : S a.block ∨ w.heap.size ≤ a.block) : Wrote S w (w1.setCell a v) :=
  ⟨h.os, h.tape, h.output, by simpa using h.size, fun k hk hn => (heap_setCell_other _ _ _ _ (fun e => by rcases ha with ha | ha; exact hn (by rw [e]; exact ha); omega)).trans (h.block k hk hn)⟩
theorem Wrote.drewN (h : Wrote S w w1) (n : Nat) : Wrote S w (w1.drewN n) := ⟨h.os, h.tape, h.output, h.size, h.block⟩
theorem Wrote.below {B : Nat} (h : Wrote S w w') (hB : B ≤ w.heap.size) (hS : ∀ k, S k → B ≤ k) : Below B w w' :=
  ⟨h.os, h.tape, h.output, h.size, fun k hk => h.block k (Nat.lt_of_lt_of_le hk hB) (fun hs => by have := hS k hs; omega)⟩
end

theorem wrap_small {x : Int} (h0 : -1000000000000 ≤ x) (h1 : x ≤ 1000000000000) : IntKind.i64.wrap x = x := by
  have : IntKind.i64.wrap x = RowKit.wrap64 x := by unfold RowKit.wrap64; simp [IntKind.wrap, IntKind.signed, IntKind.bits]; omega
  rw [this]; unfold RowKit.wrap64; omega

/-- May an entry be? 2: it may not; 3: it is too long. -/
def Ent.right (e : Ent) : Bool := decide (0 < e.key.length) && (decide (e.kind = 1) || (decide (e.kind = 2) && decide (e.value.length = 0)))
def Ent.chk (e : Ent) : Nat := if e.right = false ∨ e.seq = 0 then 2 else if 4096 < e.key.length ∨ 65536 < e.value.length ∨ 72057594037927935 < e.seq then 3 else 0
end Go.Proofs.Ytmpapipobjoboaa
