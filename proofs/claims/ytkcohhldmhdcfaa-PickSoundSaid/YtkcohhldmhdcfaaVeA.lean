/- Chapter 12: files in memory; fine. -/
import Derived.Test.YtkcohhldmhdcfaaVeBase
namespace Go.Proofs.Ytkcohhldmhdcfaa
open Go.RowKit

/-- A file. -/
structure Fil where
  num : Int
  size : Int
  least : List UInt8
  most : List UInt8
  ents : Int
  mseq : Int
def u64In (x : Int) : Prop := 0 ≤ x ∧ x < 18446744073709551616
def i64In (x : Int) : Prop := -9223372036854775808 ≤ x ∧ x ≤ 9223372036854775807
def Fil.wf (f : Fil) : Prop := u64In f.num ∧ i64In f.size ∧ i64In f.ents ∧ u64In f.mseq
def filCells (f : Fil) (vl vm : Value) : List Value := [.int .u64 f.num, .int .i64 f.size, vl, vm, .int .i64 f.ents, .int .u64 f.mseq]
def filK : Kind Fil where
  sz := 6
  R F w cs f := ∃ vl vm, cs = filCells f vl vm ∧ Bytes F w vl f.least ∧ Bytes F w vm f.most ∧ f.wf
  pos := by decide
  len := by rintro F w cs x ⟨vl, vm, rfl, _⟩; rfl
  keep := by rintro F w w' cs x ⟨vl, vm, rfl, h1, h2, h3⟩ hk; exact ⟨vl, vm, rfl, h1.keep hk, h2.keep hk, h3⟩
  mono := by rintro F F' w cs x ⟨vl, vm, rfl, h1, h2, h3⟩ hk; exact ⟨vl, vm, rfl, h1.mono hk, h2.mono hk, h3⟩
  one := by
    rintro F w cs x ⟨vl, vm, rfl, h1, h2, _⟩ u hu
    have g1 := h1.oneCell
    have g2 := h2.oneCell
    simp only [filCells, List.mem_cons, List.not_mem_nil, or_false] at hu
    rcases hu with rfl | rfl | rfl | rfl | rfl | rfl <;> first | rfl | exact g1 | exact g2
def fil0 : Fil := ⟨0, 0, [], [], 0, 0⟩
def fat (l : List Fil) (i : Nat) : Fil := l.getD i fil0
theorem fat_eq {l : List Fil} {i : Nat} (h : i < l.length) : l[i] = fat l i := by simp [fat, h]
theorem fat_mem {l : List Fil} {i : Nat} (h : i < l.length) : fat l i ∈ l := by rw [← fat_eq h]; exact List.getElem_mem h
/-- The six cells of a file. -/
def C6 (b o : Nat) (f : Fil) (vl vm : Value) (w : World) : Prop :=
  w.cell? ⟨b, o, none⟩ = some (.int .u64 f.num) ∧ w.cell? ⟨b, o + 1, none⟩ = some (.int .i64 f.size) ∧ w.cell? ⟨b, o + 2, none⟩ = some vl ∧ w.cell? ⟨b, o + 3, none⟩ = some vm ∧ w.cell? ⟨b, o + 4, none⟩ = some (.int .i64 f.ents) ∧ w.cell? ⟨b, o + 5, none⟩ = some (.int .u64 f.mseq)
theorem C6.keep {B b o : Nat} {f : Fil} {vl vm : Value} {w w' : World} (h : C6 b o f vl vm w) (hb : Below B w w') (hz : b < B) : C6 b o f vl vm w' := by
  have e1 : ∀ k, w'.cell? ⟨b, k, none⟩ = w.cell? ⟨b, k, none⟩ := fun k => hb.cell (p := ⟨b, k, none⟩) hz
  unfold C6 at *
  simp only [e1]
  exact h
theorem C6.blk {b : Nat} {f : Fil} {vl vm : Value} {w : World} {T : TypeId} (h : Blk w b (filCells f vl vm).toArray T) : C6 b 0 f vl vm w :=
  ⟨h.cell rfl, h.cell rfl, h.cell rfl, h.cell rfl, h.cell rfl, h.cell rfl⟩
theorem fils_at {F : Nat → Prop} {w : World} {v : Value} {fs : List Fil} (h : Rw filK F w v fs) (hne : 0 < fs.length) :
    ∃ b off cap, v = .slice (some ⟨b, off, none⟩) fs.length cap ∧ F b ∧ b < w.heap.size ∧ ∀ i, i < fs.length → ∃ vl vm, Bytes F w vl (fat fs i).least ∧ Bytes F w vm (fat fs i).most ∧ (fat fs i).wf ∧ C6 b (off + i * 6) (fat fs i) vl vm w := by
  obtain ⟨b, off, cap, e, hF, hb, _, _, hc⟩ := h.place hne
  refine ⟨b, off, cap, e, hF, hb, fun i hi => ?_⟩
  obtain ⟨cs, ⟨vl, vm, rfl, h1, h2, h3⟩, hes⟩ := hc i hi
  rw [fat_eq hi] at h1 h2 h3 hes
  exact ⟨vl, vm, h1, h2, h3, hes 0 _ rfl, hes 1 _ rfl, hes 2 _ rfl, hes 3 _ rfl, hes 4 _ rfl, hes 5 _ rfl⟩
def lat (ls : List (List Fil)) (i : Nat) : List Fil := ls.getD i []
theorem lat_eq {ls : List (List Fil)} {i : Nat} (h : i < ls.length) : ls[i] = lat ls i := by simp [lat, h]
theorem levs_at {F : Nat → Prop} {w : World} {v : Value} {ls : List (List Fil)} (h : Rw (rowK filK) F w v ls) (hne : 0 < ls.length) :
    ∃ b off cap, v = .slice (some ⟨b, off, none⟩) ls.length cap ∧ F b ∧ b < w.heap.size ∧ ∀ i, i < ls.length → ∃ u, Rw filK F w u (lat ls i) ∧ w.cell? ⟨b, off + i, none⟩ = some u := by
  obtain ⟨b, off, cap, e, hF, hb, _, _, hc⟩ := h.place hne
  refine ⟨b, off, cap, e, hF, hb, fun i hi => ?_⟩
  obtain ⟨cs, ⟨u, rfl, hu⟩, hes⟩ := hc i hi
  have := hes 0 _ rfl
  rw [show (rowK filK).sz = 1 from rfl, Nat.mul_one, Nat.add_zero] at this
  rw [lat_eq hi] at hu
  exact ⟨u, hu, this⟩

/-- A version. -/
structure Ver where
  levels : List (List Fil)
  next : Int
  seq : Int
  log : Int
def maxSeq : Int := 72057594037927935
def keyOk (k : List UInt8) : Bool := decide (1 ≤ k.length) && decide (k.length ≤ 4096)
/-- May a file be? -/
structure Fil.Fine (f : Fil) : Prop where
  num : 1 ≤ f.num
  s0 : 0 ≤ f.size
  s1 : f.size ≤ 16777216
  least : keyOk f.least = true
  most : keyOk f.most = true
  order : Ent.bcmp f.least f.most ≤ 0
  e0 : 1 ≤ f.ents
  e1 : f.ents ≤ 16777216
  seq : f.mseq ≤ maxSeq
open Classical in
noncomputable def fineB (f : Fil) : Bool := decide f.Fine
theorem fineB_iff {f : Fil} : fineB f = true ↔ f.Fine := by unfold fineB; simp
theorem fineB_no {f : Fil} (h : ¬ f.Fine) : fineB f = false := by unfold fineB; simp [h]
theorem fineB_yes {f : Fil} (h : f.Fine) : fineB f = true := fineB_iff.2 h

theorem key_any (F : Nat → Prop) (v : Value) (k : List UInt8) (w : World) (h : Bytes F w v k) :
    Calls Try.prog 114 #[v] w fun e w' => e = .returned (.bool (keyOk k)) ∧ w = w' := by
  obtain ⟨a, c, rfl⟩ := h.isSlice
  clear h
  go_enter Try.func114, Try.ntmps114
  by_cases h1 : 1 ≤ k.length
  · have h1' : (1 : Int) ≤ (k.length : Int) := by omega
    by_cases h2 : k.length ≤ 4096
    · have h2' : (k.length : Int) ≤ 4096 := by omega
      have HK : Hid (keyOk k = true) := by show _ = _; unfold keyOk; simp [h1, h2]
      go_wp2_with fail
      go_ret
      exact ⟨ret_bool HK.out.symm, rfl⟩
    · have h2' : decide ((k.length : Int) ≤ 4096) = false := decide_eq_false (by omega)
      have HK : Hid (keyOk k = false) := by show _ = _; unfold keyOk; simp; omega
      go_wp2_with fail
      go_ret
      exact ⟨ret_bool HK.out.symm, rfl⟩
  · have h1' : decide ((1 : Int) ≤ (k.length : Int)) = false := decide_eq_false (by omega)
    have HK : Hid (keyOk k = false) := by show _ = _; unfold keyOk; simp; omega
    go_wp2_with fail
    go_ret
    exact ⟨ret_bool HK.out.symm, rfl⟩
theorem key_at {r : Bool} (F : Nat → Prop) (v : Value) (k : List UInt8) (w : World) (h : Bytes F w v k) (hr : keyOk k = r) :
    Calls Try.prog 114 #[v] w fun e w' => e = .returned (.bool r) ∧ w = w' := by subst hr; exact key_any F v k w h
theorem bcompare_at {r : Int} (F G : Nat → Prop) (va vb : Value) (a b : List UInt8) (w : World) (ha : Bytes F w va a) (hb : Bytes G w vb b) (hr : Ent.bcmp a b = r) :
    Calls Try.prog 73 #[va, vb] w fun e w' => e = .returned (.int .i64 r) ∧ w' = w := by subst hr; exact bytesCompare_any F G va vb a b w ha hb
end Go.Proofs.Ytkcohhldmhdcfaa
