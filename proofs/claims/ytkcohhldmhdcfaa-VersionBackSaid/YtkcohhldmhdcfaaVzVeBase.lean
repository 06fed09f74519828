/- Chapters 12 and 14: small laws. -/
import Derived.Test.YtkcohhldmhdcfaaVzElsF
import Derived.Test.YtkcohhldmhdcfaaVzOrd
import Derived.Test.YtkcohhldmhdcfaaVzAppN
import Derived.Laws.Externs
import Derived.Lib.Bytealg
import Derived.Deep.CutBlock
import Derived.Deep.DeepCutAuto
import Derived.Deep.QuietTactic
import Derived.BigQuiet
import Derived.Deep.Draws
import Derived.Deep.RegionHeld3
import Derived.Deep.CutRange
import Derived.Laws.IdiomStrings
namespace Go.Proofs.Ytkcohhldmhdcfaa
open Go.RowKit

theorem loadBytes_u8s {P : Program} (w : World) : ∀ (bs : List UInt8) (a : Addr) (acc : ByteArray), (∀ j, j < bs.length → w.cell? (a.add j) = some (.int .u8 ((bs.getD j 0).toNat : Int))) →
    (Extern.Bytes.loadBytes a bs.length acc).run P w = .ok ⟨acc.data ++ bs.toArray⟩ w
  | [], a, acc, _ => by simp [Extern.Bytes.loadBytes]
  | x :: l, a, acc, h => by
    have h0 : w.cell? a = some (.int .u8 (x.toNat : Int)) := by
      have := h 0 (by simp)
      simpa [Addr.add] using this
    have ih := loadBytes_u8s (P := P) w l (a.add 1) (acc.push ((x.toNat : Int).toNat.toUInt8)) (fun j hj => by
      have := h (j + 1) (by simp; omega)
      have e : (a.add 1).add j = a.add (j + 1) := by rw [Addr.add_add, Nat.add_comm]
      rw [e]; simpa using this)
    simp only [List.length_cons, Extern.Bytes.loadBytes, Sem.run_bind, run_load, h0, Result.andThen]
    rw [ih]
    congr 1
    apply ByteArray.ext
    simp [ByteArray.push]
theorem bytesOf_bytes {P : Program} {F : Nat → Prop} {w : World} {v : Value} {bs : List UInt8} (h : Bytes F w v bs) : (Extern.Bytes.bytesOf v).run P w = .ok ⟨bs.toArray⟩ w := by
  obtain ⟨a, cap, rfl, hc⟩ := h.cells
  cases a with
  | none =>
    have : bs = [] := by
      cases bs with
      | nil => rfl
      | cons x l => obtain ⟨_, e, _⟩ := hc 0 (by simp); cases e
    subst this
    rfl
  | some a =>
    have hl := loadBytes_u8s (P := P) w bs a .empty fun j hj => by
      obtain ⟨ad, e, _, h3⟩ := hc j hj
      injection e with e; subst e; exact h3
    have e : (⟨ByteArray.empty.data ++ bs.toArray⟩ : ByteArray) = ⟨bs.toArray⟩ := by
      apply ByteArray.ext
      show (#[] : Array UInt8) ++ bs.toArray = bs.toArray
      simp
    rw [e] at hl
    exact hl
theorem compareBytes_eq : ∀ (a b : List UInt8), Lib.compareBytes a b = Ent.bcmp a b
  | [], [] => rfl
  | [], _ :: _ => rfl
  | _ :: _, [] => rfl
  | a :: x, b :: y => by
    have ih := compareBytes_eq x y
    unfold Lib.compareBytes
    by_cases h1 : a < b
    · have h2 : ¬ b < a := fun h => by rw [UInt8.lt_iff_toNat_lt] at *; omega
      rw [if_pos h1]
      simp [Ent.bcmp, Op.bytesLess, h1]
    · rw [if_neg h1]
      by_cases h2 : b < a
      · rw [if_pos h2]
        have h3 : a ≠ b := fun e => by subst e; exact h1 h2
        simp [Ent.bcmp, Op.bytesLess, h1, h2, h3]
      · rw [if_neg h2]
        have h3 : a = b := by
          refine UInt8.toNat_inj.1 ?_
          rw [UInt8.lt_iff_toNat_lt] at h1 h2
          omega
        subst h3
        rw [ih]
        simp [Ent.bcmp, Op.bytesLess, h1]
theorem run_compareBytes {P : Program} {F G : Nat → Prop} {w : World} {va vb : Value} {a b : List UInt8} (ha : Bytes F w va a) (hb : Bytes G w vb b) :
    (Extern.BytealgCompare.compare #[va, vb]).run P w = .ok (.int .i64 (Ent.bcmp a b)) w := by
  have h1 := bytesOf_bytes (P := P) ha
  have h2 := bytesOf_bytes (P := P) hb
  change Sem.run P (do pure (goInt (Extern.BytealgCompare.cmp (← Extern.Bytes.bytesOf va) (← Extern.Bytes.bytesOf vb)))) w = _
  simp only [Sem.run_bind, Sem.run_pure, Result.andThen, h1, h2]
  rw [Lib.cmp_eq, compareBytes_eq]
  rfl
theorem bytesCompare_any (F G : Nat → Prop) (va vb : Value) (a b : List UInt8) (w : World) (ha : Bytes F w va a) (hb : Bytes G w vb b) :
    Calls Try.prog 73 #[va, vb] w fun e w' => e = .returned (.int .i64 (Ent.bcmp a b)) ∧ w' = w := by
  have hx := @run_callFunc_extern Try.prog 115 _ Extern.BytealgCompare.compare Try.func115 (by kernel_rfl) (by kernel_rfl) (by kernel_rfl) (by kernel_rfl)
  have hc := run_compareBytes (P := Try.prog) ha hb
  obtain ⟨aa, ca, rfl⟩ := ha.isSlice
  obtain ⟨ab, cb, rfl⟩ := hb.isSlice
  clear ha hb
  go_enter Try.func73, Try.ntmps73
  go_wp2_with fail
  go_ret
  exact ⟨rfl, rfl⟩
theorem isNaN_any (x : Int) (w : World) : Calls Try.prog 103 #[.int .u64 x] w fun e w' => e = .returned (.bool false) ∧ w' = w := by
  go_enter Try.func103, Try.ntmps103
  go_wp2_with fail
  go_ret
  exact ⟨by simp, rfl⟩
theorem cmpU64_any (a b : Int) (w : World) : Calls Try.prog 58 #[.int .u64 a, .int .u64 b] w fun e w' => e = .returned (.int .i64 (Ent.sgn a b)) ∧ w' = w := by
  by_cases h1 : a < b
  · have e : Ent.sgn a b = -1 := by unfold Ent.sgn; rw [if_pos h1]
    rw [e]
    go_enter Try.func58, Try.ntmps58
    go_wp2_with (first | (go_at_call 103; refine (isNaN_any _ _).mono ?_; rintro e w' ⟨rfl, rfl⟩))
    go_ret
    exact ⟨rfl, rfl⟩
  · by_cases h2 : b < a
    · have e : Ent.sgn a b = 1 := by unfold Ent.sgn; rw [if_neg h1, if_pos h2]
      rw [e]
      go_enter Try.func58, Try.ntmps58
      go_wp2_with (first | (go_at_call 103; refine (isNaN_any _ _).mono ?_; rintro e w' ⟨rfl, rfl⟩))
      go_ret
      exact ⟨rfl, rfl⟩
    · have e : Ent.sgn a b = 0 := by unfold Ent.sgn; rw [if_neg h1, if_neg h2]
      rw [e]
      go_enter Try.func58, Try.ntmps58
      go_wp2_with (first | (go_at_call 103; refine (isNaN_any _ _).mono ?_; rintro e w' ⟨rfl, rfl⟩))
      go_ret
      exact ⟨rfl, rfl⟩
theorem below_drew {B : Nat} {w w' : World} (h : Below B w w') : Below B w w'.drew := ⟨h.os, h.tape, h.output, h.size, h.block⟩
theorem below_dn {B : Nat} {w w' : World} (h : Below B w w') (n : Nat) : Below B w (w'.drewN n) := ⟨h.os, h.tape, h.output, h.size, h.block⟩
theorem below_two (w : World) (o1 o2 : Obj) : Below w.heap.size w ((w.alloc o1).alloc o2) := ((Below.refl w.heap.size w).alloc (Nat.le_refl _) o1).alloc (by simp) o2
theorem blk_two (w : World) (o : Obj) (c : Array Value) (T : TypeId) : Blk ((w.alloc o).alloc (.cells c T)) (w.heap.size + 1) c T := Blk.at_new (by simp) rfl
/-- Only blocks of S were written, and new blocks made. -/
structure Wrote (S : Nat → Prop) (w w' : World) : Prop where
  os : w'.os = w.os
  tape : w'.tape = w.tape
  output : w'.output = w.output
  size : w.heap.size ≤ w'.heap.size
  block : ∀ k, k < w.heap.size → ¬ S k → w'.heap[k]? = w.heap[k]?

section
variable {S : Nat → Prop} {w w1 w' : World}
theorem Wrote.of_below (h : Below w.heap.size w w') : Wrote S w w' := ⟨h.os, h.tape, h.output, h.size, fun k hk _ => h.block k hk⟩
theorem Wrote.trans (h : Wrote S w w1) (k : Wrote S w1 w') : Wrote S w w' := ⟨k.os.trans h.os, k.tape.trans h.tape, k.output.trans h.output, Nat.le_trans h.size k.size, fun i hi hn => (k.block i (Nat.lt_of_lt_of_le hi h.size) hn).trans (h.block i hi hn)⟩
theorem Wrote.setCell (h : Wrote S w w1) (a : Addr) (v : Value) (ha : S a.block ∨ w.heap.size ≤ a.block) : Wrote S w (w1.setCell a v) :=
  ⟨h.os, h.tape, h.output, by simpa using h.size, fun k hk hn => (heap_setCell_other _ _ _ _ (fun e => by rcases ha with ha | ha; exact hn (by rw [e]; exact ha); omega)).trans (h.block k hk hn)⟩
theorem Wrote.drewN (h : Wrote S w w1) (n : Nat) : Wrote S w (w1.drewN n) := ⟨h.os, h.tape, h.output, h.size, h.block⟩
theorem Wrote.below {B : Nat} (h : Wrote S w w') (hB : B ≤ w.heap.size) (hS : ∀ k, S k → B ≤ k) : Below B w w' :=
  ⟨h.os, h.tape, h.output, h.size, fun k hk => h.block k (Nat.lt_of_lt_of_le hk hB) (fun hs => by have := hS k hs; omega)⟩
end

theorem wrap_small {x : Int} (h0 : -1000000000000 ≤ x) (h1 : x ≤ 1000000000000) : IntKind.i64.wrap x = x := by
  have : IntKind.i64.wrap x = RowKit.wrap64 x := by unfold RowKit.wrap64; simp [IntKind.wrap, IntKind.signed, IntKind.bits]; omega
  rw [this]; unfold RowKit.wrap64; omega

theorem drewN_one {w w' : World} (h : ∃ n, w' = w.drewN n) : ∃ n, w'.drew = w.drewN n := by obtain ⟨n, rfl⟩ := h; exact ⟨n + 1, rfl⟩
theorem drewN_more {w w' : World} (h : ∃ n, w' = w.drewN n) (m : Nat) : ∃ n, w'.drewN m = w.drewN n := by obtain ⟨n, rfl⟩ := h; exact ⟨n + m, by simp⟩
theorem take_succ_eq {a b : List UInt8} {j : Nat} (h : a.take j = b.take j) (ha : j < a.length) (hb : j < b.length) (he : a.getD j 0 = b.getD j 0) : a.take (j + 1) = b.take (j + 1) := by
  rw [List.take_succ_eq_append_getElem ha, List.take_succ_eq_append_getElem hb, h]
  simp [List.getD, ha, hb] at he
  rw [he]
theorem kbytes_any (F G : Nat → Prop) (va : Value) (xs : List UInt8) (vb : Value) (ys : List UInt8) (w : World) (ha : Bytes F w va xs) (hb : Bytes G w vb ys) :
    Calls Try.prog 66 #[va, vb] w fun e w' => e = .returned (.bool (decide (xs = ys))) ∧ ∃ n, w' = w.drewN n := by
  obtain ⟨aa, ca, rfl⟩ := ha.isSlice
  obtain ⟨ab, cb, rfl⟩ := hb.isSlice
  have HA := Lib.hid ha
  have HB := Lib.hid hb
  have hml := ha.len
  simp only [maxLen] at hml
  clear ha hb
  by_cases hl : xs.length = ys.length
  · rw [← hl]
    have HB2 : Hid (Bytes G w (Value.slice ab xs.length cb) ys) := by rw [hl]; exact HB.out
    have HL := Lib.hid hl
    clear HB hl
    go_enter Try.func66, Try.ntmps66
    go_wp2_with fail
    go_loopw [5] (fun i wr => ∃ j : Nat, i = .int .i64 j ∧ j ≤ xs.length ∧ Hid (xs.take j = ys.take j) ∧ Hid (∃ n, wr = w.drewN n)) (fun i _ => xs.length - (intOf i).toNat)
    case atStart => exact ⟨0, rfl, by omega, rfl, 0, rfl⟩
    case round =>
      obtain ⟨j, rfl, hj, HE, HW⟩ := hrel
      have hwc : ∀ a, wr.cell? a = w.cell? a := fun a => by obtain ⟨n, h⟩ := HW.out; rw [h]; rfl
      by_cases hlt : j < xs.length
      · obtain ⟨ba, oa, ca', ea, _, _, _, _, hca⟩ := Sl.place HA.out (by rw [u8s_len]; omega)
        obtain ⟨bb, ob, cb', eb, _, _, _, _, hcb⟩ := Sl.place HB2.out (by rw [u8s_len, ← HL.out]; exact Nat.zero_lt_of_lt hlt)
        cases ea
        injection eb with e1 e2 e3
        subst e1 e3
        clear e2
        have ka : wr.cell? ⟨ba, oa + j, none⟩ = some (.int .u8 ((xs.getD j 0).toNat : Int)) := (hwc _).trans <| hca j _ (u8s_get _ _ hlt)
        have kb : wr.cell? ⟨bb, ob + j, none⟩ = some (.int .u8 ((ys.getD j 0).toNat : Int)) := (hwc _).trans <| hcb j _ (u8s_get _ _ (by rw [← HL.out]; exact hlt))
        clear hca hcb hwc
        have hs := take_succ_eq HE.out hlt (by rw [← HL.out]; exact hlt)
        have hxy : ∀ h : xs.getD j 0 ≠ ys.getD j 0, xs ≠ ys := fun h e => h (by rw [e])
        generalize xs.getD j 0 = x at *
        generalize ys.getD j 0 = y at *
        have HS := Lib.hid hs
        have HX := Lib.hid hxy
        clear hs hxy
        by_cases hxy : x = y
        · subst hxy
          go_wp2_with fail
          go_region
          go_wp2_with fail
          go_roundw
          · exact ⟨j + 1, by go_num, by omega, HS.out trivial, (by first | exact HW.out | exact drewN_one HW.out | exact drewN_more HW.out _)⟩
          · simp only [intOf]; omega
        · have hne : ((x.toNat : Int) != (y.toNat : Int)) = true := by
            rw [bne_iff_ne]
            intro h
            exact hxy (UInt8.toNat_inj.1 (by omega))
          have HD : Hid (decide (xs = ys) = false) := by
            show _ = _
            simpa using HX.out hxy
          go_wp2_with fail
          go_quiet (fail)
          all_goals
            go_wp2_with fail
            go_ret
            exact ⟨congrArg (fun b => Ending.returned (.bool b)) HD.out.symm, (by first | exact HW.out | exact drewN_one HW.out | exact drewN_more HW.out _)⟩
      · have HD : Hid (decide (xs = ys) = true) := by
          show _ = _
          have h1 := HE.out
          rw [List.take_of_length_le (by omega), List.take_of_length_le (by rw [← HL.out]; omega)] at h1
          simpa using h1
        go_wp2_with fail
        go_ret
        exact ⟨congrArg (fun b => Ending.returned (.bool b)) HD.out.symm, (by first | exact HW.out | exact drewN_one HW.out | exact drewN_more HW.out _)⟩
  · have he : decide (xs = ys) = false := by simp; intro h; exact hl (by rw [h])
    rw [he]
    have hne : ((xs.length : Int) != (ys.length : Int)) = true := by simp; omega
    go_enter Try.func66, Try.ntmps66
    go_wp2_with fail
    go_ret
    exact ⟨rfl, 0, rfl⟩
theorem kbytes_at {b : Bool} (F G : Nat → Prop) (va : Value) (xs : List UInt8) (vb : Value) (ys : List UInt8) (w : World) (ha : Bytes F w va xs) (hb : Bytes G w vb ys) (h : decide (xs = ys) = b) :
    Calls Try.prog 66 #[va, vb] w fun e w' => e = .returned (.bool b) ∧ ∃ n, w' = w.drewN n := by
  subst h; exact kbytes_any F G va xs vb ys w ha hb
theorem below_drewN {w w' : World} (h : ∃ n, w' = w.drewN n) : Below w.heap.size w w' := by obtain ⟨n, rfl⟩ := h; exact below_dn (Below.refl _ _) n
theorem w64_eq (x : Int) : RowKit.wrap64 x = IntKind.i64.wrap x := by unfold RowKit.wrap64; simp [IntKind.wrap, IntKind.signed, IntKind.bits]; omega
theorem wrap_mid {x : Int} (h0 : -1000000000000000000 ≤ x) (h1 : x ≤ 1000000000000000000) : IntKind.i64.wrap x = x := by
  rw [← w64_eq]; unfold RowKit.wrap64; omega
theorem results_cell1 {P : Program} {fn : Func} {p : Tmp} {ty : TypeId} (h : fn.results = #[.cell p ty]) (tmps : Array Value) (w : World) (g : Nat) (T : TypeId) (cs : Array Value) (d : TypeDesc)
    (hp : tmps.getD p undef = .pointer (some ⟨g, 0, none⟩)) (hg : Blk w g cs T)
    (hu : P.underlying ty = some d) (hd : (match d with | .struct _ | .array _ _ => true | _ => false) = true) (hi : (P.info? ty).map (·.size) = some cs.size) :
    (results fn tmps).run P w = .ok (.agg cs) w := by
  have hp' : tmps[p]?.getD undef = .pointer (some ⟨g, 0, none⟩) := by simpa using hp
  simp [results, h, hp', asAddr, run_loadVar_row w g T ty cs (0, 0) d hg hu hd hi]
theorem bytes_conv {W : World} {g cap : Nat} {T : TypeId} {fr : Nat × Nat} (bs : List UInt8) (hg : W.heap[g]? = some (.cells (bytesRow ⟨bs.toArray⟩ cap) T fr)) (h1 : bs.length ≤ cap) (h2 : cap ≤ maxLen) :
    Bytes (fun k => k = g) W (.slice (some ⟨g, 0, none⟩) bs.length cap) bs := by
  refine ⟨some ⟨g, 0, none⟩, _, rfl, h1, h2, by simp, by simp [u8s], fun j u hj => ⟨_, rfl, rfl, ?_⟩⟩
  have hjl : j < bs.length := by
    have := (List.getElem?_eq_some_iff.1 hj).1
    simpa [u8s] using this
  rw [add_plain', Nat.zero_add, cell_of_row W g j _ T fr hg, bytesRow_at _ _ _ (by simpa using hjl)]
  rw [u8s_get _ _ hjl] at hj
  rw [← hj]
  simp [List.getD, hjl]
theorem below_three (w : World) (o1 o2 o3 : Obj) : Below w.heap.size w (((w.alloc o1).alloc o2).alloc o3) := (((Below.refl w.heap.size w).alloc (Nat.le_refl _) o1).alloc (by simp) o2).alloc (by simp; omega) o3
theorem size_one (w : World) (o : Obj) : (w.alloc o).heap.size = w.heap.size + 1 := by simp
theorem heap_three_2 (w : World) (o1 o2 o3 : Obj) : (((w.alloc o1).alloc o2).alloc o3).heap[w.heap.size + 1 + 1]? = some o3 := by
  have h := heap_alloc_new ((w.alloc o1).alloc o2) o3
  rw [size_one, size_one] at h
  exact h
theorem heap_three_1 (w : World) (o1 o2 o3 : Obj) : (((w.alloc o1).alloc o2).alloc o3).heap[w.heap.size + 1]? = some o2 := by
  have h := heap_alloc_new (w.alloc o1) o2
  rw [size_one] at h
  exact (((Below.refl _ ((w.alloc o1).alloc o2)).alloc (Nat.le_refl _) o3).block (w.heap.size + 1) (by rw [size_one, size_one]; omega)).trans h
theorem heap_three_0 (w : World) (o1 o2 o3 : Obj) : (((w.alloc o1).alloc o2).alloc o3).heap[w.heap.size]? = some o1 := by
  have h := heap_alloc_new w o1
  refine (((Below.refl _ ((w.alloc o1).alloc o2)).alloc (Nat.le_refl _) o3).block w.heap.size (by rw [size_one, size_one]; omega)).trans ?_
  exact (((Below.refl _ (w.alloc o1)).alloc (Nat.le_refl _) o2).block w.heap.size (by rw [size_one]; omega)).trans h
/-- A literal. -/
theorem rw_lit {α : Type} {K : Kind α} {F : Nat → Prop} {w : World} {b n : Nat} {c : Array Value} {T : TypeId} {xs : List α} (hb : Blk w b c T) (hE : Els K F w c.toList xs) (hn : n = xs.length) (hm : n ≤ 1000) :
    Rw K (fun j => j = b ∨ F j) w (.slice (some ⟨b, 0, none⟩) n n) xs := by
  subst hn
  refine ⟨c.toList, ⟨_, _, rfl, Nat.le_refl _, by simp only [maxLen]; omega, (fun h => by cases h), hE.len, fun j u hj => ⟨_, rfl, .inl rfl, ?_⟩⟩, hE.mono fun _ _ h => .inr h⟩
  rw [add_plain', Nat.zero_add]
  exact hb.cell (by simpa using hj)
def Any : Nat → Prop := fun _ => True
theorem Bytes.any {F : Nat → Prop} {w : World} {v : Value} {bs : List UInt8} (h : Bytes F w v bs) : Bytes Any w v bs := h.mono fun _ _ _ => trivial
theorem Rw.any {α : Type} {K : Kind α} {F : Nat → Prop} {w : World} {v : Value} {xs : List α} (h : Rw K F w v xs) : Rw K Any w v xs := h.mono fun _ _ _ => trivial
theorem frozen_of_block {w w' : World} {b k : Nat} (h : w'.heap[b]? = w.heap[b]?) : w'.frozen? ⟨b, k, none⟩ = w.frozen? ⟨b, k, none⟩ := by
  unfold World.frozen?
  rw [show w'.heap[(⟨b, k, none⟩ : Addr).block]? = w.heap[b]? from h]
end Go.Proofs.Ytkcohhldmhdcfaa
