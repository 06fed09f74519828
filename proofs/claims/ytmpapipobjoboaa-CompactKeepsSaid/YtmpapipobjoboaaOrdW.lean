/- bytes.Compare, cmp.Compare, cmp.Or, bytes.Equal, bytes.Clone, batch.Compare tell what the plain orders tell. -/
import Derived.Test.YtmpapipobjoboaaOrd
import Derived.Laws.Externs
import Derived.Lib.Bytealg
import Derived.Deep.QuietTactic
import Derived.Deep.Draws
import Derived.BigQuiet
import Derived.Deep.RegionHeld3
namespace Go.Proofs.Ytmpapipobjoboaa
open Go.RowKit

theorem loadBytes_u8s {P : Program} (w : World) : ∀ (bs : List UInt8) (a : Addr) (acc : ByteArray), (∀ j, j < bs.length → w.cell? (a.add j) = some (.int .u8 ((bs.getD j 0).toNat : Int))) →
    (Extern.Bytes.loadBytes a bs.length acc).run P w = .ok ⟨acc.data ++ bs.toArray⟩ w
  | [], a, acc, _ => by simp [Extern.Bytes.loadBytes]
  | x :: l, a, acc, h => by
    have h0 : w.cell? a = some (.int .u8 (x.toNat : Int)) := by
      have := h 0 (by simp)
      simpa [Addr.add] using this
    have ih := loadBytes_u8s (P := P) w l (a.add 1) (acc.push ((x.toNat : Int).toNat.toUInt8)) (fun j hj => by
      have := h (j + 1) (by simp; omega)
      have e : (a.add 1).add j = a.add (j + 1) := by rw [Addr.add_add, Nat.add_comm]
      rw [e]; simpa using this)
    simp only [List.length_cons, Extern.Bytes.loadBytes, Sem.run_bind, run_load, h0, Result.andThen]
    rw [ih]
    congr 1
    apply ByteArray.ext
    simp [ByteArray.push]

theorem bytesOf_bytes {P : Program} {F : Nat → Prop} {w : World} {v : Value} {bs : List UInt8} (h : Bytes F w v bs) : (Extern.Bytes.bytesOf v).run P w = .ok ⟨bs.toArray⟩ w := by
  obtain ⟨a, cap, rfl, hc⟩ := h.cells
  cases a with
  | none =>
    have : bs = [] := by
      cases bs with
      | nil => rfl
      | cons x l => obtain ⟨_, e, _⟩ := hc 0 (by simp); cases e
    subst this
    rfl
  | some a =>
    have hl := loadBytes_u8s (P := P) w bs a .empty fun j hj => by
      obtain ⟨ad, e, _, h3⟩ := hc j hj
      injection e with e; subst e; exact h3
    have e : (⟨ByteArray.empty.data ++ bs.toArray⟩ : ByteArray) = ⟨bs.toArray⟩ := by
      apply ByteArray.ext
      show (#[] : Array UInt8) ++ bs.toArray = bs.toArray
      simp
    rw [e] at hl
    exact hl

theorem compareBytes_eq : ∀ (a b : List UInt8), Lib.compareBytes a b = Ent.bcmp a b
  | [], [] => rfl
  | [], _ :: _ => rfl
  | _ :: _, [] => rfl
  | a :: x, b :: y => by
    have ih := compareBytes_eq x y
    unfold Lib.compareBytes
    by_cases h1 : a < b
    · have h2 : ¬ b < a := fun h => by rw [UInt8.lt_iff_toNat_lt] at *; omega
      rw [if_pos h1]
      simp [Ent.bcmp, Op.bytesLess, h1]
    · rw [if_neg h1]
      by_cases h2 : b < a
      · rw [if_pos h2]
        have h3 : a ≠ b := fun e => by subst e; exact h1 h2
        simp [Ent.bcmp, Op.bytesLess, h1, h2, h3]
      · rw [if_neg h2]
        have h3 : a = b := by
          refine UInt8.toNat_inj.1 ?_
          rw [UInt8.lt_iff_toNat_lt] at h1 h2
          omega
        subst h3
        rw [ih]
        simp [Ent.bcmp, Op.bytesLess, h1]

theorem run_compareBytes {P : Program} {F G : Nat → Prop} {w : World} {va vb : Value} {a b : List UInt8} (ha : Bytes F w va a) (hb : Bytes G w vb b) :
    (Extern.BytealgCompare.compare #[va, vb]).run P w = .ok (.int .i64 (Ent.bcmp a b)) w := by
  have h1 := bytesOf_bytes (P := P) ha
  have h2 := bytesOf_bytes (P := P) hb
  change Sem.run P (do pure (goInt (Extern.BytealgCompare.cmp (← Extern.Bytes.bytesOf va) (← Extern.Bytes.bytesOf vb)))) w = _
  simp only [Sem.run_bind, Sem.run_pure, Result.andThen, h1, h2]
  rw [Lib.cmp_eq, compareBytes_eq]
  rfl

theorem bytesCompare_any (F G : Nat → Prop) (va vb : Value) (a b : List UInt8) (w : World) (ha : Bytes F w va a) (hb : Bytes G w vb b) :
    Calls Try.prog 63 #[va, vb] w fun e w' => e = .returned (.int .i64 (Ent.bcmp a b)) ∧ w' = w := by
  have hx := @run_callFunc_extern Try.prog 81 _ Extern.BytealgCompare.compare Try.func81 (by kernel_rfl) (by kernel_rfl) (by kernel_rfl) (by kernel_rfl)
  have hc := run_compareBytes (P := Try.prog) ha hb
  obtain ⟨aa, ca, rfl⟩ := ha.isSlice
  obtain ⟨ab, cb, rfl⟩ := hb.isSlice
  clear ha hb
  go_enter Try.func63, Try.ntmps63
  go_wp2_with fail
  go_ret
  exact ⟨rfl, rfl⟩

theorem isNaN_any (x : Int) (w : World) : Calls Try.prog 83 #[.int .u64 x] w fun e w' => e = .returned (.bool false) ∧ w' = w := by
  go_enter Try.func83, Try.ntmps83
  go_wp2_with fail
  go_ret
  exact ⟨by simp, rfl⟩

theorem cmpU64_any (a b : Int) (w : World) : Calls Try.prog 77 #[.int .u64 a, .int .u64 b] w fun e w' => e = .returned (.int .i64 (Ent.sgn a b)) ∧ w' = w := by
  by_cases h1 : a < b
  · have e : Ent.sgn a b = -1 := by unfold Ent.sgn; rw [if_pos h1]
    rw [e]
    go_enter Try.func77, Try.ntmps77
    go_wp2_with (first | (go_at_call 83; refine (isNaN_any _ _).mono ?_; rintro e w' ⟨rfl, rfl⟩))
    go_ret
    exact ⟨rfl, rfl⟩
  · by_cases h2 : b < a
    · have e : Ent.sgn a b = 1 := by unfold Ent.sgn; rw [if_neg h1, if_pos h2]
      rw [e]
      go_enter Try.func77, Try.ntmps77
      go_wp2_with (first | (go_at_call 83; refine (isNaN_any _ _).mono ?_; rintro e w' ⟨rfl, rfl⟩))
      go_ret
      exact ⟨rfl, rfl⟩
    · have e : Ent.sgn a b = 0 := by unfold Ent.sgn; rw [if_neg h1, if_neg h2]
      rw [e]
      go_enter Try.func77, Try.ntmps77
      go_wp2_with (first | (go_at_call 83; refine (isNaN_any _ _).mono ?_; rintro e w' ⟨rfl, rfl⟩))
      go_ret
      exact ⟨rfl, rfl⟩

/-- cmp.Or of two numbers that lie in a block. -/
theorem or2_any (x y : Int) (b : Nat) (w : World) (hb : Blk w b #[.int .i64 x, .int .i64 y] 3) :
    Calls Try.prog 76 #[.slice (some ⟨b, 0, none⟩) 2 2] w fun e w' => e = .returned (.int .i64 (Ent.lex x y)) ∧ Below w.heap.size w w' := by
  have k0 : w.cell? ⟨b, 0, none⟩ = some (.int .i64 x) := hb.cell rfl
  have k1 : w.cell? ⟨b, 1, none⟩ = some (.int .i64 y) := hb.cell rfl
  clear hb
  by_cases hx : x = 0
  · subst hx
    have e : Ent.lex 0 y = y := by simp [Ent.lex]
    rw [e]
    go_enter Try.func76, Try.ntmps76
    go_wp2_with fail
    refine wp_loop_rounds 3 ?_
    rw [rounds_succ]
    go_wp2_with fail
    rw [rounds_succ]
    by_cases hy : y = 0
    · subst hy
      go_wp2_with fail
      rw [rounds_succ]
      go_wp2_with fail
      go_ret
      exact ⟨rfl, Below.refl _ _⟩
    · go_wp2_with fail
      go_ret
      exact ⟨rfl, Below.refl _ _⟩
  · have e : Ent.lex x y = x := by simp [Ent.lex, hx]
    rw [e]
    go_enter Try.func76, Try.ntmps76
    go_wp2_with fail
    refine wp_loop_rounds 3 ?_
    rw [rounds_succ]
    go_wp2_with fail
    go_ret
    exact ⟨rfl, Below.refl _ _⟩

theorem Bytes.textAny {F : Nat → Prop} {w : World} {v : Value} {bs : List UInt8} (h : Bytes F w v bs) : (convert 26 9 v).run Try.prog w = .ok (.string ⟨bs.toArray⟩) w := by
  obtain ⟨a, cap, rfl, hc⟩ := h.cells
  cases a with
  | none =>
    have : bs = [] := by
      cases bs with
      | nil => rfl
      | cons x l => obtain ⟨_, e, _⟩ := hc 0 (by simp); cases e
    subst this
    show (convert 26 9 (.slice none 0 cap)).run Try.prog w = _
    rw [run_convert_bytes_string w 26 9 5 none 0 cap Try.underlying26 Try.underlying5 Try.underlying9]
    simp [Conv.bytesToString]
    rfl
  | some ad =>
    refine run_convert_bytes_back (P := Try.prog) w _ _ 5 _ cap bs Try.underlying26 Try.underlying5 Try.underlying9 fun j hj => ?_
    obtain ⟨ad', e, _, h3⟩ := hc j hj
    injection e with e
    subst e
    rw [h3]
    simp [List.getD, hj]

theorem equal_any (F G : Nat → Prop) (va vb : Value) (a b : List UInt8) (w : World) (ha : Bytes F w va a) (hb : Bytes G w vb b) :
    Calls Try.prog 74 #[va, vb] w fun e w' => e = .returned (.bool (decide (a = b))) ∧ ∃ n, w' = w.drewN n := by
  have h1 := ha.textAny
  have h2 := hb.textAny
  have h3 := (ha.below (w' := w.drew) ⟨rfl, rfl, rfl, Nat.le_refl _, fun _ _ => rfl⟩).textAny
  have h4 := (hb.below (w' := w.drew) ⟨rfl, rfl, rfl, Nat.le_refl _, fun _ _ => rfl⟩).textAny
  obtain ⟨aa, ca, rfl⟩ := ha.isSlice
  obtain ⟨ab, cb, rfl⟩ := hb.isSlice
  clear ha hb
  go_enter Try.func74, Try.ntmps74
  go_wp2_with fail
  go_ret
  exact ⟨ret_bool (Bool.beq_eq_decide_eq a b), 0, rfl⟩
end Go.Proofs.Ytmpapipobjoboaa
