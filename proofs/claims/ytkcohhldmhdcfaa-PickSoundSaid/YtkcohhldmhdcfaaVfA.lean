/- Chapter 12's document: short numbers' sizes. -/
import Derived.Test.YtkcohhldmhdcfaaVeO
namespace Go.Proofs.Ytkcohhldmhdcfaa
open Go.RowKit

/-- A short number's bytes. -/
def numE (n : Nat) : List UInt8 := if h : n < 128 then [UInt8.ofNat n] else UInt8.ofNat (n % 128 + 128) :: numE (n / 128)
termination_by n
decreasing_by omega
theorem numE_small {n : Nat} (h : n < 128) : numE n = [UInt8.ofNat n] := by rw [numE, dif_pos h]
theorem numE_more {n : Nat} (h : ¬ n < 128) : numE n = UInt8.ofNat (n % 128 + 128) :: numE (n / 128) := by rw [numE, dif_neg h]
theorem numE_len (n : Nat) : (numE n).length = sizeN n := by
  induction n using Nat.strongRecOn with
  | ind n ih =>
    by_cases h : n < 128
    · rw [numE_small h, sizeN_small h]; rfl
    · rw [numE_more h, sizeN_more h, List.length_cons, ih (n / 128) (by omega)]
theorem byte_lit {n : Nat} (h : n < 256) : ((UInt8.ofNat n).toNat : Int) = (n : Int) := by
  rw [UInt8.toNat_ofNat']
  have : n % 2 ^ 8 = n := Nat.mod_eq_of_lt h
  omega

set_option maxRecDepth 100000 in
set_option maxHeartbeats 2000000 in
theorem rnum_nil (x : Int) (w : World) (hx : u64In x) :
    Calls Try.prog 128 #[.slice none 0 0, .int .u64 x] w fun e w' => ∃ v', e = .returned v' ∧ Owned w.heap.size w' v' (numE x.toNat) ∧ Below w.heap.size w w' := by
  obtain ⟨n, rfl⟩ : ∃ n : Nat, x = (n : Int) := ⟨x.toNat, by have := hx.1; omega⟩
  have hn : n < 18446744073709551616 := by have := hx.2; omega
  have HL := Lib.hid (sizeN_le n hn)
  rw [Int.toNat_natCast]
  clear hx
  have HN := Lib.hid hn
  clear hn
  go_enter Try.func128, Try.ntmps128
  go_wp2_with fail
  go_loopw [0, 1] (fun bv xv wr => ∃ (m : Nat) (done : List UInt8), xv = .int .u64 (m : Int) ∧ Hid (m < 18446744073709551616) ∧ Hid (done ++ numE m = numE n) ∧ Hid (Owned w.heap.size wr bv done) ∧ Hid (Below w.heap.size w wr)) (fun _ xv _ => (intOf xv).toNat)
  case atStart => exact ⟨n, [], rfl, HN.out, rfl, Owned.nil _ _, Below.refl _ _⟩
  case round =>
    obtain ⟨m, done, rfl, HM, HD, HO, HB⟩ := hrel
    obtain ⟨ba, bn, bc, rfl⟩ := HO.out.isSlice
    by_cases hlt : m < 128
    · have t1 : decide ((128 : Int) ≤ (m : Int)) = false := decide_eq_false (by omega)
      have t2 : 0 ≤ (m : Int) := by omega
      have t3 : (m : Int) < 128 := by omega
      go_wp2_with (with_reducible refine pause_append ?_)
      refine list_gen fun w6 hw6 => ?_
      have HS6 : Hid (Bytes (fun k => k = wr.heap.size) w6 (.slice (some ⟨wr.heap.size, 0, none⟩) 1 1) [UInt8.ofNat m]) := by
        rw [hw6]
        exact Bytes.lit [UInt8.ofNat m] 1 rfl (heap_alloc_new _ _) (by simp only [u8s, List.map_cons, List.map_nil]; rw [byte_lit (by omega)]) (by simp [maxLen])
      have HB6 : Hid (Below wr.heap.size wr w6) := by rw [hw6]; exact (Below.refl _ _).alloc (Nat.le_refl _) _
      have HO6 := Lib.hid (HO.out.below HB6.out)
      have HLE : Hid (done.length ≤ 10) := by
        have h1 := congrArg List.length HD.out
        rw [List.length_append, numE_len, numE_len] at h1
        have := HL.out
        show _ ≤ _
        omega
      clear hw6
      refine Pause.go (wpList_append_bytes _ w.heap.size _ done _ [UInt8.ofNat m] rfl _ _ rfl rfl rfl HO6.out HS6.out (by have := HLE.out; simp only [List.length_singleton]; omega) (Nat.le_trans HB.out.size HB6.out.size) ?_)
      intro v7 w7 ho7 hg7
      have HE : Hid (done ++ [UInt8.ofNat m] = numE n) := by rw [← HD.out, numE_small hlt]; rfl
      have HP : Hid (Owned w.heap.size w7 v7 (numE n) ∧ Below w.heap.size w w7) := ⟨by rw [← HE.out]; exact ho7, (HB.out.trans (HB6.out.mono HB.out.size)).trans (hg7.below (Nat.le_trans HB.out.size HB6.out.size) fun k e => (World.ownsRow.lt HO6.out k e).1)⟩
      clear ho7 hg7 HS6 HB6 HO6 HO HB
      go_wp2_with fail
      go_ret
      exact ⟨v7, rfl, HP.out.1, HP.out.2⟩
    · have t1 : (128 : Int) ≤ (m : Int) := by omega
      have t2 : 0 ≤ (m : Int) := by omega
      go_wp2_with (with_reducible refine pause_append ?_)
      refine list_gen fun w6 hw6 => ?_
      have HS6 : Hid (Bytes (fun k => k = wr.heap.size) w6 (.slice (some ⟨wr.heap.size, 0, none⟩) 1 1) [UInt8.ofNat (m % 128 + 128)]) := by
        rw [hw6]
        refine Bytes.lit [UInt8.ofNat (m % 128 + 128)] 1 rfl (heap_alloc_new _ _) ?_ (by simp [maxLen])
        simp only [u8s, List.map_cons, List.map_nil]
        rw [byte_lit (by omega)]
        simp
      have HB6 : Hid (Below wr.heap.size wr w6) := by rw [hw6]; exact (Below.refl _ _).alloc (Nat.le_refl _) _
      have HO6 := Lib.hid (HO.out.below HB6.out)
      have HLE : Hid (done.length ≤ 10) := by
        have h1 := congrArg List.length HD.out
        rw [List.length_append, numE_len, numE_len] at h1
        have := HL.out
        show _ ≤ _
        omega
      clear hw6
      refine Pause.go (wpList_append_bytes _ w.heap.size _ done _ [UInt8.ofNat (m % 128 + 128)] rfl _ _ rfl rfl rfl HO6.out HS6.out (by have := HLE.out; simp only [List.length_singleton]; omega) (Nat.le_trans HB.out.size HB6.out.size) ?_)
      intro v7 w7 ho7 hg7
      have HE : Hid ((done ++ [UInt8.ofNat (m % 128 + 128)]) ++ numE (m / 128) = numE n) := by rw [← HD.out, numE_more hlt, List.append_assoc]; rfl
      have HO7 := Lib.hid ho7
      have HB7 : Hid (Below w.heap.size w w7) := (HB.out.trans (HB6.out.mono HB.out.size)).trans (hg7.below (Nat.le_trans HB.out.size HB6.out.size) fun k e => (World.ownsRow.lt HO6.out k e).1)
      have HM7 : Hid (m / 128 < 18446744073709551616) := by have := HM.out; show _ < _; omega
      have hdv : IntKind.u64.wrap ((m : Int) / 128) = ((m / 128 : Nat) : Int) := by
        have := HM.out
        rw [wrapU ⟨by omega, by omega⟩]
        omega
      have HDV := Lib.hid hdv
      have HMS : Hid (m / 128 < m) := by show _ < _; omega
      clear ho7 hg7 HS6 HB6 HO6 HO HB hdv
      go_wp2_with fail
      go_roundw
      · exact ⟨m / 128, _, int_eq HDV.out, HM7.out, HE.out, HO7.out, HB7.out⟩
      · have := HMS.out
        simp only [intOf]
        rw [HDV.out]
        omega
set_option maxRecDepth 100000 in
theorem rsize_any (x : Int) (w : World) (hx : u64In x) :
    Calls Try.prog 101 #[.int .u64 x] w fun e w' => e = .returned (.int .i64 (sizeN x.toNat : Int)) ∧ Below w.heap.size w w' := by
  have HX := Lib.hid hx
  clear hx
  go_enter Try.func101, Try.ntmps101
  go_wp2_with fail
  refine Calls.mono (rnum_nil x w HX.out) ?_
  rintro _ w1 ⟨v, rfl, ho, hb⟩
  obtain ⟨a, c, rfl⟩ := ho.bytes.isSlice
  have HB := Lib.hid hb
  have HL : Hid ((numE x.toNat).length = sizeN x.toNat) := numE_len _
  clear ho hb
  rw [HL.out]
  go_wp2_with fail
  go_ret
  exact ⟨rfl, HB.out⟩
end Go.Proofs.Ytkcohhldmhdcfaa
