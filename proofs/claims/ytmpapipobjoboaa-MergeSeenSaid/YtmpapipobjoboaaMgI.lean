/- Merge: container/heap over a merger's heads: Init, Fix, Pop. -/
import Derived.Test.YtmpapipobjoboaaMgD
namespace Go.Proofs.Ytmpapipobjoboaa
open Go.RowKit

section
variable {B m : Nat} {F : Nat → Prop} {w w' : World} {v : Value} {l : List Hd}

theorem meth_len_at (h : Hv B F w m v l) : ∃ a c, v = .slice a l.length c := h.own.isSlice

theorem hlen_at (a : Option Addr) (n c : Nat) (w : World) : Calls Try.prog 101 #[.slice a n c] w fun x w' => x = .returned (.int .i64 (n : Int)) ∧ w = w' :=
  (hlen_any a n c w).mono fun _ _ ⟨h1, h2⟩ => ⟨h1, h2.symm⟩

def HeapPost (B : Nat) (F : Nat → Prop) (m : Nat) (v : Value) (l : List Hd) (w : World) (x : Ending) (w' : World) : Prop :=
  ∃ l', x = .returned (.tuple #[]) ∧ Hv B F w' m v l' ∧ l'.Perm l ∧ HeapFrom l' l'.length 0 ∧ Wrote (fun k => v.ownBlock = some k) w w'

theorem heap_post {l' : List Hd} {x : Value} {n : Nat} (hn : n = l.length) (hv : x = v) (h : Hv B F w' m v l') (hp : l'.Perm l) (hh : HeapFrom l' n 0) (hw : Wrote (fun k => v.ownBlock = some k) w w') : HeapPost B F m x l w (.returned (.tuple #[])) w' := by
  subst hv; exact ⟨l', rfl, h, hp, by rw [hp.length_eq, ← hn]; exact hh, hw⟩

set_option maxRecDepth 100000 in
set_option maxHeartbeats 1000000 in
theorem init_any (h : Hv B F w m v l) (hlen : l.length ≤ 1000000) (hne : ∀ x ∈ l, x.l ≠ []) :
    Calls Try.prog 56 #[.iface 82 (.pointer (some ⟨m, 0, none⟩))] w (HeapPost B F m v l w) := by
  obtain ⟨a, c, rfl⟩ := h.own.isSlice
  have HH := Lib.hid h
  have HNE := Lib.hid hne
  have hm := meth_len h.cell
  obtain ⟨n, hnn⟩ : ∃ n, n = l.length := ⟨_, rfl⟩
  rw [← hnn] at HH hm
  have hn1 : n ≤ 1000000 := by omega
  have HN := Lib.hid hnn
  clear h hne hlen hnn
  go_enter Try.func56, Try.ntmps56
  go_wp2_with fail
  refine Calls.mono (hlen_at a n c _) ?_
  rintro e w1 ⟨rfl, rfl⟩
  clear hm
  go_wp2_with fail
  go_loopw [3] (fun s wr => ∃ (k : Nat) (l' : List Hd), s = .int .i64 ((k : Int) - 1) ∧ k ≤ 1000000 ∧ Hid (Hv B F wr m (.slice a n c) l') ∧ Hid (l'.Perm l ∧ HeapFrom l' n k) ∧ Hid (Wrote (fun k => (Value.slice a n c).ownBlock = some k) w wr)) (fun s _ => (intOf s + 1).toNat)
  case atStart => exact ⟨n / 2, l, by go_num, by omega, HH.out, ⟨List.Perm.refl _, HeapFrom.half _ _ _ (by omega)⟩, Wrote.of_below (Below.refl _ _)⟩
  case round =>
    obtain ⟨k, l', rfl, h1, HV, HS, HW⟩ := hrel
    by_cases hk : 1 ≤ k
    · have t1 : 0 ≤ (k : Int) - 1 := by omega
      go_wp2_with fail
      refine Calls.mono (down_any HV.out (by have := HS.out.1.length_eq; have := HN.out; omega) (fun x hx => HNE.out x (HS.out.1.mem_iff.1 hx)) (k - 1) n _ _ (by omega) rfl (by have := HS.out.1.length_eq; have := HN.out; omega) (by omega) (by rw [show k - 1 + 1 = k by omega]; exact HS.out.2)) ?_
      rintro e w2 ⟨l2, b, rfl, g1, g2, g3, _, _, g4⟩
      have HV2 := Lib.hid g1
      have HS2 := Lib.hid (And.intro (g2.trans HS.out.1) g3)
      have HW2 := Lib.hid (HW.out.trans g4)
      clear g1 g2 g3 g4
      go_wp2_with fail
      go_roundw
      · exact ⟨k - 1, l2, int_eq (by omega), by omega, HV2.out, HS2.out, HW2.out⟩
      · simp only [intOf]; omega
    · have t1 : ¬ 0 ≤ (k : Int) - 1 := by omega
      obtain rfl : k = 0 := by omega
      go_wp2_with fail
      go_end0
      exact heap_post HN.out (by rw [HN.out]) HV.out HS.out.1 HS.out.2 HW.out

set_option maxRecDepth 100000 in
set_option maxHeartbeats 1000000 in
theorem fix_any (h : Hv B F w m v l) (hlen : l.length ≤ 1000000) (hne : ∀ x ∈ l, x.l ≠ []) (hp : HeapFrom l l.length 1) :
    Calls Try.prog 79 #[.iface 82 (.pointer (some ⟨m, 0, none⟩)), .int .i64 0] w (HeapPost B F m v l w) := by
  obtain ⟨a, c, rfl⟩ := h.own.isSlice
  have HH := Lib.hid h
  have HNE := Lib.hid hne
  have HP := Lib.hid hp
  have hm := meth_len h.cell
  obtain ⟨n, hnn⟩ : ∃ n, n = l.length := ⟨_, rfl⟩
  rw [← hnn] at HH hm
  have hn1 : n ≤ 1000000 := by omega
  have HN := Lib.hid hnn
  clear h hne hlen hnn hp
  go_enter Try.func79, Try.ntmps79
  go_wp2_with fail
  refine Calls.mono (hlen_at a n c _) ?_
  rintro e w1 ⟨rfl, rfl⟩
  clear hm
  go_wp2_with fail
  refine Calls.mono (down_any HH.out (by have := HN.out; omega) HNE.out 0 n _ _ rfl rfl (by have := HN.out; omega) (by omega) (by rw [HN.out]; exact HP.out)) ?_
  rintro e w2 ⟨l2, b, rfl, g1, g2, g3, _, _, g4⟩
  have HV2 := Lib.hid g1
  have HS2 := Lib.hid (And.intro g2 g3)
  have HW2 := Lib.hid g4
  have HD : Hid (HeapPost B F m (.slice a l.length c) l w (.returned (.tuple #[])) w2) := heap_post HN.out (by rw [HN.out]) HV2.out HS2.out.1 HS2.out.2 HW2.out
  clear g1 g2 g3 g4
  cases b with
  | true =>
    go_wp2_with fail
    go_end0
    exact HD.out
  | false =>
    go_wp2_with fail
    refine Calls.mono (up0_any _ _) ?_
    rintro e w3 ⟨rfl, rfl⟩
    go_wp2_with fail
    go_end0
    exact HD.out
end
end Go.Proofs.Ytmpapipobjoboaa
