/- kit.Ints at one list, read twice. -/
import Derived.Test.YtiofhmlmimbngaaIntakeG
namespace Go.Proofs.Ytiofhmlmimbngaa
open Go.RowKit

theorem ints_at {F : Nat → Prop} {w : World} {v : Value} {ns : List Nat} (h : Rw intK F w v ns) (hne : 0 < ns.length) :
    ∃ b off cap, v = .slice (some ⟨b, off, none⟩) ns.length cap ∧ ∀ i (hi : i < ns.length), w.cell? ⟨b, off + i, none⟩ = some (.int .i64 (ns[i] : Int)) := by
  obtain ⟨b, off, cap, e, _, _, _, _, hc⟩ := h.place hne
  refine ⟨b, off, cap, e, fun i hi => ?_⟩
  obtain ⟨es, he, hes⟩ := hc i hi
  have he' : es = [.int .i64 (ns[i] : Int)] := he
  subst he'
  have := hes 0 _ rfl
  rwa [show intK.sz = 1 from rfl, Nat.mul_one, Nat.add_zero] at this

theorem dn_more3 {w w1 : World} (h : ∃ n, w1 = w.drewN n) (k : Nat) : ∃ n, w1.drewN k = w.drewN n := by
  obtain ⟨n, e⟩ := h
  exact ⟨n + k, by rw [e, World.drewN_drewN]⟩

set_option maxRecDepth 100000 in
theorem ints_same (F G : Nat → Prop) (va vb : Value) (ns : List Nat) (w : World) (ha : Rw intK F w va ns) (hb : Rw intK G w vb ns) :
    Calls Try.prog 13 #[va, vb] w fun e w' => e = .returned (.bool true) ∧ ∃ n, w' = w.drewN n := by
  obtain ⟨aa, ca, rfl⟩ := ha.isSlice
  obtain ⟨ab, cb, rfl⟩ := hb.isSlice
  have hml := ha.len
  simp only [maxLen] at hml
  have HA := Lib.hid ha
  have HB := Lib.hid hb
  clear ha hb
  go_enter Try.func13, Try.ntmps13
  go_wp2_with fail
  go_loopw [5] (fun i wr => ∃ j : Nat, i = .int .i64 (j : Int) ∧ j ≤ ns.length ∧ Hid (∃ n, wr = w.drewN n)) (fun i _ => ns.length - (intOf i).toNat)
  case atStart => exact ⟨0, rfl, by omega, 0, rfl⟩
  case round =>
    obtain ⟨j, rfl, hj, HW⟩ := hrel
    by_cases hlt : j < ns.length
    · have HBr : Hid (Below w.heap.size w wr) := by obtain ⟨n, e⟩ := HW.out; rw [e]; exact ⟨rfl, rfl, rfl, Nat.le_refl _, fun _ _ => rfl⟩
      obtain ⟨ba, oa, ca', ea, hca⟩ := ints_at (HA.out.below HBr.out) (by omega)
      obtain ⟨bb, ob, cb', eb, hcb⟩ := ints_at (HB.out.below HBr.out) (by omega)
      injection ea with e1 e2 e3
      injection eb with e4 e5 e6
      subst e1 e3 e4 e6
      clear e2 e5
      have c0 := hca j hlt
      have d0 := hcb j hlt
      clear hca hcb
      generalize ns[j] = t at *
      go_wp2_with fail
      go_quiet (fail)
      go_wp2_with fail
      go_roundw
      · exact ⟨j + 1, by go_num, by omega, dn_more3 HW.out _⟩
      · simp only [intOf]; omega
    · obtain rfl : j = ns.length := by omega
      go_wp2_with fail
      go_ret
      exact ⟨rfl, HW.out⟩

theorem ints_lit {w : World} {b : Nat} {c : Array Value} (ns : List Nat) (hc : c = (ns.map fun (n : Nat) => Value.int .i64 (n : Int)).toArray) (h : Blk w b c 3) (hm : ns.length ≤ 1000) :
    Rw intK (fun k => k = b) w (.slice (some ⟨b, 0, none⟩) ns.length ns.length) ns := by
  subst hc
  have he : ∀ ns : List Nat, Els intK (fun k => k = b) w (ns.map fun (n : Nat) => Value.int .i64 (n : Int)) ns := by
    intro ns
    induction ns with
    | nil => exact rfl
    | cons i is ih => exact ⟨rfl, ih⟩
  refine ⟨_, ⟨_, _, rfl, Nat.le_refl _, by simp only [maxLen]; omega, by simp, (he ns).len, fun j u hj => ⟨_, rfl, rfl, ?_⟩⟩, he ns⟩
  rw [add_plain', Nat.zero_add]
  exact h.cell (by simpa using hj)
end Go.Proofs.Ytiofhmlmimbngaa
