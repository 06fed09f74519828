/- Chapter 14: bounds. -/
import Derived.Test.YtkcohhldmhdcfaaPkC
namespace Go.Proofs.Ytkcohhldmhdcfaa
open Go.RowKit

/-- The least and the greatest key of the first k files. -/
def leastTo (l : List Fil) : Nat → List UInt8
  | 0 => []
  | k + 1 => if k = 0 ∨ Ent.bcmp (fat l k).least (leastTo l k) < 0 then (fat l k).least else leastTo l k
def mostTo (l : List Fil) : Nat → List UInt8
  | 0 => []
  | k + 1 => if k = 0 ∨ 0 < Ent.bcmp (fat l k).most (mostTo l k) then (fat l k).most else mostTo l k
def leastOf (l : List Fil) : List UInt8 := leastTo l l.length
def mostOf (l : List Fil) : List UInt8 := mostTo l l.length

set_option maxRecDepth 100000 in
set_option maxHeartbeats 4000000 in
theorem bounds_any (F : Nat → Prop) (v : Value) (l : List Fil) (w : World) (h : Rw filK F w v l) (hfew : l.length ≤ 1000000) :
    Calls Try.prog 59 #[v] w fun e w' => ∃ r1 r2, e = .returned (.tuple #[r1, r2]) ∧ Bytes F w' r1 (leastOf l) ∧ Bytes F w' r2 (mostOf l) ∧ Below w.heap.size w w' := by
  obtain ⟨ra, rc, rfl⟩ := h.isSlice
  have HROW := Lib.hid h
  obtain ⟨n, hn⟩ : ∃ n, l.length = n := ⟨_, rfl⟩
  have HLN := Lib.hid hn
  rw [hn] at HROW hfew ⊢
  clear h hn
  go_enter Try.func59, Try.ntmps59
  go_wp2_with fail
  go_loopw [2, 3, 8] (fun lv mv kv wr => ∃ (k : Nat) (a1 a2 : Option Addr) (n1 n2 c1 c2 : Nat), lv = .slice a1 n1 c1 ∧ mv = .slice a2 n2 c2 ∧ kv = .int .i64 (k : Int) ∧ k ≤ n ∧ Hid (Bytes F wr (.slice a1 n1 c1) (leastTo l k)) ∧ Hid (Bytes F wr (.slice a2 n2 c2) (mostTo l k)) ∧ Hid (Below w.heap.size w wr)) (fun _ _ kv _ => n - (intOf kv).toNat)
  case atStart => exact ⟨0, none, none, 0, 0, 0, 0, rfl, rfl, rfl, by omega, Bytes.nil _ _, Bytes.nil _ _, Below.refl _ _⟩
  case round =>
    obtain ⟨k, a1, a2, n1, n2, c1, c2, rfl, rfl, rfl, hk, HL, HM, HB⟩ := hrel
    by_cases hkn : k < n
    · have t6 : (k : Int) < (n : Int) := by omega
      have t7 : 0 ≤ (k : Int) := by omega
      have hkl : k < l.length := by rw [HLN.out]; exact hkn
      obtain ⟨bf, of, capf, ef, _, hbf, hcf⟩ := fils_at HROW.out (by omega)
      obtain ⟨vl, vm, hvl, hvm, hwf, hc6⟩ := hcf k hkl
      injection ef with e1 e2 e3
      subst e1 e3
      clear e2 hcf
      have HLS : Hid (leastTo l (k + 1) = if k = 0 ∨ Ent.bcmp (fat l k).least (leastTo l k) < 0 then (fat l k).least else leastTo l k) := rfl
      have HMS : Hid (mostTo l (k + 1) = if k = 0 ∨ 0 < Ent.bcmp (fat l k).most (mostTo l k) then (fat l k).most else mostTo l k) := rfl
      obtain ⟨f, hf⟩ : ∃ f, fat l k = f := ⟨_, rfl⟩
      rw [hf] at hvl hvm hwf hc6 HLS HMS
      obtain ⟨ls, hls⟩ : ∃ f, leastTo l k = f := ⟨_, rfl⟩
      obtain ⟨ms, hms⟩ : ∃ f, mostTo l k = f := ⟨_, rfl⟩
      rw [hls] at HL HLS
      rw [hms] at HM HMS
      obtain ⟨fa, fc, rfl⟩ := hvl.isSlice
      obtain ⟨ga2, gc2, rfl⟩ := hvm.isSlice
      obtain ⟨c0, c1, c2, c3, c4, c5⟩ := hc6.keep HB.out hbf
      have HVL := Lib.hid (hvl.below HB.out)
      have HVM := Lib.hid (hvm.below HB.out)
      clear hvl hvm hwf hf hc6 hkl hls hms
      go_upto_region 4 with fail
      clear c0 c1 c2 c3 c4 c5
      refine wp_gen fun w4 hw4 => ?_
      have HE4 : Hid (Blk w4 wr.heap.size (filCells f (.slice fa f.least.length fc) (.slice ga2 f.most.length gc2)).toArray 42) := by rw [hw4]; exact Blk.at_new rfl rfl
      have HW4 : Hid (Below wr.heap.size wr w4) := by rw [hw4]; exact (Below.refl _ _).alloc (Nat.le_refl _) _
      clear hw4
      have HL4 := Lib.hid (HL.out.below HW4.out)
      have HM4 := Lib.hid (HM.out.below HW4.out)
      have HVL4 := Lib.hid (HVL.out.below HW4.out)
      have HVM4 := Lib.hid (HVM.out.below HW4.out)
      have HB4 : Hid (Below w.heap.size w w4) := HB.out.trans (HW4.out.mono HB.out.size)
      obtain ⟨c0, c1, c2, c3, c4, c5⟩ := C6.blk HE4.out
      clear HE4 HW4 HL HM HVL HVM HB
      generalize wr.heap.size = fb at *
      by_cases hk0 : k = 0
      · subst hk0
        have HR1 : Hid (leastTo l 1 = f.least) := by show _ = _; rw [HLS.out, if_pos (.inl rfl)]
        have HR2 : Hid (mostTo l 1 = f.most) := by show _ = _; rw [HMS.out, if_pos (.inl rfl)]
        go_wp2_with fail
        clear c0 c1 c2 c3 c4 c5
        go_roundw
        · exact ⟨1, _, _, _, _, _, _, rfl, rfl, by go_num, by omega, by rw [HR1.out]; exact HVL4.out, by rw [HR2.out]; exact HVM4.out, HB4.out⟩
        · simp only [intOf]; omega
      · have g0 : ((k : Int) == 0) = false := by simp; omega
        go_wp2_with fail
        refine Calls.mono (bytesCompare_any _ _ _ _ f.least ls w4 HVL4.out HL4.out) ?_
        rintro _ _ ⟨rfl, rfl⟩
        have HKL : Hid ((k : Nat) = 0 → False) := hk0
        by_cases hlt : Ent.bcmp f.least ls < 0
        · have HR1 : Hid (leastTo l (k + 1) = f.least) := by show _ = _; rw [HLS.out, if_pos (.inr hlt)]
          go_wp2_with fail
          refine Calls.mono (bytesCompare_any _ _ _ _ f.most ms _ HVM4.out HM4.out) ?_
          rintro _ _ ⟨rfl, rfl⟩
          by_cases hgt : 0 < Ent.bcmp f.most ms
          · have HR2 : Hid (mostTo l (k + 1) = f.most) := by show _ = _; rw [HMS.out, if_pos (.inr hgt)]
            go_wp2_with fail
            clear c0 c1 c2 c3 c4 c5
            go_roundw
            · exact ⟨k + 1, _, _, _, _, _, _, rfl, rfl, by go_num, by omega, by rw [HR1.out]; exact HVL4.out, by rw [HR2.out]; exact HVM4.out, HB4.out⟩
            · simp only [intOf]; omega
          · have HR2 : Hid (mostTo l (k + 1) = ms) := by show _ = _; rw [HMS.out, if_neg fun e => e.elim HKL.out hgt]
            go_wp2_with fail
            clear c0 c1 c2 c3 c4 c5
            go_roundw
            · exact ⟨k + 1, _, _, _, _, _, _, rfl, rfl, by go_num, by omega, by rw [HR1.out]; exact HVL4.out, by rw [HR2.out]; exact HM4.out, HB4.out⟩
            · simp only [intOf]; omega
        · have HR1 : Hid (leastTo l (k + 1) = ls) := by show _ = _; rw [HLS.out, if_neg fun e => e.elim HKL.out hlt]
          go_wp2_with fail
          refine Calls.mono (bytesCompare_any _ _ _ _ f.most ms _ HVM4.out HM4.out) ?_
          rintro _ _ ⟨rfl, rfl⟩
          by_cases hgt : 0 < Ent.bcmp f.most ms
          · have HR2 : Hid (mostTo l (k + 1) = f.most) := by show _ = _; rw [HMS.out, if_pos (.inr hgt)]
            go_wp2_with fail
            clear c0 c1 c2 c3 c4 c5
            go_roundw
            · exact ⟨k + 1, _, _, _, _, _, _, rfl, rfl, by go_num, by omega, by rw [HR1.out]; exact HL4.out, by rw [HR2.out]; exact HVM4.out, HB4.out⟩
            · simp only [intOf]; omega
          · have HR2 : Hid (mostTo l (k + 1) = ms) := by show _ = _; rw [HMS.out, if_neg fun e => e.elim HKL.out hgt]
            go_wp2_with fail
            clear c0 c1 c2 c3 c4 c5
            go_roundw
            · exact ⟨k + 1, _, _, _, _, _, _, rfl, rfl, by go_num, by omega, by rw [HR1.out]; exact HL4.out, by rw [HR2.out]; exact HM4.out, HB4.out⟩
            · simp only [intOf]; omega
    · have t6 : ¬ (k : Int) < (n : Int) := by omega
      have hkn' : k = n := by omega
      subst hkn'
      have HP : Hid (leastOf l = leastTo l k ∧ mostOf l = mostTo l k) := by unfold leastOf mostOf; rw [HLN.out]; exact ⟨rfl, rfl⟩
      go_wp2_with fail
      go_ret2
      exact ⟨_, _, rfl, by rw [HP.out.1]; exact HL.out, by rw [HP.out.2]; exact HM.out, HB.out⟩
end Go.Proofs.Ytkcohhldmhdcfaa
