/- Chapter 12: slices.IndexFunc, slices.ContainsFunc over files. -/
import Derived.Test.YtkcohhldmhdcfaaVeH
namespace Go.Proofs.Ytkcohhldmhdcfaa
open Go.RowKit

structure FirstF (p : Fil → Bool) (l : List Fil) (j : Nat) : Prop where
  le : j ≤ l.length
  off : ∀ i, i < j → p (fat l i) = false
  on : j < l.length → p (fat l j) = true
/-- Function g has a body. -/
def Bodied (g : FuncId) : Prop := ∀ (args : Array Value) (w : World), (callFunc g args).run Try.prog w = .ok (.enter g args) w
/-- What a function value that asks a file answers, from a world on. -/
def Asks (g : FuncId) (caps : Array Value) (p : Fil → Bool) (l : List Fil) (w : World) : Prop :=
  ∀ (f : Fil) (la : Option Addr) (lc : Nat) (ma : Option Addr) (mc : Nat) (x : World), f ∈ l → Below w.heap.size w x → Bytes (· < w.heap.size) x (.slice la f.least.length lc) f.least → Bytes (· < w.heap.size) x (.slice ma f.most.length mc) f.most →
    Calls Try.prog g (#[.agg #[.int .u64 f.num, .int .i64 f.size, .slice la f.least.length lc, .slice ma f.most.length mc, .int .i64 f.ents, .int .u64 f.mseq]] ++ caps) x fun e w' => e = .returned (.bool (p f)) ∧ Below x.heap.size x w'

set_option maxRecDepth 100000 in
set_option maxHeartbeats 4000000 in
theorem findex_any (F : Nat → Prop) (g : FuncId) (caps : Array Value) (p : Fil → Bool) (v : Value) (l : List Fil) (w : World) (h : Rw filK F w v l) (hfew : l.length ≤ 1000000) (hg : Asks g caps p l w) (hbd : Bodied g) :
    Calls Try.prog 105 #[v, .func (.func g) #[] caps] w fun e w' => ∃ j, FirstF p l j ∧ e = .returned (.int .i64 (if j < l.length then (j : Int) else -1)) ∧ Below w.heap.size w w' := by
  obtain ⟨xa, ca, rfl⟩ := h.isSlice
  have HA : Hid (Rw filK (· < w.heap.size) w (.slice xa l.length ca) l) := h.mono fun k hk _ => hk
  have HG := Lib.hid hg
  have HBD := Lib.hid hbd
  clear h hg hbd
  obtain ⟨n, hn⟩ : ∃ n, l.length = n := ⟨_, rfl⟩
  have HN := Lib.hid hn
  rw [hn] at HA hfew
  rw [hn]
  clear hn
  go_enter Try.func105, Try.ntmps105
  go_wp2_with fail
  go_loopw [8] (fun iv wr => ∃ (j : Nat), iv = .int .i64 (j : Int) ∧ j ≤ n ∧ Hid (∀ i, i < j → p (fat l i) = false) ∧ Hid (Below w.heap.size w wr)) (fun iv _ => n - (intOf iv).toNat)
  case atStart => exact ⟨0, rfl, by omega, (fun i hi => by omega), Below.refl _ _⟩
  case round =>
    obtain ⟨j, rfl, hj, HO, HW⟩ := hrel
    by_cases hlt : j < n
    · have t1 : (j : Int) < (n : Int) := by omega
      have t3 : 0 ≤ (j : Int) := by omega
      have hl1 : j < l.length := by rw [HN.out]; omega
      obtain ⟨ba, oa, capa, ea, hba, _, hca⟩ := fils_at HA.out (by omega)
      obtain ⟨vl, vm, hvl, hvm, _, hc6⟩ := hca j hl1
      injection ea with e1 e2 e3
      subst e1 e3
      clear e2 hca
      have HIN := Lib.hid (fat_mem hl1)
      obtain ⟨f, hf⟩ : ∃ f, fat l j = f := ⟨_, rfl⟩
      have HF := Lib.hid hf
      rw [hf] at hvl hvm hc6 HIN
      obtain ⟨la, lc, rfl⟩ := hvl.isSlice
      obtain ⟨ma, mc, rfl⟩ := hvm.isSlice
      have HVL := Lib.hid hvl
      have HVM := Lib.hid hvm
      have hc6 := hc6.keep HW.out hba
      obtain ⟨c0, c1, c2, c3, c4, c5⟩ := hc6
      have hbd : ∀ (args : Array Value) (w : World), (callFunc g args).run Try.prog w = .ok (.enter g args) w := HBD.out
      clear hvl hvm hl1 hf hba
      go_wp2_with fail
      clear hbd
      clear c0 c1 c2 c3 c4 c5
      refine Calls.mono (HG.out f la lc ma mc _ HIN.out HW.out (HVL.out.below HW.out) (HVM.out.below HW.out)) ?_
      rintro _ w2 ⟨rfl, hb⟩
      have HW2 : Hid (Below w.heap.size w w2) := HW.out.trans (hb.mono HW.out.size)
      clear hb HW HVL HVM HIN
      obtain ⟨r, hr⟩ : ∃ r, p f = r := ⟨_, rfl⟩
      have HR := Lib.hid hr
      rw [hr]
      clear hr
      cases r with
      | false =>
        go_wp2_with fail
        go_roundw
        · exact ⟨j + 1, by go_num, by omega, (fun i hi => by
            by_cases e0 : i = j
            · rw [e0, HF.out]; exact HR.out
            · exact HO.out i (by omega)), HW2.out⟩
        · simp only [intOf]; omega
      | true =>
        have HP : Hid (FirstF p l j) := ⟨by rw [HN.out]; omega, HO.out, fun _ => by rw [HF.out]; exact HR.out⟩
        have HE : Hid ((j : Int) = if j < n then (j : Int) else -1) := by show _ = _; rw [if_pos hlt]
        go_wp2_with fail
        go_ret
        exact ⟨j, HP.out, ret_int HE.out, HW2.out⟩
    · have t1 : ¬ (j : Int) < (n : Int) := by omega
      have hjn : j = n := by omega
      have HP : Hid (FirstF p l j) := ⟨by rw [HN.out]; omega, HO.out, fun h => by rw [HN.out] at h; omega⟩
      have HE : Hid ((-1 : Int) = if j < n then (j : Int) else -1) := by show _ = _; rw [if_neg hlt]
      clear hjn
      go_wp2_with fail
      go_ret
      exact ⟨j, HP.out, ret_int HE.out, HW.out⟩

theorem FirstF.any {p : Fil → Bool} {l : List Fil} {j : Nat} (h : FirstF p l j) : l.any p = decide (j < l.length) := by
  by_cases hj : j < l.length
  · rw [decide_eq_true hj, List.any_eq_true]
    exact ⟨_, fat_mem hj, h.on hj⟩
  · rw [decide_eq_false hj, List.any_eq_false]
    intro x hx
    obtain ⟨i, hi, rfl⟩ := List.mem_iff_getElem.1 hx
    rw [fat_eq hi, h.off i (by omega)]
    decide

set_option maxRecDepth 100000 in
theorem fcontains_any (F : Nat → Prop) (g : FuncId) (caps : Array Value) (p : Fil → Bool) (v : Value) (l : List Fil) (w : World) (h : Rw filK F w v l) (hfew : l.length ≤ 1000000) (hg : Asks g caps p l w) (hbd : Bodied g) :
    Calls Try.prog 75 #[v, .func (.func g) #[] caps] w fun e w' => e = .returned (.bool (l.any p)) ∧ Below w.heap.size w w' := by
  have HI := Lib.hid (findex_any F g caps p v l w h hfew hg hbd)
  obtain ⟨xa, ca, rfl⟩ := h.isSlice
  clear h hg
  go_enter Try.func75, Try.ntmps75
  go_wp2_with fail
  refine Calls.mono HI.out ?_
  rintro _ w2 ⟨j, hj, rfl, hb⟩
  have HB := Lib.hid hb
  have HA := Lib.hid hj.any
  clear hb hj HI
  by_cases hlt : j < l.length
  · have t1 : 0 ≤ (j : Int) := by omega
    rw [if_pos hlt]
    have HE : Hid (l.any p = true) := by show _ = _; rw [HA.out, decide_eq_true hlt]
    clear hlt HA
    go_wp2_with fail
    go_ret
    exact ⟨ret_bool HE.out.symm, HB.out⟩
  · rw [if_neg hlt]
    have HE : Hid (l.any p = false) := by show _ = _; rw [HA.out, decide_eq_false hlt]
    clear hlt HA
    go_wp2_with fail
    go_ret
    exact ⟨ret_bool HE.out.symm, HB.out⟩
end Go.Proofs.Ytkcohhldmhdcfaa
