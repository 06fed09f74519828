/- Things that came in, with what their slices weigh: the general part (as in OpenW). Chapters 12 and 14: versions and setups that came in. -/
import Derived.Test.YtkcohhldmhdcfaaVzLaw0
import Derived.Test.YtkcohhldmhdcfaaVzVeOa
import Derived.Test.YtkcohhldmhdcfaaVzDrawK
import Derived.Test.YtkcohhldmhdcfaaVzVeX
import Derived.Deep.Slices
import Derived.SizedLaws
import Derived.Lib.SmallJoins
namespace Go.Proofs.Ytkcohhldmhdcfaa
open Go.ChangeShapes Go.WideShapes Go.ChangeAt Go.RowKit

section
variable {H : Type} {enc : TypeId × Value → H} {W : World} {base : Nat} {sp : Nat → Bool} {hd : Bool} {α : Type}

/-- A slice of bytes that was read; what its datum weighs. -/
theorem bytes_of_trod {fuel : Nat} {v : Value} {x : DataW H × List MemPlace} (hf : DataW.trod enc Try.prog W base sp hd fuel 34 [v] = some x) :
    ∃ bs, Bytes (· < W.heap.size) W v bs ∧ (bs = [] ∨ ∃ n ∈ x.1.weights Try.prog 34, bs.length ≤ n) := by
  rcases open_ints Try.underlying34 Try.underlying5 (by kernel_rfl) hf with ⟨hcs, hx⟩ | ⟨a, len, cap, zs, hcs, _, hl, hm, hz, hx, hcell, hwz⟩
  · obtain ⟨rfl⟩ := hcs
    exact ⟨[], Bytes.nil _ _, .inl rfl⟩
  · obtain ⟨rfl⟩ := hcs
    have hlz : len ≤ zs.length := by rw [hz]; split <;> omega
    have hlen : ((zs.take len).map fun z => UInt8.ofNat z.toNat).length = len := by simp; omega
    refine ⟨(zs.take len).map fun z => UInt8.ofNat z.toNat, ⟨some a, cap, by rw [hlen], by omega, hm, by simp, by simp [u8s], fun j u hj => ?_⟩, .inr ?_⟩
    · have hj2 : j < len := by
        rcases Nat.lt_or_ge j len with h | h
        · exact h
        · rw [List.getElem?_eq_none (by simp [u8s]; omega)] at hj; cases hj
      have hc := hcell j (by omega)
      have hb := bounds_u8 (hwz (zs.getD j 0) (by simp [List.getD, (show j < zs.length by omega)]))
      have hu : u = .int .u8 (zs.getD j 0) := by
        simp [u8s, hj2, (show j < zs.length by omega)] at hj
        rw [← hj]
        congr 1
        simp [List.getD, (show j < zs.length by omega)] at hb ⊢
        omega
      refine ⟨a, rfl, ?_, by rw [hu]; exact hc⟩
      have := World.block_lt_of_cell? _ _ hc
      rw [Addr.add_block] at this
      exact this
    · rw [hx, hlen]
      have hbo : (Try.prog.bytesOf 5) = 1 := by kernel_rfl
      refine ⟨_, by simp only [DataW.weights, Try.underlying34]; exact List.mem_cons_self .., ?_⟩
      rw [hbo]
      simp [lits]
      omega

theorem weights_all {P : Program} {e : TypeId} {n : Nat} {d : DataW H} : ∀ {l : List (DataW H)}, d ∈ l → n ∈ d.weights P e → n ∈ DataW.weightsAll P e l
  | a :: l, hd, hn => by
    rw [DataW.weightsAll]
    rcases List.mem_cons.1 hd with rfl | h
    · exact List.mem_append_left _ hn
    · exact List.mem_append_right _ (weights_all h hn)
  | [], hd, _ => by simp at hd

theorem els_uptoQ {K : Kind α} {Q : α → Prop} (a : Addr) (m : Nat) (h : ∀ i, i < m → ∃ (es : List Value) (x : α), K.R (· < W.heap.size) W es x ∧ Q x ∧ ∀ j, j < K.sz → W.cell? (a.add (i * K.sz + j)) = es[j]?) :
    ∃ cs xs, xs.length = m ∧ Els K (· < W.heap.size) W cs xs ∧ (∀ x ∈ xs, Q x) ∧ ∀ j, j < m * K.sz → W.cell? (a.add j) = cs[j]? := by
  induction m with
  | zero => exact ⟨[], [], rfl, rfl, fun _ h => (by cases h), fun j hj => by omega⟩
  | succ m ih =>
    obtain ⟨cs, xs, h1, h2, hq, h3⟩ := ih fun i hi => h i (by omega)
    obtain ⟨es, x, g1, gq, g2⟩ := h m (by omega)
    have hcl := h2.len
    rw [h1] at hcl
    refine ⟨cs ++ es, xs ++ [x], by simp [h1], (Els.single g1).append h2, fun y hy => ?_, fun j hj => ?_⟩
    · rcases List.mem_append.1 hy with hy | hy
      · exact hq y hy
      · rw [List.mem_singleton.1 hy]; exact gq
    · by_cases hjm : j < m * K.sz
      · rw [h3 j hjm, List.getElem?_append_left (by omega)]
      · rw [List.getElem?_append_right (by omega), hcl]
        have hj2 : j - m * K.sz < K.sz := by rw [Nat.add_mul] at hj; omega
        rw [← g2 _ hj2, show m * K.sz + (j - m * K.sz) = j by omega]

/-- Whoever reads a thing of type t, all that it weighs being in reach, reads one of K with Q. -/
def OpensW (enc : TypeId × Value → H) (W : World) (base : Nat) (sp : Nat → Bool) (hd : Bool) (K : Kind α) (Q : α → Prop) (t : TypeId) : Prop :=
  ∀ (fuel : Nat) (cs : List Value) (x : DataW H × List MemPlace), DataW.trod enc Try.prog W base sp hd fuel t cs = some x → (∀ n ∈ x.1.weights Try.prog t, n ≤ reachBytes) → ∃ a, K.R (· < W.heap.size) W cs a ∧ Q a

theorem opensW_rows {K : Kind α} {Q : α → Prop} {t e : TypeId} (ht : Try.prog.underlying t = some (.slice e)) (hc : Try.prog.cellsOf e = K.sz) {nb : Nat} (hb : Try.prog.bytesOf e = nb) (hb0 : 0 < nb) (ho : OpensW enc W base sp hd K Q e) :
    OpensW enc W base sp hd (rowK K) (fun l => l.length ≤ reachBytes ∧ ∀ x ∈ l, Q x) t := by
  intro fuel cs x hf hw
  rcases Go.Deep.open_slice ht hf with ⟨rfl, _⟩ | ⟨a, len, cap, m, n, D, Pl, rfl, _, hl, hm, hmm, hx, hel⟩
  · exact ⟨[], ⟨_, rfl, Rw.nil _ _ _⟩, Nat.zero_le _, fun _ h => by cases h⟩
  · have hlm : len ≤ m := by rw [hmm]; split <;> omega
    have hd' : x.1 = .slice ((List.range len).map D) ((List.range (m - len)).map fun j => D (len + j)) := congrArg Prod.fst hx
    obtain ⟨cs, xs, h1, h2, hq, h3⟩ := els_uptoQ (K := K) (Q := Q) (W := W) a len fun i hi => by
      obtain ⟨cs', g1, g2⟩ := hel i (by omega)
      obtain ⟨x, g3, gq⟩ := ho _ _ _ g2 fun n hn => hw n (by
        rw [hd']
        simp only [DataW.weights, ht]
        refine List.mem_cons_of_mem _ (List.mem_append_left _ (weights_all (d := D i) ?_ hn))
        exact List.mem_map.2 ⟨i, List.mem_range.2 hi, rfl⟩)
      refine ⟨cs', x, g3, gq, fun j hj => ?_⟩
      rw [hc] at g1
      obtain ⟨_, _, g4⟩ := World.cells?_some g1
      have := g4 j hj
      rwa [Addr.add_add] at this
    have hcl := h2.len
    rw [h1] at hcl
    have hlw : len ≤ reachBytes := by
      have := hw ((((List.range len).map D).length + ((List.range (m - len)).map fun j => D (len + j)).length) * Try.prog.bytesOf e) (by
        rw [hd']
        simp only [DataW.weights, ht]
        exact List.mem_cons_self ..)
      simp only [List.length_map, List.length_range] at this
      have h5 : len * 1 ≤ (len + (m - len)) * Try.prog.bytesOf e := Nat.mul_le_mul (by omega) (by omega)
      omega
    refine ⟨xs, ⟨_, rfl, cs, ⟨some a, cap, by rw [h1], by omega, hm, by simp, by rw [h1]; exact hcl, fun j u hj => ?_⟩, h2⟩, by rw [h1]; exact hlw, hq⟩
    have hj2 : j < len * K.sz := by
      rcases Nat.lt_or_ge j (len * K.sz) with h | h
      · exact h
      · rw [List.getElem?_eq_none (by omega)] at hj; cases hj
    have hcc := h3 j hj2
    rw [hj] at hcc
    refine ⟨a, rfl, ?_, hcc⟩
    have := World.block_lt_of_cell? _ _ hcc
    rw [Addr.add_block] at this
    exact this

end
end Go.Proofs.Ytkcohhldmhdcfaa

namespace Go.Proofs.Ytkcohhldmhdcfaa
open Go.ChangeShapes Go.WideShapes Go.ChangeAt Go.RowKit

section
variable {H : Type} {enc : TypeId × Value → H} {W : World} {base : Nat} {sp : Nat → Bool} {hd : Bool}
theorem trod_struct6 {P : Program} {t : TypeId} {f0 f1 f2 f3 f4 f5 : Field} {fuel : Nat} {cs : List Value} {x : DataW H × List MemPlace} (ht : P.underlying t = some (.struct #[f0, f1, f2, f3, f4, f5])) (h : DataW.trod enc P W base sp hd fuel t cs = some x) :
    ∃ (y0 y1 y2 y3 y4 y5 : DataW H × List MemPlace) (n : Nat), x.1 = .agg [y0.1, y1.1, y2.1, y3.1, y4.1, y5.1] ∧ cs.length = P.cellsOf t ∧ DataW.trod enc P W base sp hd n f0.type ((cs.drop f0.offset).take (P.cellsOf f0.type)) = some y0 ∧
      DataW.trod enc P W base sp hd n f1.type ((cs.drop f1.offset).take (P.cellsOf f1.type)) = some y1 ∧ DataW.trod enc P W base sp hd n f2.type ((cs.drop f2.offset).take (P.cellsOf f2.type)) = some y2 ∧
      DataW.trod enc P W base sp hd n f3.type ((cs.drop f3.offset).take (P.cellsOf f3.type)) = some y3 ∧ DataW.trod enc P W base sp hd n f4.type ((cs.drop f4.offset).take (P.cellsOf f4.type)) = some y4 ∧ DataW.trod enc P W base sp hd n f5.type ((cs.drop f5.offset).take (P.cellsOf f5.type)) = some y5 := by
  obtain ⟨xs, n, _, rfl, hl, hlen, hf⟩ := DataW.trod_struct ht h
  match xs, hlen with
  | [y0, y1, y2, y3, y4, y5], _ => exact ⟨y0, y1, y2, y3, y4, y5, n, by simp, hl, by simpa using hf 0 f0 rfl, by simpa using hf 1 f1 rfl, by simpa using hf 2 f2 rfl, by simpa using hf 3 f3 rfl, by simpa using hf 4 f4 rfl, by simpa using hf 5 f5 rfl⟩
/-- A file's keys are in reach. -/
def Fil.near (f : Fil) : Prop := f.least.length ≤ reachBytes ∧ f.most.length ≤ reachBytes
theorem u64_wf {n : Int} (h : (Lit.int .u64 n).wf = true) : u64In n := by
  have h1 := bounds_u64 h
  exact ⟨h1.1, by omega⟩
theorem i64_wf {n : Int} (h : (Lit.int .i64 n).wf = true) : i64In n := bounds_i64 h
set_option maxRecDepth 100000 in
theorem opensW_fil : OpensW enc W base sp hd filK Fil.near 42 := by
  intro fuel cs x hf hw
  obtain ⟨y0, y1, y2, y3, y4, y5, n, hx, hl, h0, h1, h2, h3, h4, h5⟩ := trod_struct6 Try.underlying42 hf
  have hc : Try.prog.cellsOf 42 = 6 := by kernel_rfl
  have hc1 : Try.prog.cellsOf 34 = 1 := by kernel_rfl
  have hc3 : Try.prog.cellsOf 23 = 1 := by kernel_rfl
  have hc4 : Try.prog.cellsOf 3 = 1 := by kernel_rfl
  rw [hc] at hl
  match cs, hl with
  | [c0, c1, c2, c3, c4, c5], _ =>
    simp only [List.drop_zero, List.drop_succ_cons, hc1, hc3, hc4, List.take_succ_cons, List.take_zero] at h0 h1 h2 h3 h4 h5
    obtain ⟨i0, e0, _, g0⟩ := DataW.trod_int Try.underlying23 h0
    obtain ⟨i1, e1, _, g1⟩ := DataW.trod_int Try.underlying3 h1
    obtain ⟨i4, e4, _, g4⟩ := DataW.trod_int Try.underlying3 h4
    obtain ⟨i5, e5, _, g5⟩ := DataW.trod_int Try.underlying23 h5
    obtain ⟨rfl⟩ := e0
    obtain ⟨rfl⟩ := e1
    obtain ⟨rfl⟩ := e4
    obtain ⟨rfl⟩ := e5
    obtain ⟨ks, hk, hkw⟩ := bytes_of_trod h2
    obtain ⟨vs, hv, hvw⟩ := bytes_of_trod h3
    have hall : ∀ n, (n ∈ y2.1.weights Try.prog 34 ∨ n ∈ y3.1.weights Try.prog 34) → n ≤ reachBytes := fun n hn => hw n (by
      rw [hx]
      simp only [DataW.weights, Try.underlying42]
      simp only [List.map_cons, List.map_nil, DataW.weightsEach, List.append_nil, List.mem_append]
      rcases hn with hn | hn
      · exact .inr (.inr (.inl hn))
      · exact .inr (.inr (.inr (.inl hn))))
    refine ⟨⟨i0, i1, ks, vs, i4, i5⟩, ⟨c2, c3, rfl, hk, hv, u64_wf g0, i64_wf g1, i64_wf g4, u64_wf g5⟩, ?_, ?_⟩
    · rcases hkw with rfl | ⟨n, hn, hle⟩
      · exact Nat.zero_le _
      · exact Nat.le_trans hle (hall n (.inl hn))
    · rcases hvw with rfl | ⟨n, hn, hle⟩
      · exact Nat.zero_le _
      · exact Nat.le_trans hle (hall n (.inr hn))
/-- What a version that came in weighs. -/
def Ver.near (v : Ver) : Prop := v.levels.length ≤ reachBytes ∧ ∀ l ∈ v.levels, l.length ≤ reachBytes ∧ ∀ f ∈ l, Fil.near f
end
end Go.Proofs.Ytkcohhldmhdcfaa
