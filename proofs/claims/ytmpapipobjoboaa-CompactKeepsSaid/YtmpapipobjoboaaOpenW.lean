/- Things that came in, with what their slices weigh. -/
import Derived.Test.YtmpapipobjoboaaLaw0
import Derived.Test.YtmpapipobjoboaaEnt
import Derived.Deep.Slices
import Derived.SizedLaws
import Derived.Lib.SmallJoins
namespace Go.Proofs.Ytmpapipobjoboaa
open Go.ChangeShapes Go.WideShapes Go.ChangeAt Go.RowKit

section
variable {H : Type} {enc : TypeId × Value → H} {W : World} {base : Nat} {sp : Nat → Bool} {hd : Bool} {α : Type}

/-- A slice of bytes that was read; what its datum weighs. -/
theorem bytes_of_trod {fuel : Nat} {v : Value} {x : DataW H × List MemPlace} (hf : DataW.trod enc Try.prog W base sp hd fuel 26 [v] = some x) :
    ∃ bs, Bytes (· < W.heap.size) W v bs ∧ (bs = [] ∨ ∃ n ∈ x.1.weights Try.prog 26, bs.length ≤ n) := by
  rcases open_ints Try.underlying26 Try.underlying5 (by kernel_rfl) hf with ⟨hcs, hx⟩ | ⟨a, len, cap, zs, hcs, _, hl, hm, hz, hx, hcell, hwz⟩
  · obtain ⟨rfl⟩ := hcs
    exact ⟨[], Bytes.nil _ _, .inl rfl⟩
  · obtain ⟨rfl⟩ := hcs
    have hlz : len ≤ zs.length := by rw [hz]; split <;> omega
    have hlen : ((zs.take len).map fun z => UInt8.ofNat z.toNat).length = len := by simp; omega
    refine ⟨(zs.take len).map fun z => UInt8.ofNat z.toNat, ⟨some a, cap, by rw [hlen], by omega, hm, by simp, by simp [u8s], fun j u hj => ?_⟩, .inr ?_⟩
    · have hj2 : j < len := by
        rcases Nat.lt_or_ge j len with h | h
        · exact h
        · rw [List.getElem?_eq_none (by simp [u8s]; omega)] at hj; cases hj
      have hc := hcell j (by omega)
      have hb := bounds_u8 (hwz (zs.getD j 0) (by simp [List.getD, (show j < zs.length by omega)]))
      have hu : u = .int .u8 (zs.getD j 0) := by
        simp [u8s, hj2, (show j < zs.length by omega)] at hj
        rw [← hj]
        congr 1
        simp [List.getD, (show j < zs.length by omega)] at hb ⊢
        omega
      refine ⟨a, rfl, ?_, by rw [hu]; exact hc⟩
      have := World.block_lt_of_cell? _ _ hc
      rw [Addr.add_block] at this
      exact this
    · rw [hx, hlen]
      have hbo : (Try.prog.bytesOf 5) = 1 := by kernel_rfl
      refine ⟨_, by simp only [DataW.weights, Try.underlying26]; exact List.mem_cons_self .., ?_⟩
      rw [hbo]
      simp [lits]
      omega

theorem weights_all {P : Program} {e : TypeId} {n : Nat} {d : DataW H} : ∀ {l : List (DataW H)}, d ∈ l → n ∈ d.weights P e → n ∈ DataW.weightsAll P e l
  | a :: l, hd, hn => by
    rw [DataW.weightsAll]
    rcases List.mem_cons.1 hd with rfl | h
    · exact List.mem_append_left _ hn
    · exact List.mem_append_right _ (weights_all h hn)
  | [], hd, _ => by simp at hd


theorem els_uptoQ {K : Kind α} {Q : α → Prop} (a : Addr) (m : Nat) (h : ∀ i, i < m → ∃ (es : List Value) (x : α), K.R (· < W.heap.size) W es x ∧ Q x ∧ ∀ j, j < K.sz → W.cell? (a.add (i * K.sz + j)) = es[j]?) :
    ∃ cs xs, xs.length = m ∧ Els K (· < W.heap.size) W cs xs ∧ (∀ x ∈ xs, Q x) ∧ ∀ j, j < m * K.sz → W.cell? (a.add j) = cs[j]? := by
  induction m with
  | zero => exact ⟨[], [], rfl, rfl, fun _ h => (by cases h), fun j hj => by omega⟩
  | succ m ih =>
    obtain ⟨cs, xs, h1, h2, hq, h3⟩ := ih fun i hi => h i (by omega)
    obtain ⟨es, x, g1, gq, g2⟩ := h m (by omega)
    have hcl := h2.len
    rw [h1] at hcl
    refine ⟨cs ++ es, xs ++ [x], by simp [h1], (Els.single g1).append h2, fun y hy => ?_, fun j hj => ?_⟩
    · rcases List.mem_append.1 hy with hy | hy
      · exact hq y hy
      · rw [List.mem_singleton.1 hy]; exact gq
    · by_cases hjm : j < m * K.sz
      · rw [h3 j hjm, List.getElem?_append_left (by omega)]
      · rw [List.getElem?_append_right (by omega), hcl]
        have hj2 : j - m * K.sz < K.sz := by rw [Nat.add_mul] at hj; omega
        rw [← g2 _ hj2, show m * K.sz + (j - m * K.sz) = j by omega]

/-- Whoever reads a thing of type t, all that it weighs being in reach, reads one of K with Q. -/
def OpensW (enc : TypeId × Value → H) (W : World) (base : Nat) (sp : Nat → Bool) (hd : Bool) (K : Kind α) (Q : α → Prop) (t : TypeId) : Prop :=
  ∀ (fuel : Nat) (cs : List Value) (x : DataW H × List MemPlace), DataW.trod enc Try.prog W base sp hd fuel t cs = some x → (∀ n ∈ x.1.weights Try.prog t, n ≤ reachBytes) → ∃ a, K.R (· < W.heap.size) W cs a ∧ Q a

theorem opensW_rows {K : Kind α} {Q : α → Prop} {t e : TypeId} (ht : Try.prog.underlying t = some (.slice e)) (hc : Try.prog.cellsOf e = K.sz) {nb : Nat} (hb : Try.prog.bytesOf e = nb) (hb0 : 0 < nb) (ho : OpensW enc W base sp hd K Q e) :
    OpensW enc W base sp hd (rowK K) (fun l => l.length ≤ reachBytes ∧ ∀ x ∈ l, Q x) t := by
  intro fuel cs x hf hw
  rcases Go.Deep.open_slice ht hf with ⟨rfl, _⟩ | ⟨a, len, cap, m, n, D, Pl, rfl, _, hl, hm, hmm, hx, hel⟩
  · exact ⟨[], ⟨_, rfl, Rw.nil _ _ _⟩, Nat.zero_le _, fun _ h => by cases h⟩
  · have hlm : len ≤ m := by rw [hmm]; split <;> omega
    have hd' : x.1 = .slice ((List.range len).map D) ((List.range (m - len)).map fun j => D (len + j)) := congrArg Prod.fst hx
    obtain ⟨cs, xs, h1, h2, hq, h3⟩ := els_uptoQ (K := K) (Q := Q) (W := W) a len fun i hi => by
      obtain ⟨cs', g1, g2⟩ := hel i (by omega)
      obtain ⟨x, g3, gq⟩ := ho _ _ _ g2 fun n hn => hw n (by
        rw [hd']
        simp only [DataW.weights, ht]
        refine List.mem_cons_of_mem _ (List.mem_append_left _ (weights_all (d := D i) ?_ hn))
        exact List.mem_map.2 ⟨i, List.mem_range.2 hi, rfl⟩)
      refine ⟨cs', x, g3, gq, fun j hj => ?_⟩
      rw [hc] at g1
      obtain ⟨_, _, g4⟩ := World.cells?_some g1
      have := g4 j hj
      rwa [Addr.add_add] at this
    have hcl := h2.len
    rw [h1] at hcl
    have hlw : len ≤ reachBytes := by
      have := hw ((((List.range len).map D).length + ((List.range (m - len)).map fun j => D (len + j)).length) * Try.prog.bytesOf e) (by
        rw [hd']
        simp only [DataW.weights, ht]
        exact List.mem_cons_self ..)
      simp only [List.length_map, List.length_range] at this
      have h5 : len * 1 ≤ (len + (m - len)) * Try.prog.bytesOf e := Nat.mul_le_mul (by omega) (by omega)
      omega
    refine ⟨xs, ⟨_, rfl, cs, ⟨some a, cap, by rw [h1], by omega, hm, by simp, by rw [h1]; exact hcl, fun j u hj => ?_⟩, h2⟩, by rw [h1]; exact hlw, hq⟩
    have hj2 : j < len * K.sz := by
      rcases Nat.lt_or_ge j (len * K.sz) with h | h
      · exact h
      · rw [List.getElem?_eq_none (by omega)] at hj; cases hj
    have hcc := h3 j hj2
    rw [hj] at hcc
    refine ⟨a, rfl, ?_, hcc⟩
    have := World.block_lt_of_cell? _ _ hcc
    rw [Addr.add_block] at this
    exact this

/-- Key and value are in reach. -/
def Ent.near (e : Ent) : Prop := e.key.length ≤ reachBytes ∧ e.value.length ≤ reachBytes

set_option maxRecDepth 100000 in
theorem opensW_entry : OpensW enc W base sp hd entK Ent.near 29 := by
  intro fuel cs x hf hw
  obtain ⟨y0, y1, y2, y3, n, hx, hl, h0, h1, h2, h3⟩ := Go.Joins.trod_struct4 Try.underlying29 hf
  have hc : Try.prog.cellsOf 29 = 4 := by kernel_rfl
  have hc1 : Try.prog.cellsOf 26 = 1 := by kernel_rfl
  have hc3 : Try.prog.cellsOf 27 = 1 := by kernel_rfl
  have hc4 : Try.prog.cellsOf 3 = 1 := by kernel_rfl
  rw [hc] at hl
  match cs, hl with
  | [c0, c1, c2, c3], _ =>
    simp only [List.drop_zero, List.drop_succ_cons, hc1, hc3, hc4, List.take_succ_cons, List.take_zero] at h0 h1 h2 h3
    obtain ⟨i1, e1, _, _⟩ := DataW.trod_int Try.underlying27 h1
    obtain ⟨i2, e2, _, _⟩ := DataW.trod_int Try.underlying3 h2
    obtain ⟨rfl⟩ := e1
    obtain ⟨rfl⟩ := e2
    obtain ⟨ks, hk, hkw⟩ := bytes_of_trod h0
    obtain ⟨vs, hv, hvw⟩ := bytes_of_trod h3
    have hall : ∀ n, (n ∈ y0.1.weights Try.prog 26 ∨ n ∈ y3.1.weights Try.prog 26) → n ≤ reachBytes := fun n hn => hw n (by
      rw [hx]
      simp only [DataW.weights, Try.underlying29]
      simp only [List.map_cons, List.map_nil, DataW.weightsEach, List.append_nil, List.mem_append]
      rcases hn with hn | hn
      · exact .inl hn
      · exact .inr (.inr (.inr hn)))
    refine ⟨⟨ks, i1, i2, vs⟩, ⟨c0, c3, rfl, hk, hv⟩, ?_, ?_⟩
    · rcases hkw with rfl | ⟨n, hn, hle⟩
      · exact Nat.zero_le _
      · exact Nat.le_trans hle (hall n (.inl hn))
    · rcases hvw with rfl | ⟨n, hn, hle⟩
      · exact Nat.zero_le _
      · exact Nat.le_trans hle (hall n (.inr hn))

theorem opensW_entries : OpensW enc W base sp hd (rowK entK) (fun l => l.length ≤ reachBytes ∧ ∀ e ∈ l, Ent.near e) 31 := opensW_rows Try.underlying31 (by kernel_rfl) (nb := 64) (by kernel_rfl) (by decide) opensW_entry

/-- A slice of entries that came in. -/
theorem open_entries {r : Reach} {b0 : Nat} {v : Value} {d : DataW H} {ps : List MemPlace} (hv : Value.okWide Try.prog W r b0 31 v) (h : DataW.Trod enc Try.prog W base sp hd 31 v d ps)
    (hw : ∀ n ∈ d.weights Try.prog 31, n ≤ reachBytes) : ∃ es, Rw entK (· < W.heap.size) W v es ∧ ∀ e ∈ es, Ent.near e := by
  obtain ⟨a0, len, cap, rfl⟩ := okWide_slice Try.underlying31 hv
  obtain ⟨fuel, hf⟩ := h
  obtain ⟨xs, ⟨v', e, hr⟩, _, hq⟩ := opensW_entries _ _ _ hf hw
  simp [Value.cells] at e
  subst e
  exact ⟨xs, hr, hq⟩

/-- Numbers that came in. -/
def izK : Kind Int where
  sz := 1
  R _ _ cs n := cs = [.int .i64 n] ∧ (-9223372036854775808 ≤ n ∧ n ≤ 9223372036854775807)
  pos := by decide
  len := by rintro F w cs x ⟨rfl, _⟩; rfl
  keep := by rintro F w w' cs x h _; exact h
  mono := by rintro F F' w cs x h _; exact h
  one := by rintro F w cs x ⟨rfl, _⟩ u hu; rw [List.mem_singleton.1 hu]; rfl
theorem izs_at {F : Nat → Prop} {w : World} {v : Value} {ns : List Int} (h : Rw izK F w v ns) (hne : 0 < ns.length) :
    ∃ b off cap, v = .slice (some ⟨b, off, none⟩) ns.length cap ∧ b < w.heap.size ∧ ∀ i (hi : i < ns.length), w.cell? ⟨b, off + i, none⟩ = some (.int .i64 ns[i]) ∧ (-9223372036854775808 ≤ ns[i] ∧ ns[i] ≤ 9223372036854775807) := by
  obtain ⟨b, off, cap, e, _, hb, _, _, hc⟩ := h.place hne
  refine ⟨b, off, cap, e, hb, fun i hi => ?_⟩
  obtain ⟨es, ⟨rfl, hr⟩, hes⟩ := hc i hi
  have := hes 0 _ rfl
  exact ⟨by rwa [show izK.sz = 1 from rfl, Nat.mul_one, Nat.add_zero] at this, hr⟩
theorem opensW_iz : OpensW enc W base sp hd izK (fun _ => True) 3 := by
  intro fuel cs x hf _
  obtain ⟨n, e, _, wf⟩ := DataW.trod_int Try.underlying3 hf
  exact ⟨n, ⟨e, bounds_i64 wf⟩, trivial⟩
theorem open_ints7 {r : Reach} {b0 : Nat} {v : Value} {d : DataW H} {ps : List MemPlace} (hv : Value.okWide Try.prog W r b0 37 v) (h : DataW.Trod enc Try.prog W base sp hd 37 v d ps)
    (hw : ∀ n ∈ d.weights Try.prog 37, n ≤ reachBytes) : ∃ ns, Rw izK (· < W.heap.size) W v ns := by
  obtain ⟨a0, len, cap, rfl⟩ := okWide_slice Try.underlying37 hv
  obtain ⟨fuel, hf⟩ := h
  obtain ⟨xs, ⟨v', e, hr⟩, _, _⟩ := opensW_rows (K := izK) Try.underlying37 (by kernel_rfl) (nb := 8) (by kernel_rfl) (by decide) opensW_iz _ _ _ hf hw
  simp [Value.cells] at e
  subst e
  exact ⟨xs, hr⟩
end
end Go.Proofs.Ytmpapipobjoboaa
