/- A slice of frames that came in. -/
import Derived.Test.YtkpbkhbgiijbiaaFrames
import Derived.Test.YtkpbkhbgiijbiaaLaw
import Derived.Deep.Slices
import Derived.SizedLaws
namespace Go.Proofs.Ytkpbkhbgiijbiaa
open Go.ChangeShapes Go.WideShapes Go.ChangeAt Go.RowKit

section
variable {H : Type} {enc : TypeId × Value → H} {W : World} {base : Nat} {sp : Nat → Bool} {hd : Bool}

/-- A slice of bytes that was read; what its datum weighs. -/
theorem bytes_of_trod {fuel : Nat} {v : Value} {x : DataW H × List MemPlace} (hf : DataW.trod enc Try.prog W base sp hd fuel 27 [v] = some x) :
    ∃ bs, Bytes (· < W.heap.size) W v bs ∧ (bs = [] ∨ ∃ n ∈ x.1.weights Try.prog 27, bs.length ≤ n) := by
  rcases open_ints Try.underlying27 Try.underlying5 (by kernel_rfl) hf with ⟨hcs, hx⟩ | ⟨a, len, cap, zs, hcs, _, hl, hm, hz, hx, hcell, hwz⟩
  · obtain ⟨rfl⟩ := hcs
    exact ⟨[], Bytes.nil _ _, .inl rfl⟩
  · obtain ⟨rfl⟩ := hcs
    have hlz : len ≤ zs.length := by rw [hz]; split <;> omega
    have hlen : ((zs.take len).map fun z => UInt8.ofNat z.toNat).length = len := by simp; omega
    refine ⟨(zs.take len).map fun z => UInt8.ofNat z.toNat, ⟨some a, cap, by rw [hlen], by omega, hm, by simp, by simp [u8s], fun j u hj => ?_⟩, .inr ?_⟩
    · have hj2 : j < len := by
        rcases Nat.lt_or_ge j len with h | h
        · exact h
        · rw [List.getElem?_eq_none (by simp [u8s]; omega)] at hj; cases hj
      have hc := hcell j (by omega)
      have hb := bounds_u8 (hwz (zs.getD j 0) (by simp [List.getD, (show j < zs.length by omega)]))
      have hu : u = .int .u8 (zs.getD j 0) := by
        simp [u8s, hj2, (show j < zs.length by omega)] at hj
        rw [← hj]
        congr 1
        simp [List.getD, (show j < zs.length by omega)] at hb ⊢
        omega
      refine ⟨a, rfl, ?_, by rw [hu]; exact hc⟩
      have := World.block_lt_of_cell? _ _ hc
      rw [Addr.add_block] at this
      exact this
    · rw [hx, hlen]
      have hbo : (Try.prog.bytesOf 5) = 1 := by kernel_rfl
      refine ⟨_, by simp only [DataW.weights, Try.underlying27]; exact List.mem_cons_self .., ?_⟩
      rw [hbo]
      simp [lits]
      omega

theorem weights_all {P : Program} {e : TypeId} {n : Nat} {d : DataW H} : ∀ {l : List (DataW H)}, d ∈ l → n ∈ d.weights P e → n ∈ DataW.weightsAll P e l
  | a :: l, hd, hn => by
    rw [DataW.weightsAll]
    rcases List.mem_cons.1 hd with rfl | h
    · exact List.mem_append_left _ hn
    · exact List.mem_append_right _ (weights_all h hn)
  | [], hd, _ => by simp at hd

/-- A frame that was read. -/
theorem frame_of_trod {fuel : Nat} {cs : List Value} {x : DataW H × List MemPlace} (hf : DataW.trod enc Try.prog W base sp hd fuel 39 cs = some x) (hw : ∀ n ∈ x.1.weights Try.prog 39, n ≤ reachBytes) :
    ∃ vb f, cs = [.int .u8 ((f : Fr.T).kind.toNat : Int), vb] ∧ Bytes (· < W.heap.size) W vb f.body ∧ f.body.length ≤ reachBytes := by
  obtain ⟨y0, y1, n, hx, hl, h0, h1⟩ := trod_struct2 Try.underlying39 hf
  have hc : Try.prog.cellsOf 39 = 2 := by kernel_rfl
  have hc5 : Try.prog.cellsOf 5 = 1 := by kernel_rfl
  have hc27 : Try.prog.cellsOf 27 = 1 := by kernel_rfl
  rw [hc] at hl
  match cs, hl with
  | [c0, c1], _ =>
    simp only [List.drop_zero, List.drop_succ_cons, hc5, hc27, List.take_succ_cons, List.take_zero] at h0 h1
    obtain ⟨z, hz, _, wf⟩ := DataW.trod_int Try.underlying5 h0
    obtain ⟨rfl⟩ := hz
    obtain ⟨bs, hb, hwt⟩ := bytes_of_trod h1
    have hzb := bounds_u8 wf
    refine ⟨c1, ⟨UInt8.ofNat z.toNat, bs⟩, ?_, hb, ?_⟩
    · have : (((UInt8.ofNat z.toNat).toNat : Nat) : Int) = z := by rw [UInt8.toNat_ofNat']; omega
      simp only [this]
    · rcases hwt with rfl | ⟨n, hn, hle⟩
      · simp
      · refine Nat.le_trans hle (hw n ?_)
        rw [hx]
        simp only [DataW.weights, Try.underlying39]
        simp only [List.map_cons, List.map_nil, DataW.weightsEach, List.append_nil]
        exact List.mem_append_right _ hn

theorem frames_upto (a : Addr) (m : Nat) (h : ∀ i, i < m → ∃ vb f, W.cell? (a.add (i * 2)) = some (.int .u8 ((f : Fr.T).kind.toNat : Int)) ∧ W.cell? (a.add (i * 2 + 1)) = some vb ∧ Bytes (· < W.heap.size) W vb f.body ∧ f.body.length ≤ reachBytes) :
    ∃ cs fs, fs.length = m ∧ FrCells (· < W.heap.size) W cs fs ∧ (∀ f ∈ fs, f.body.length ≤ reachBytes) ∧ ∀ j, j < m * 2 → W.cell? (a.add j) = cs[j]? := by
  induction m with
  | zero => exact ⟨[], [], rfl, trivial, by simp, fun j hj => by omega⟩
  | succ m ih =>
    obtain ⟨cs, fs, h1, h2, h3, h4⟩ := ih fun i hi => h i (by omega)
    obtain ⟨vb, f, g1, g2, g3, g4⟩ := h m (by omega)
    have hcl := FrCells.len _ _ h2
    refine ⟨cs ++ [.int .u8 (f.kind.toNat : Int), vb], fs ++ [f], by simp [h1], ?_, ?_, ?_⟩
    · have k3 : FrCells (· < W.heap.size) W [.int .u8 (f.kind.toNat : Int), vb] [f] := ⟨rfl, g3, trivial⟩
      exact k3.append _ _ h2
    · intro x hx
      rcases List.mem_append.1 hx with h | h
      · exact h3 x h
      · rw [List.mem_singleton.1 h]; exact g4
    · intro j hj
      by_cases hjm : j < m * 2
      · rw [h4 j hjm, List.getElem?_append_left (by omega)]
      · rw [List.getElem?_append_right (by omega)]
        have : j = m * 2 ∨ j = m * 2 + 1 := by omega
        rcases this with rfl | rfl
        · rw [g1, show m * 2 - cs.length = 0 by omega]; rfl
        · rw [g2, show m * 2 + 1 - cs.length = 1 by omega]; rfl

/-- A slice of frames that came in. -/
theorem open_frames {r : Reach} {b0 : Nat} {v : Value} {d : DataW H} {ps : List MemPlace} (hv : Value.okWide Try.prog W r b0 40 v) (h : DataW.Trod enc Try.prog W base sp hd 40 v d ps)
    (hw : ∀ n ∈ d.weights Try.prog 40, n ≤ reachBytes) : ∃ fs, Frames (· < W.heap.size) W v fs ∧ fs.length ≤ reachBytes ∧ ∀ f ∈ fs, f.body.length ≤ reachBytes := by
  obtain ⟨a0, len, cap, rfl⟩ := okWide_slice Try.underlying40 hv
  obtain ⟨fuel, hf⟩ := h
  have hc : Try.prog.cellsOf 39 = 2 := by kernel_rfl
  rcases Go.Deep.open_slice Try.underlying40 hf with ⟨hcs, hx⟩ | ⟨a, len', cap', m, n, D, Pl, hcs, _, hl, hm, hmm, hx, hel⟩
  · simp [Value.cells] at hcs
    obtain ⟨rfl, rfl, rfl⟩ := hcs
    exact ⟨[], ⟨[], Sl.nil _ _ _, trivial⟩, by simp, by simp⟩
  · simp [Value.cells] at hcs
    obtain ⟨rfl, rfl, rfl⟩ := hcs
    have hlm : len ≤ m := by rw [hmm]; split <;> omega
    have hd : d = .slice ((List.range len).map D) ((List.range (m - len)).map fun j => D (len + j)) := congrArg Prod.fst hx
    obtain ⟨cs, fs, h1, h2, h3, h4⟩ := frames_upto (W := W) a len fun i hi => by
      obtain ⟨cs', g1, g2⟩ := hel i (by omega)
      obtain ⟨vb, f, e1, e2, e3⟩ := frame_of_trod g2 fun n hn => hw n (by
        rw [hd]
        simp only [DataW.weights, Try.underlying40]
        refine List.mem_cons_of_mem _ (List.mem_append_left _ (weights_all (d := D i) ?_ hn))
        exact List.mem_map.2 ⟨i, List.mem_range.2 hi, rfl⟩)
      rw [hc] at g1
      obtain ⟨_, _, g3⟩ := World.cells?_some g1
      have c0 := g3 0 (by omega)
      have c1 := g3 1 (by omega)
      rw [Addr.add_add] at c0 c1
      rw [e1] at c0 c1
      exact ⟨vb, f, c0, c1, e2, e3⟩
    have hcl := FrCells.len _ _ h2
    have hlw : len ≤ reachBytes := by
      have hbo : (Try.prog.bytesOf 39) = 32 := by kernel_rfl
      have := hw ((((List.range len).map D).length + ((List.range (m - len)).map fun j => D (len + j)).length) * Try.prog.bytesOf 39) (by
        rw [hd]
        simp only [DataW.weights, Try.underlying40]
        exact List.mem_cons_self ..)
      rw [hbo] at this
      simp only [List.length_map, List.length_range] at this
      omega
    refine ⟨fs, ⟨cs, ⟨some a, cap, by rw [h1], by omega, hm, by simp, by rw [hcl], fun j u hj => ?_⟩, h2⟩, by rw [h1]; exact hlw, h3⟩
    have hj2 : j < len * 2 := by
      rcases Nat.lt_or_ge j (len * 2) with h | h
      · exact h
      · rw [List.getElem?_eq_none (by omega)] at hj; cases hj
    have hcc := h4 j hj2
    rw [hj] at hcc
    refine ⟨a, rfl, ?_, hcc⟩
    have := World.block_lt_of_cell? _ _ hcc
    rw [Addr.add_block] at this
    exact this
end
end Go.Proofs.Ytkpbkhbgiijbiaa
