/- Chapter 7's law: calls that came in, with what they weigh; small. -/
import Derived.Test.YtdjjkdhhjdafmaaOpenW
import Derived.Test.YtdjjkdhhjdafmaaKitE
namespace Go.Proofs.Ytdjjkdhhjdafmaa
open Go.ChangeShapes Go.WideShapes Go.ChangeAt Go.RowKit

structure SAct where
  e : Ent
  height : Int
  key : List UInt8
  at_ : Int
  n : Int

def sactCells (a : SAct) (vk vv va : Value) : List Value := [vk, .int .u64 a.e.seq, .int .i64 a.e.kind, vv, .int .i64 a.height, va, .int .u64 a.at_, .int .i64 a.n]

def sactK : Kind SAct where
  sz := 8
  R F w cs a := ∃ vk vv va, cs = sactCells a vk vv va ∧ Bytes F w vk a.e.key ∧ Bytes F w vv a.e.value ∧ Bytes F w va a.key ∧ (-9223372036854775808 ≤ a.height ∧ a.height ≤ 9223372036854775807)
  pos := by decide
  len := by rintro F w cs x ⟨vk, vv, va, rfl, _⟩; rfl
  keep := by rintro F w w' cs x ⟨vk, vv, va, rfl, h1, h2, h3, b⟩ hk; exact ⟨vk, vv, va, rfl, h1.keep hk, h2.keep hk, h3.keep hk, b⟩
  mono := by rintro F F' w cs x ⟨vk, vv, va, rfl, h1, h2, h3, b⟩ hk; exact ⟨vk, vv, va, rfl, h1.mono hk, h2.mono hk, h3.mono hk, b⟩
  one := by
    rintro F w cs x ⟨vk, vv, va, rfl, h1, h2, h3, _⟩ u hu
    have g1 := h1.oneCell
    have g2 := h2.oneCell
    have g3 := h3.oneCell
    simp only [sactCells, List.mem_cons, List.not_mem_nil, or_false] at hu
    rcases hu with rfl | rfl | rfl | rfl | rfl | rfl | rfl | rfl <;> first | rfl | exact g1 | exact g2 | exact g3

theorem sacts_at {F : Nat → Prop} {w : World} {v : Value} {l : List SAct} (h : Rw sactK F w v l) (hne : 0 < l.length) :
    ∃ b off cap, v = .slice (some ⟨b, off, none⟩) l.length cap ∧ b < w.heap.size ∧ ∀ i (hi : i < l.length), ∃ vk vv va, Bytes F w vk l[i].e.key ∧ Bytes F w vv l[i].e.value ∧ Bytes F w va l[i].key ∧ (-9223372036854775808 ≤ l[i].height ∧ l[i].height ≤ 9223372036854775807) ∧
      w.cell? ⟨b, off + i * 8, none⟩ = some vk ∧ w.cell? ⟨b, off + i * 8 + 1, none⟩ = some (.int .u64 l[i].e.seq) ∧ w.cell? ⟨b, off + i * 8 + 2, none⟩ = some (.int .i64 l[i].e.kind) ∧ w.cell? ⟨b, off + i * 8 + 3, none⟩ = some vv ∧
      w.cell? ⟨b, off + i * 8 + 4, none⟩ = some (.int .i64 l[i].height) ∧ w.cell? ⟨b, off + i * 8 + 5, none⟩ = some va ∧ w.cell? ⟨b, off + i * 8 + 6, none⟩ = some (.int .u64 l[i].at_) ∧ w.cell? ⟨b, off + i * 8 + 7, none⟩ = some (.int .i64 l[i].n) := by
  obtain ⟨b, off, cap, e, _, hb, _, _, hc⟩ := h.place hne
  refine ⟨b, off, cap, e, hb, fun i hi => ?_⟩
  obtain ⟨cs, ⟨vk, vv, va, rfl, h1, h2, h3, h4⟩, hes⟩ := hc i hi
  exact ⟨vk, vv, va, h1, h2, h3, h4, hes 0 _ rfl, hes 1 _ rfl, hes 2 _ rfl, hes 3 _ rfl, hes 4 _ rfl, hes 5 _ rfl, hes 6 _ rfl, hes 7 _ rfl⟩

def SAct.near (a : SAct) : Prop := Ent.near a.e ∧ a.key.length ≤ reachBytes

section
variable {H : Type} {enc : TypeId × Value → H} {W : World} {base : Nat} {sp : Nat → Bool} {hd : Bool}

theorem opensW_sact : OpensW enc W base sp hd sactK SAct.near 52 := by
  intro fuel cs x hf hw
  obtain ⟨xs, n, _, hx, hl, hlen, hfs⟩ := DataW.trod_struct Try.underlying52 hf
  have hc : Try.prog.cellsOf 52 = 8 := by kernel_rfl
  have hc0 : Try.prog.cellsOf 34 = 4 := by kernel_rfl
  have hc1 : Try.prog.cellsOf 31 = 1 := by kernel_rfl
  have hc3 : Try.prog.cellsOf 32 = 1 := by kernel_rfl
  have hc4 : Try.prog.cellsOf 3 = 1 := by kernel_rfl
  rw [hc] at hl
  match xs, hlen with
  | [y0, y1, y2, y3, y4], _ =>
  match cs, hl with
  | [c0, c1, c2, c3, c4, c5, c6, c7], _ =>
    have h0 : DataW.trod enc Try.prog W base sp hd n 34 (([c0, c1, c2, c3, c4, c5, c6, c7].drop 0).take (Try.prog.cellsOf 34)) = some y0 := hfs 0 _ rfl
    have h1 : DataW.trod enc Try.prog W base sp hd n 3 (([c0, c1, c2, c3, c4, c5, c6, c7].drop 4).take (Try.prog.cellsOf 3)) = some y1 := hfs 1 _ rfl
    have h2 : DataW.trod enc Try.prog W base sp hd n 31 (([c0, c1, c2, c3, c4, c5, c6, c7].drop 5).take (Try.prog.cellsOf 31)) = some y2 := hfs 2 _ rfl
    have h3 : DataW.trod enc Try.prog W base sp hd n 32 (([c0, c1, c2, c3, c4, c5, c6, c7].drop 6).take (Try.prog.cellsOf 32)) = some y3 := hfs 3 _ rfl
    have h4 : DataW.trod enc Try.prog W base sp hd n 3 (([c0, c1, c2, c3, c4, c5, c6, c7].drop 7).take (Try.prog.cellsOf 3)) = some y4 := hfs 4 _ rfl
    simp only [List.drop_zero, List.drop_succ_cons, hc0, hc1, hc3, hc4, List.take_succ_cons, List.take_zero] at h0 h1 h2 h3 h4
    have hall : ∀ m, (m ∈ y0.1.weights Try.prog 34 ∨ m ∈ y2.1.weights Try.prog 31) → m ≤ reachBytes := fun m hm => hw m (by
      rw [hx]
      simp only [DataW.weights, Try.underlying52]
      simp only [List.map_cons, List.map_nil, DataW.weightsEach, List.append_nil, List.mem_append]
      rcases hm with hm | hm
      · exact .inl hm
      · exact .inr (.inr (.inl hm)))
    obtain ⟨e, ⟨vk, vv, ee, hk, hv⟩, hne⟩ := opensW_entry _ _ _ h0 fun m hm => hall m (.inl hm)
    obtain ⟨i1, e1, _, wf⟩ := DataW.trod_int Try.underlying3 h1
    obtain ⟨bs, hb, hbw⟩ := bytes_of_trod h2
    obtain ⟨i3, e3, _, _⟩ := DataW.trod_int Try.underlying32 h3
    obtain ⟨i4, e4, _, _⟩ := DataW.trod_int Try.underlying3 h4
    obtain ⟨rfl⟩ := e1
    obtain ⟨rfl⟩ := e3
    obtain ⟨rfl⟩ := e4
    obtain ⟨rfl⟩ := ee
    refine ⟨⟨e, i1, bs, i3, i4⟩, ⟨_, _, c5, rfl, hk, hv, hb, bounds_i64 wf⟩, hne, ?_⟩
    rcases hbw with rfl | ⟨m, hm, hle⟩
    · exact Nat.zero_le _
    · exact Nat.le_trans hle (hall m (.inr hm))

theorem open_acts7 {r : Reach} {b0 : Nat} {v : Value} {d : DataW H} {ps : List MemPlace} (hv : Value.okWide Try.prog W r b0 47 v) (h : DataW.Trod enc Try.prog W base sp hd 47 v d ps)
    (hw : ∀ n ∈ d.weights Try.prog 47, n ≤ reachBytes) : ∃ l, Rw sactK (· < W.heap.size) W v l ∧ ∀ a ∈ l, SAct.near a := by
  obtain ⟨a0, len, cap, rfl⟩ := okWide_slice Try.underlying47 hv
  obtain ⟨fuel, hf⟩ := h
  obtain ⟨xs, ⟨v', e, hr⟩, _, hq⟩ := opensW_rows (K := sactK) Try.underlying47 (by kernel_rfl) (nb := 112) (by kernel_rfl) (by decide) opensW_sact _ _ _ hf hw
  simp [Value.cells] at e
  subst e
  exact ⟨xs, hr, hq⟩
end

def weighS (l : List SAct) : Nat := (l.map fun a => a.e.key.length + a.e.value.length + a.key.length).sum
theorem weighS_take {l : List SAct} {j : Nat} (h : j < l.length) : weighS (l.take (j + 1)) = weighS (l.take j) + (l[j].e.key.length + l[j].e.value.length + l[j].key.length) := by
  unfold weighS
  rw [List.take_succ_eq_append_getElem h, List.map_append, List.sum_append]
  simp
theorem weighS_take_le (l : List SAct) (j : Nat) : weighS (l.take j) ≤ weighS l := by
  unfold weighS
  have h : (l.map fun a => a.e.key.length + a.e.value.length + a.key.length).sum = ((l.take j).map fun a => a.e.key.length + a.e.value.length + a.key.length).sum + ((l.drop j).map fun a => a.e.key.length + a.e.value.length + a.key.length).sum := by
    rw [← List.sum_append, ← List.map_append, List.take_append_drop]
  omega
theorem weighS_le {B : Nat} : ∀ {l : List SAct}, (∀ a ∈ l, a.e.key.length ≤ B ∧ a.e.value.length ≤ B ∧ a.key.length ≤ B) → weighS l ≤ l.length * (3 * B)
  | [], _ => by simp [weighS]
  | a :: l, h => by
    have h1 := weighS_le (l := l) fun x hx => h x (List.mem_cons_of_mem _ hx)
    have h2 := h a (List.mem_cons_self ..)
    simp only [weighS, List.map_cons, List.sum_cons, List.length_cons] at *
    rw [Nat.add_mul]
    omega
theorem weighS_mem {l : List SAct} {a : SAct} (h : a ∈ l) : a.e.key.length + a.e.value.length + a.key.length ≤ weighS l := by
  induction l with
  | nil => cases h
  | cons x l ih =>
    simp only [weighS, List.map_cons, List.sum_cons]
    rcases List.mem_cons.1 h with rfl | h
    · omega
    · have := ih h
      simp only [weighS] at this
      omega

theorem w64_eq (x : Int) : RowKit.wrap64 x = IntKind.i64.wrap x := by unfold RowKit.wrap64; simp [IntKind.wrap, IntKind.signed, IntKind.bits]; omega

/-- Some truth came back; if it is true, then p; the world drew. -/
def SmallB (p : Prop) (w : World) (e : Ending) (w' : World) : Prop := ∃ b, e = .returned (.bool b) ∧ (b = true → p) ∧ ∃ n, w' = w.drewN n

set_option maxRecDepth 100000 in
set_option maxHeartbeats 1000000 in
theorem small7_any (F : Nat → Prop) (v : Value) (l : List SAct) (w : World) (h : Rw sactK F w v l) (hall : ∀ a ∈ l, a.e.key.length ≤ 140737488355328 ∧ a.e.value.length ≤ 140737488355328 ∧ a.key.length ≤ 140737488355328) :
    Calls Try.prog 23 #[v] w (SmallB (l.length ≤ 120 ∧ weighS l ≤ 20000) w) := by
  obtain ⟨xa, ca, rfl⟩ := h.isSlice
  have HA := Lib.hid h
  have hml := h.len
  simp only [maxLen] at hml
  have HWL : Hid (∀ j, j ≤ l.length → j ≤ 120 → weighS (l.take j) ≤ 1000000000000000000) := fun j hj hj2 => by
    have h1 := weighS_le (l := l.take j) fun a ha => hall a (List.mem_of_mem_take ha)
    have h2 : (l.take j).length * (3 * 140737488355328) ≤ 120 * (3 * 140737488355328) := Nat.mul_le_mul_right _ (by rw [List.length_take]; omega)
    omega
  clear h hall
  go_enter Try.func23, Try.ntmps23
  go_wp2_with fail
  go_loopw [3, 4] (fun s i wr => ∃ (j : Nat) (c : Int), i = .int .i64 (j : Int) ∧ j ≤ l.length ∧ s = .int .i64 c ∧ Hid (j ≤ 120 → c = weighS (l.take j)) ∧ Hid (∃ n, wr = w.drewN n)) (fun _ i _ => l.length - (intOf i).toNat)
  case atStart => exact ⟨0, 0, rfl, by omega, rfl, fun _ => rfl, 0, rfl⟩
  case round =>
    obtain ⟨j, c, rfl, hj, rfl, HC, HW⟩ := hrel
    by_cases hlt : j < l.length
    · have hjl : (j : Int) < (l.length : Int) := by omega
      have hwc : ∀ a, wr.cell? a = w.cell? a := fun a => by obtain ⟨n, h⟩ := HW.out; rw [h]; rfl
      obtain ⟨ba, oa, capa, ea, hba, hca⟩ := sacts_at HA.out (by omega)
      injection ea with e1 e2 e3
      subst e1 e3
      clear e2
      obtain ⟨vk, vv, va, hk, hv, ha, _, c0, _, _, c3, _, c5, _, _⟩ := hca j hlt
      obtain ⟨k1a, k1c, rfl⟩ := hk.isSlice
      obtain ⟨v1a, v1c, rfl⟩ := hv.isSlice
      obtain ⟨a1a, a1c, rfl⟩ := ha.isSlice
      have c0 := (hwc _).trans c0
      have c3 := (hwc _).trans c3
      have c5 := (hwc _).trans c5
      have HCn : Hid (j + 1 ≤ 120 → IntKind.i64.wrap (IntKind.i64.wrap (IntKind.i64.wrap (c + (l[j].e.key.length : Int)) + (l[j].e.value.length : Int)) + (l[j].key.length : Int)) = weighS (l.take (j + 1))) := fun h120 => by
        have h1 := HC.out (by omega)
        have h2 := HWL.out (j + 1) (by omega) h120
        have h3 := weighS_take hlt
        rw [h3] at h2 ⊢
        subst h1
        rw [wrap_small (n := (weighS (l.take j) : Int) + (l[j].e.key.length : Int)) (by omega) (by omega), wrap_small (n := (weighS (l.take j) : Int) + (l[j].e.key.length : Int) + (l[j].e.value.length : Int)) (by omega) (by omega), wrap_small (n := (weighS (l.take j) : Int) + (l[j].e.key.length : Int) + (l[j].e.value.length : Int) + (l[j].key.length : Int)) (by omega) (by omega)]
        omega
      clear hwc hca hk hv ha HC
      generalize l[j] = s at *
      generalize s.e.key.length = x at *
      generalize s.e.value.length = y at *
      generalize s.key.length = z at *
      go_wp2_with fail
      go_quiet (fail)
      all_goals
        go_wp2_with fail
        go_roundw
        · exact ⟨j + 1, _, by go_num, by omega, rfl, (by first | exact HCn | exact fun h => by simp only [w64_eq]; exact HCn.out h), (by first | exact HW.out | exact drewN_one HW.out | exact drewN_more HW.out _)⟩
        · simp only [intOf]; omega
    · obtain rfl : j = l.length := by omega
      have HF : Hid (l.length ≤ 120 → c = weighS l) := fun h120 => by have := HC.out h120; rwa [List.take_of_length_le (Nat.le_refl _)] at this
      clear HC
      by_cases h120 : l.length ≤ 120
      · have h120' : (l.length : Int) ≤ 120 := by omega
        have hc := HF.out h120
        by_cases hc2 : c ≤ 20000
        · go_wp2_with fail
          go_ret
          exact ⟨_, rfl, (fun _ => ⟨h120, by omega⟩), HW.out⟩
        · have hc2' : decide (c ≤ 20000) = false := by simpa using hc2
          go_wp2_with fail
          go_ret
          exact ⟨_, rfl, (fun h => by first | (cases h; done) | (have := of_decide_eq_true h; omega)), HW.out⟩
      · have h120' : decide ((l.length : Int) ≤ 120) = false := by simp; omega
        go_wp2_with fail
        go_ret
        exact ⟨_, rfl, (fun h => by first | (cases h; done) | (have := of_decide_eq_true h; omega)), HW.out⟩
end Go.Proofs.Ytdjjkdhhjdafmaa
