/- skip: New, Get, Seek, Height, Len, Size, Steps; the law's own entries. -/
import Derived.Test.YtdjjkdhhjdafmaaSkD
import Derived.Laws.IdiomStrings
namespace Go.Proofs.Ytdjjkdhhjdafmaa
open Go.RowKit

def noEnt : Ent := ⟨[], 0, 0, []⟩

theorem skNew_e (w : World) :
    Calls Try.prog 9 #[] w fun x w' => ∃ b hd, x = .returned (.pointer (some ⟨b, 0, none⟩)) ∧ (∀ p : Nat → Prop, (∀ k, w'.heap.size ≤ k → p k) → Skp ⟨w.heap.size, p⟩ w' b hd []) ∧ Below w.heap.size w w' ∧ hd.e = noEnt := by
  go_enter Try.func9, Try.ntmps9
  go_wp2_with fail
  go_ret
  refine ⟨w.heap.size + 1, ⟨w.heap.size, noEnt, 12⟩, rfl, fun p hp => ?_, below_two _ _ _, rfl⟩
  have h1 : Blk ((w.alloc (.cells (twCells ⟨w.heap.size, noEnt, 12⟩ (.slice none 0 0) (.slice none 0 0) []).toArray 64)).alloc (.cells #[.pointer (some ⟨w.heap.size, 0, none⟩), .int .i64 0, .int .i64 0] 59)) w.heap.size (twCells ⟨w.heap.size, noEnt, 12⟩ (.slice none 0 0) (.slice none 0 0) []).toArray 64 := (Blk.alloc_new _ _ _).alloc _
  refine ⟨blk_two _ _ _ _, ⟨⟨.slice none 0 0, .slice none 0 0, h1, Bytes.nil _ _, Bytes.nil _ _⟩, trivial⟩, rfl, fun t ht => (by cases ht), ?_, ?_, Nat.le_succ _, ?_, List.Pairwise.nil, Nat.zero_le _, Nat.zero_le _, hp⟩
  · exact List.nodup_cons.2 ⟨fun h => (by cases h), List.nodup_nil⟩
  · intro t ht
    rw [List.mem_singleton.1 ht]
    show w.heap.size ≠ w.heap.size + 1
    omega
  · intro t ht
    rw [List.mem_singleton.1 ht]
    exact Nat.le_refl _

theorem skNew_any (w : World) :
    Calls Try.prog 9 #[] w fun x w' => ∃ b hd, x = .returned (.pointer (some ⟨b, 0, none⟩)) ∧ (∀ p : Nat → Prop, (∀ k, w'.heap.size ≤ k → p k) → Skp ⟨w.heap.size, p⟩ w' b hd []) ∧ Below w.heap.size w w' :=
  (skNew_e w).mono fun _ _ ⟨b, hd, h1, h2, h3, _⟩ => ⟨b, hd, h1, h2, h3⟩

theorem skSize_any (lo : Lo) (b : Nat) (hd : Tw) (ts : List Tw) (w : World) (h : Skp lo w b hd ts) :
    Calls Try.prog 14 #[.pointer (some ⟨b, 0, none⟩)] w fun x w' => x = .returned (.int .i64 (sizeOf_ ts : Int)) ∧ w' = w := by
  have HI := Lib.hid h
  clear h
  go_enter Try.func14, Try.ntmps14
  go_wp2_with fail
  refine Calls.mono (skNone_false HI.out) ?_
  rintro _ w1 ⟨rfl, rfl⟩
  have k2 : w1.cell? ⟨b, 2, none⟩ = some (.int .i64 (sizeOf_ ts : Int)) := HI.out.blk.cell rfl
  go_wp2_with fail
  go_ret
  exact ⟨rfl, rfl⟩

theorem skLen_any (lo : Lo) (b : Nat) (hd : Tw) (ts : List Tw) (w : World) (h : Skp lo w b hd ts) :
    Calls Try.prog 22 #[.pointer (some ⟨b, 0, none⟩)] w fun x w' => x = .returned (.int .i64 (ts.length : Int)) ∧ w' = w := by
  have HI := Lib.hid h
  clear h
  go_enter Try.func22, Try.ntmps22
  go_wp2_with fail
  refine Calls.mono (skNone_false HI.out) ?_
  rintro _ w1 ⟨rfl, rfl⟩
  have k1 : w1.cell? ⟨b, 1, none⟩ = some (.int .i64 (ts.length : Int)) := HI.out.blk.cell rfl
  go_wp2_with fail
  go_ret
  exact ⟨rfl, rfl⟩

theorem found_mem {e : Ent} {ts : List Tw} {t : Tw} (h : found e ts = some t) : t ∈ ts ∧ t.e.seq = e.seq ∧ t.e.key = e.key := by
  unfold found at h
  cases hb : behind e ts with
  | nil => rw [hb] at h; cases h
  | cons y r =>
    rw [hb] at h
    simp only at h
    split at h
    · rename_i h1
      injection h with h
      subst h
      exact ⟨by rw [← ahead_behind e ts, hb]; simp, h1⟩
    · cases h

def heightOf (e : Ent) (ts : List Tw) : Nat := match found e ts with
  | some t => t.h
  | none => 0

theorem skHeight_any (lo : Lo) (b : Nat) (hd : Tw) (ts : List Tw) (G : Nat → Prop) (key : List UInt8) (seq : Int) (vk : Value) (w : World) (h : Skp lo w b hd ts) (hk : Bytes G w vk key) :
    Calls Try.prog 30 #[.pointer (some ⟨b, 0, none⟩), vk, .int .u64 seq] w fun x w' => x = .returned (.int .i64 (heightOf (plc key seq) ts : Int)) ∧ Below w.heap.size w w' := by
  obtain ⟨ka, kc, rfl⟩ := hk.isSlice
  have HI := Lib.hid h
  have HK := Lib.hid hk
  clear h hk
  go_enter Try.func30, Try.ntmps30
  go_wp2_with fail
  refine Calls.mono (skNone_false HI.out) ?_
  rintro _ w1 ⟨rfl, rfl⟩
  go_wp2_with fail
  refine Calls.mono (exact_any lo b hd ts G key seq (.slice ka key.length kc) w1 HI.out HK.out) ?_
  rintro _ w2 ⟨rfl, hb2⟩
  have HW2 := Lib.hid hb2
  have HI2 := Lib.hid (HI.out.below hb2)
  clear hb2
  cases hf : found (plc key seq) ts with
  | none =>
    have HH : Hid (heightOf (plc key seq) ts = 0) := by show _ = _; unfold heightOf; rw [hf]
    rw [show optPtr none = .pointer none from rfl]
    go_wp2_with fail
    go_ret
    exact ⟨by rw [HH.out]; rfl, HW2.out⟩
  | some t =>
    have HH : Hid (heightOf (plc key seq) ts = t.h) := by show _ = _; unfold heightOf; rw [hf]
    obtain ⟨p, r, hpr⟩ := List.append_of_mem (List.mem_cons_of_mem hd (found_mem hf).1)
    obtain ⟨dk, dv, g1, _, _⟩ := HI2.out.tower hpr
    have k16 : w2.cell? ⟨t.b, 16, none⟩ = some (.int .i64 (t.h : Int)) := g1.cell (by rw [List.getElem?_toArray]; exact twCells_high _ _ _ _)
    clear g1 hpr
    rw [show optPtr (some t) = .pointer (some ⟨t.b, 0, none⟩) from rfl]
    go_wp2_with fail
    go_ret
    exact ⟨(congrArg (fun n : Nat => Ending.returned (.int .i64 (n : Int))) HH.out).symm, HW2.out⟩

theorem bytes_conv {W : World} {g cap : Nat} {T : TypeId} {fr : Nat × Nat} (bs : List UInt8) (hg : W.heap[g]? = some (.cells (bytesRow ⟨bs.toArray⟩ cap) T fr)) (h1 : bs.length ≤ cap) (h2 : cap ≤ maxLen) :
    Bytes (fun k => k = g) W (.slice (some ⟨g, 0, none⟩) bs.length cap) bs := by
  refine ⟨some ⟨g, 0, none⟩, _, rfl, h1, h2, by simp, by simp [u8s], fun j u hj => ⟨_, rfl, rfl, ?_⟩⟩
  have hjl : j < bs.length := by
    have := (List.getElem?_eq_some_iff.1 hj).1
    simpa [u8s] using this
  rw [add_plain', Nat.zero_add, cell_of_row W g j _ T fr hg, bytesRow_at _ _ _ (by simpa using hjl)]
  rw [u8s_get _ _ hjl] at hj
  rw [← hj]
  simp [List.getD, hjl]
end Go.Proofs.Ytdjjkdhhjdafmaa
