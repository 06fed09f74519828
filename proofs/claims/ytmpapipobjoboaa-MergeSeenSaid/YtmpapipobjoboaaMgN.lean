/- Merge: Next. -/
import Derived.Test.YtmpapipobjoboaaMgK
import Derived.Deep.LoopGhost
namespace Go.Proofs.Ytmpapipobjoboaa
open Go.RowKit

def total (l : List Hd) : Nat := (l.map fun x => x.l.length).sum
theorem total_perm {l l' : List Hd} (h : l.Perm l') : total l = total l' := (h.map _).sum_nat
theorem StepTo.ok {l l' : List Hd} (h : StepTo l l') (hok : HOk l) (h0 : 0 < l.length) : HOk l' ∧ total l' < total l := by
  obtain ⟨x, r, rfl⟩ : ∃ x r, l = x :: r := by cases l with
    | nil => simp at h0
    | cons x r => exact ⟨x, r, rfl⟩
  have e0 : hat (x :: r) 0 = x := rfl
  have hx := hok.ne x (List.mem_cons_self ..)
  rcases h with ⟨h1, h2⟩ | ⟨h1, h2⟩
  · rw [e0] at h1 h2
    have h3 := (List.perm_cons x).1 h2
    have h4 := total_perm h2
    simp only [total, List.map_cons, List.sum_cons] at h4 ⊢
    refine ⟨⟨?_, fun y hy => hok.ne y (List.mem_cons_of_mem _ (h3.mem_iff.1 hy)), fun y hy => hok.big y (List.mem_cons_of_mem _ (h3.mem_iff.1 hy))⟩, by omega⟩
    have := hok.few
    rw [h3.length_eq]
    simp only [List.length_cons] at this
    omega
  · rw [e0] at h1 h2
    have h4 := total_perm h2
    have hl := List.length_pos_iff.2 hx
    simp only [List.set_cons_zero] at h2 h4
    simp only [total, List.map_cons, List.sum_cons, List.length_drop] at h4 ⊢
    refine ⟨⟨?_, fun y hy => ?_, fun y hy => ?_⟩, by omega⟩
    · have := hok.few
      rw [h2.length_eq]
      exact this
    · rcases List.mem_cons.1 (h2.mem_iff.1 hy) with h5 | h5
      · subst h5
        intro e
        have := congrArg List.length e
        simp only [List.length_drop, List.length_nil] at this
        omega
      · exact hok.ne y (List.mem_cons_of_mem _ h5)
    · rcases List.mem_cons.1 (h2.mem_iff.1 hy) with h5 | h5
      · subst h5
        exact fun z hz => hok.big x (List.mem_cons_self ..) z (List.mem_of_mem_drop hz)
      · exact hok.big y (List.mem_cons_of_mem _ h5)

/-- Steps over all that are the same as e. -/
inductive Goes (e : Ent) (l : List Hd) : List Hd → Prop
  | refl : Goes e l l
  | step {l1 l2 : List Hd} : Goes e l l1 → 0 < l1.length → HeapFrom l1 l1.length 0 → Ent.cmp (hat l1 0).first e = 0 → StepTo l1 l2 → Goes e l l2

theorem Wrote.blk {S : Nat → Prop} {w w' : World} {b : Nat} {c : Array Value} {T : TypeId} (h : Wrote S w w') (hb : Blk w b c T) (hn : ¬ S b) : Blk w' b c T := hb.same (h.block b hb.lt hn)
theorem Wrote.bytes {S F : Nat → Prop} {w w' : World} {v : Value} {bs : List UInt8} (h : Wrote S w w') (hb : Bytes F w v bs) (hn : ∀ k, F k → ¬ S k) : Bytes F w' v bs := hb.keep fun k hk hF => h.block k hk (hn k hF)

theorem Hv.keep_row {B m b : Nat} {F : Nat → Prop} {w w' : World} {v : Value} {l : List Hd} (h : Hv B F w m v l) (hk : ∀ k, k ≠ b → w'.heap[k]? = w.heap[k]?) (hn : b ≠ m ∧ v.ownBlock ≠ some b ∧ ¬ F b) : Hv B F w' m v l :=
  ⟨h.blk.same (hk m (Ne.symm hn.1)), h.own.keep fun k _ e => hk k fun e2 => by
    subst e2
    rcases e with e | e
    · exact hn.2.1 e
    · exact hn.2.2 e.1, h.ne, h.nm⟩
theorem Wrote.setRow {S : Nat → Prop} {w w1 : World} (h : Wrote S w w1) {b : Nat} (hb : S b ∨ w.heap.size ≤ b) (cs : Array Value) : Wrote S w (w1.setRow b cs) :=
  ⟨h.os, h.tape, h.output, by simpa [World.setRow] using h.size, fun k hk hn => (setRow_other _ _ _ _ (fun e => by rcases hb with hb | hb; exact hn (by rw [e]; exact hb); omega)).trans (h.block k hk hn)⟩

def NextPost (B : Nat) (F : Nat → Prop) (m : Nat) (v : Value) (l : List Hd) (w : World) (x : Ending) (w' : World) : Prop :=
  ∃ k y v' l', x = .returned (.tuple #[.agg (entCells (hat l 0).first k y).toArray, .bool true]) ∧ Bytes (fun j => w.heap.size ≤ j) w' k (hat l 0).first.key ∧ Bytes (fun j => w.heap.size ≤ j) w' y (hat l 0).first.value ∧
    Hv B F w' m v' l' ∧ v'.ownBlock = v.ownBlock ∧ HOk l' ∧ HeapFrom l' l'.length 0 ∧ Goes (hat l 0).first l l' ∧ (0 < l'.length → Ent.cmp (hat l' 0).first (hat l 0).first ≠ 0) ∧ Wrote (fun k => k = m ∨ v.ownBlock = some k) w w'

section
variable {B m : Nat} {F : Nat → Prop} {w w' : World} {v : Value} {l : List Hd}

set_option maxRecDepth 100000 in
set_option maxHeartbeats 2000000 in
theorem next_core (hF : ∀ k, F k → k < w.heap.size) (h : Hv B F w m v l) (hok : HOk l) (hp : HeapFrom l l.length 0) (h0 : 0 < l.length) :
    Calls Try.prog 23 #[.pointer (some ⟨m, 0, none⟩)] w (NextPost B F m v l w) := by
  have HF := Lib.hid hF
  have HH := Lib.hid h
  have HOK := Lib.hid hok
  have HP := Lib.hid hp
  have HM : Hid (m < w.heap.size ∧ ∀ k, v.ownBlock = some k → k < w.heap.size) := ⟨h.blk.lt, fun k e => (h.own.lt k e).2⟩
  clear h hok hp hF
  go_enter Try.func23, Try.ntmps23
  go_upto_region 1 with fail
  refine wp_gen fun w1 hw1 => ?_
  have HW1 : Hid (Below w.heap.size w w1) := by rw [hw1]; exact (Below.refl _ _).alloc (Nat.le_refl _) _
  have HR1 : Hid (∃ cs, Blk w1 w.heap.size cs 29 ∧ cs.size = 4) := by rw [hw1]; exact ⟨_, Blk.alloc_new _ _ _, rfl⟩
  have hz1 : w1.heap.size = w.heap.size + 1 := by rw [hw1]; simp
  have HZ1 := Lib.hid hz1
  clear hw1 hz1
  have HV1 : Hid (Hv B F w1 m v l) := HH.out.below HW1.out
  go_wp2_with fail
  refine Calls.mono (peek_any HV1.out HOK.out h0) ?_
  rintro _ w2 ⟨k, y, rfl, hk, hy, hb2⟩
  obtain ⟨ka, kc, rfl⟩ := hk.isSlice
  obtain ⟨ya, yc, rfl⟩ := hy.isSlice
  have HW2 : Hid (Below w.heap.size w w2) := HW1.out.trans (hb2.mono HW1.out.size)
  have HV2 : Hid (Hv B F w2 m v l) := HH.out.below HW2.out
  have HR2 : Hid (∃ cs, Blk w2 w.heap.size cs 29 ∧ cs.size = 4) := HR1.out.imp fun cs h => ⟨h.1.below hb2 h.1.lt, h.2⟩
  have HK2 : Hid (Bytes (fun j => w.heap.size < j) w2 (.slice ka (hat l 0).first.key.length kc) (hat l 0).first.key) := hk.mono fun j _ hj => by have := HZ1.out; omega
  have HY2 : Hid (Bytes (fun j => w.heap.size < j) w2 (.slice ya (hat l 0).first.value.length yc) (hat l 0).first.value) := hy.mono fun j _ hj => by have := HZ1.out; omega
  clear hk hy hb2 HR1 HV1 HW1
  obtain ⟨e, he⟩ : ∃ e, (hat l 0).first = e := ⟨_, rfl⟩
  rw [he] at HK2 HY2
  rw [he]
  have HE := Lib.hid he
  clear he
  unfold entCells
  go_upto_block 0 with fail
  refine wp_gen fun w3 hw3 => ?_
  have HW3 : Hid (Below w.heap.size w w3) := by rw [hw3]; exact HW2.out.alloc HW2.out.size _
  have HV3 : Hid (Hv B F w3 m v l) := HH.out.below HW3.out
  have HR3 : Hid (∃ cs, Blk w3 w.heap.size cs 29 ∧ cs.size = 4) := by rw [hw3]; exact HR2.out.imp fun cs h => ⟨h.1.alloc _, h.2⟩
  have HE3 : Hid (Blk w3 w2.heap.size (entCells e (.slice ka e.key.length kc) (.slice ya e.value.length yc)).toArray 29) := by rw [hw3]; exact Blk.alloc_new _ _ _
  have HK3 : Hid (Bytes (fun j => w.heap.size < j) w3 (.slice ka e.key.length kc) e.key) := by rw [hw3]; exact HK2.out.below ((Below.refl _ _).alloc (Nat.le_refl _) _)
  have HY3 : Hid (Bytes (fun j => w.heap.size < j) w3 (.slice ya e.value.length yc) e.value) := by rw [hw3]; exact HY2.out.below ((Below.refl _ _).alloc (Nat.le_refl _) _)
  have HEB : Hid (w.heap.size < w2.heap.size) := by obtain ⟨_, h, _⟩ := HR2.out; exact h.lt
  clear hw3 HK2 HY2 HR2 HV2 HW2 HZ1
  generalize w2.heap.size = eb at *
  clear w2
  have HS : Hid (∀ k, w.heap.size ≤ k → ¬ (k = m ∨ v.ownBlock = some k)) := fun k hk e => by
    rcases e with e | e
    · have := HM.out.1; omega
    · have := HM.out.2 k e; omega
  go_wp2_with fail
  go_loopg [] (total l) (fun n wr => ∃ v1 l1, n = total l1 ∧ Hid (HOk l1) ∧ Hid (Hv B F wr m v1 l1) ∧ Hid (v1.ownBlock = v.ownBlock ∧ HeapFrom l1 l1.length 0 ∧ Goes e l l1) ∧
    Hid ((∃ cs, Blk wr w.heap.size cs 29 ∧ cs.size = 4) ∧ Blk wr eb (entCells e (.slice ka e.key.length kc) (.slice ya e.value.length yc)).toArray 29) ∧
    Hid (Bytes (fun j => w.heap.size < j) wr (.slice ka e.key.length kc) e.key ∧ Bytes (fun j => w.heap.size < j) wr (.slice ya e.value.length yc) e.value) ∧ Hid (Wrote (fun k => k = m ∨ v.ownBlock = some k) w wr))
  case atStart => exact ⟨v, l, rfl, HOK.out, HV3.out, ⟨rfl, HP.out, .refl⟩, ⟨HR3.out, HE3.out⟩, ⟨HK3.out, HY3.out⟩, Wrote.of_below HW3.out⟩
  case round =>
    obtain ⟨v1, l1, hn, HO1, HV1, HG1, HB1, HKY, HWr⟩ := hrel
    have HNN := Lib.hid hn
    clear hn HV3 HR3 HE3 HK3 HY3 HW3
    by_cases hl : 0 < l1.length
    · obtain ⟨g, cap, rfl, _, hg, hf, hc⟩ := hds_at HV1.out.own hl
      obtain ⟨u, hu, c0, _⟩ := hc 0 hl
      have hne := HO1.out.ne _ (hat_mem hl)
      obtain ⟨bi, oi, capi, n, rfl, hnl, hn0, _, hbi, kk, vv, hk, hv, hci⟩ := ents0_at hu hne
      obtain ⟨k1a, k1c, rfl⟩ := hk.isSlice
      obtain ⟨v1a, v1c, rfl⟩ := hv.isSlice
      rw [Nat.zero_mul] at c0
      have hm : n ≤ 9223372036854775807 := by have := hu.len; unfold maxLen at this; omega
      have hlen := HO1.out.few
      have k0 : wr.drew.cell? ⟨m, 0, none⟩ = some (.slice (some ⟨g, 0, none⟩) l1.length cap) := HV1.out.cell
      have HK1 := Lib.hid (hk.below (below_drew (Below.refl _ _)))
      have HKE : Hid (Bytes (fun j => w.heap.size < j) wr.drew (.slice ka e.key.length kc) e.key) := HKY.out.1.below (below_drew (Below.refl _ _))
      have HL1 : Hid (0 < l1.length) := hl
      obtain ⟨c, hcc⟩ : ∃ c, Ent.cmp (hat l1 0).first e = c := ⟨_, rfl⟩
      have HC := Lib.hid hcc
      have HFF : Hid (C4o bi oi (hat l1 0).first (.slice k1a (hat l1 0).first.key.length k1c) (.slice v1a (hat l1 0).first.value.length v1c) wr.drew) := hci
      have HEE : Hid (C4o eb 0 e (.slice ka e.key.length kc) (.slice ya e.value.length yc) wr.drew) := ⟨HB1.out.2.cell rfl, HB1.out.2.cell rfl, HB1.out.2.cell rfl, HB1.out.2.cell rfl⟩
      have HA : Hid (wr.drew.cell? ⟨m, 0, none⟩ = some (.slice (some ⟨g, 0, none⟩) l1.length cap) ∧ wr.drew.cell? ⟨g, 0, none⟩ = some (.slice (some ⟨bi, oi, none⟩) n capi)) := ⟨k0, c0⟩
      have HZ : Hid (m < wr.drew.heap.size ∧ g < wr.drew.heap.size ∧ bi < wr.drew.heap.size ∧ eb < wr.drew.heap.size) := ⟨HV1.out.blk.lt, hg, hbi, HB1.out.2.lt⟩
      have HX : Hid (∃ x, (hat l1 0).first = x) := ⟨_, rfl⟩
      clear hc hf hu hk hv hci hbi c0 hne hg hcc k0 hnl
      generalize hx : (hat l1 0).first = x at *
      have HX1 := Lib.hid hx
      clear hx HX
      generalize hLL : l1.length = L at *
      have HL := Lib.hid hLL
      clear hLL
      have t1 : (0 : Int) < (L : Int) := by omega
      go_wp2_with fail
      go_region_held3 (fun w' => (w'.cell? ⟨m, 0, none⟩ = some (.slice (some ⟨g, 0, none⟩) L cap) ∧ w'.cell? ⟨g, 0, none⟩ = some (.slice (some ⟨bi, oi, none⟩) n capi)) ∧ (w'.cell? ⟨bi, oi, none⟩ = some (.slice k1a x.key.length k1c) ∧ w'.cell? ⟨bi, oi + 1, none⟩ = some (.int .u64 x.seq) ∧ w'.cell? ⟨bi, oi + 2, none⟩ = some (.int .i64 x.kind) ∧ w'.cell? ⟨bi, oi + 3, none⟩ = some (.slice v1a x.value.length v1c)) ∧ (w'.cell? ⟨eb, 0, none⟩ = some (.slice ka e.key.length kc) ∧ w'.cell? ⟨eb, 1, none⟩ = some (.int .u64 e.seq) ∧ w'.cell? ⟨eb, 2, none⟩ = some (.int .i64 e.kind) ∧ w'.cell? ⟨eb, 3, none⟩ = some (.slice ya e.value.length yc)))
        (first | exact ⟨HA.out, HFF.out, HEE.out⟩ | exact ⟨⟨(hbx1.cell (p := ⟨m, 0, none⟩) HZ.out.1).trans HA.out.1, (hbx1.cell (p := ⟨g, 0, none⟩) HZ.out.2.1).trans HA.out.2⟩, HFF.out.keep hbx1 HZ.out.2.2.1, HEE.out.keep hbx1 HZ.out.2.2.2⟩)
        (first | (go_at_call 59; refine Calls.mono (ecompare_at _ _ x e c HC.out (.slice k1a x.key.length k1c) (.slice v1a x.value.length v1c) (.slice ka e.key.length kc) (.slice ya e.value.length yc) _ HK1.out HKE.out) ?_; rintro _ x1 ⟨rfl, hbx1⟩; skip))
      have HB0 := Lib.hid (below_of_drew hbx1)
      have HVX := Lib.hid (HV1.out.below HB0.out)
      have HBX : Hid ((∃ cs, Blk x1 w.heap.size cs 29 ∧ cs.size = 4) ∧ Blk x1 eb (entCells e (.slice ka e.key.length kc) (.slice ya e.value.length yc)).toArray 29) :=
        ⟨HB1.out.1.imp fun cs h => ⟨h.1.below HB0.out h.1.lt, h.2⟩, HB1.out.2.below HB0.out HB1.out.2.lt⟩
      have HKX : Hid (Bytes (fun j => w.heap.size < j) x1 (.slice ka e.key.length kc) e.key ∧ Bytes (fun j => w.heap.size < j) x1 (.slice ya e.value.length yc) e.value) := ⟨HKY.out.1.below HB0.out, HKY.out.2.below HB0.out⟩
      have HWX := Lib.hid (HWr.out.trans (Wrote.of_below HB0.out))
      clear hbx1 HB0 HV1 HB1 HKY HWr HZ HA HEE HFF HK1 HKE
      by_cases hc : c = 0
      · subst hc
        go_wp2_with fail
        refine Calls.mono (step_any HVX.out HO1.out.few HO1.out.ne (by rw [HL.out]; exact HG1.out.2.1) (by rw [HL.out]; exact hl)) ?_
        rintro _ w4 ⟨v', l', rfl, g1, g2, g3, g4, g5⟩
        have hst := g4.ok HO1.out (by rw [HL.out]; exact hl)
        have hS : ∀ k, w.heap.size ≤ k → ¬ (k = m ∨ (Value.slice (some ⟨g, 0, none⟩) L cap).ownBlock = some k) := fun k hk e => HS.out k hk (e.imp id fun e => by rw [← HG1.out.1]; exact e)
        have HG4 : Hid (v'.ownBlock = v.ownBlock ∧ HeapFrom l' l'.length 0 ∧ Goes e l l') := ⟨g2.trans HG1.out.1, g3, Goes.step HG1.out.2.2 (by rw [HL.out]; exact hl) (by rw [HL.out]; exact HG1.out.2.1) (by rw [HX1.out]; exact HC.out) g4⟩
        have HB4 : Hid ((∃ cs, Blk w4 w.heap.size cs 29 ∧ cs.size = 4) ∧ Blk w4 eb (entCells e (.slice ka e.key.length kc) (.slice ya e.value.length yc)).toArray 29) :=
          ⟨HBX.out.1.imp fun cs h => ⟨g5.blk h.1 (hS _ (Nat.le_refl _)), h.2⟩, g5.blk HBX.out.2 (hS _ (Nat.le_of_lt HEB.out))⟩
        have HK4 : Hid (Bytes (fun j => w.heap.size < j) w4 (.slice ka e.key.length kc) e.key ∧ Bytes (fun j => w.heap.size < j) w4 (.slice ya e.value.length yc) e.value) :=
          ⟨g5.bytes HKX.out.1 fun k hk => hS k (Nat.le_of_lt hk), g5.bytes HKX.out.2 fun k hk => hS k (Nat.le_of_lt hk)⟩
        have HW4 : Hid (Wrote (fun k => k = m ∨ v.ownBlock = some k) w w4) := HWX.out.trans (g5.mono fun k e => e.imp id fun e => by rw [← HG1.out.1]; exact e)
        have HV4 := Lib.hid g1
        have HO4 := Lib.hid hst
        clear g1 g2 g3 g4 g5 hst hS
        go_wp2_with fail
        go_roundg (total l')
        case measure => rw [HNN.out]; exact HO4.out.2
        case rel => exact ⟨v', l', rfl, HO4.out.1, HV4.out, HG4.out, HB4.out, HK4.out, HW4.out⟩
      · have hc0 : (c == 0) = false := beq_eq_false_iff_ne.2 hc
        have q0 : x1.cell? ⟨eb, 0, none⟩ = some (.slice ka e.key.length kc) := HBX.out.2.cell rfl
        have q1 : x1.cell? ⟨eb, 1, none⟩ = some (.int .u64 e.seq) := HBX.out.2.cell rfl
        have q2 : x1.cell? ⟨eb, 2, none⟩ = some (.int .i64 e.kind) := HBX.out.2.cell rfl
        have q3 : x1.cell? ⟨eb, 3, none⟩ = some (.slice ya e.value.length yc) := HBX.out.2.cell rfl
        obtain ⟨cs, hc1, hc2⟩ := HBX.out.1
        have HC3 := Lib.hid hc1
        have HS3 := Lib.hid hc2
        clear hc1 hc2
        go_wp2_with (with_reducible refine pause_store ?_)
        refine Pause.go (wpList_store_agg rfl _ _ _ rfl w.heap.size 0 rfl _ rfl _ _ HC3.out (by kernel_rfl) (by rw [HS3.out]; exact Nat.le_refl _) (fun u hu => by simp at hu; rcases hu with rfl | rfl | rfl | rfl <;> rfl) ?_)
        rw [over_all cs _ (by rw [HS3.out]; rfl)]
        refine list_gen fun W4 hW4 => ?_
        have HC4 : Hid (Blk W4 w.heap.size (entCells e (.slice ka e.key.length kc) (.slice ya e.value.length yc)).toArray 29) := by rw [hW4]; exact HC3.out.row _
        have HD : Hid (NextPost B F m v l w (.returned (.tuple #[.agg (entCells e (.slice ka e.key.length kc) (.slice ya e.value.length yc)).toArray, .bool true])) W4) := by
          rw [hW4]
          have hne := HS.out w.heap.size (Nat.le_refl _)
          have hb4 : ∀ k, k ≠ w.heap.size → (x1.setRow w.heap.size #[.slice ka e.key.length kc, .int .u64 e.seq, .int .i64 e.kind, .slice ya e.value.length yc]).heap[k]? = x1.heap[k]? := fun k hk => setRow_other x1 w.heap.size k _ hk
          refine ⟨_, _, _, l1, by rw [HE.out], ?_, ?_, HVX.out.keep_row (fun k hk => hb4 k hk) ?_, HG1.out.1, HO1.out, by rw [HL.out]; exact HG1.out.2.1, by rw [HE.out]; exact HG1.out.2.2, (fun _ => by rw [HE.out, HX1.out, HC.out]; exact hc), HWX.out.setRow (.inr (Nat.le_refl _)) _⟩
          · rw [HE.out]
            exact (HKX.out.1.keep fun k _ hk => hb4 k (by omega)).mono fun k _ hk => Nat.le_of_lt hk
          · rw [HE.out]
            exact (HKX.out.2.keep fun k _ hk => hb4 k (by omega)).mono fun k _ hk => Nat.le_of_lt hk
          · exact ⟨fun e => hne (.inl e), fun e => hne (.inr (by rw [← HG1.out.1]; exact e)), fun e => by have := HF.out _ e; omega⟩
        clear hW4
        go_wp2_with fail
        refine bodyPost_ret (results_cell_tmp1 (p := 2) (t := 3) rfl _ _ w.heap.size 29 (entCells e (.slice ka e.key.length kc) (.slice ya e.value.length yc)).toArray _ rfl HC4.out Try.underlying29 rfl (by kernel_rfl)) rfl ?_
        exact HD.out
    · obtain ⟨a1, c1, rfl⟩ := HV1.out.own.isSlice
      have hL0 : l1.length = 0 := by omega
      have HL0 := Lib.hid hL0
      have k0 : wr.cell? ⟨m, 0, none⟩ = some (.slice a1 l1.length c1) := HV1.out.cell
      rw [hL0] at k0
      have t1 : decide ((0 : Int) < (0 : Int)) = false := rfl
      clear hL0
      go_wp2_with fail
      go_quiet (fail)
      all_goals
        go_upto_region 6 with fail
        refine wp_gen fun wq hwq => ?_
        have HB0 : Hid (Below wr.heap.size wr wq) := by rw [hwq]; exact below_dn (Below.refl _ _) _
        clear hwq
        have HVX := Lib.hid (HV1.out.below HB0.out)
        have HBX : Hid ((∃ cs, Blk wq w.heap.size cs 29 ∧ cs.size = 4) ∧ Blk wq eb (entCells e (.slice ka e.key.length kc) (.slice ya e.value.length yc)).toArray 29) :=
          ⟨HB1.out.1.imp fun cs h => ⟨h.1.below HB0.out h.1.lt, h.2⟩, HB1.out.2.below HB0.out HB1.out.2.lt⟩
        have HKX : Hid (Bytes (fun j => w.heap.size < j) wq (.slice ka e.key.length kc) e.key ∧ Bytes (fun j => w.heap.size < j) wq (.slice ya e.value.length yc) e.value) := ⟨HKY.out.1.below HB0.out, HKY.out.2.below HB0.out⟩
        have HWX := Lib.hid (HWr.out.trans (Wrote.of_below HB0.out))
        clear HB0 HV1 HB1 HKY HWr
        have q0 : wq.cell? ⟨eb, 0, none⟩ = some (.slice ka e.key.length kc) := HBX.out.2.cell rfl
        have q1 : wq.cell? ⟨eb, 1, none⟩ = some (.int .u64 e.seq) := HBX.out.2.cell rfl
        have q2 : wq.cell? ⟨eb, 2, none⟩ = some (.int .i64 e.kind) := HBX.out.2.cell rfl
        have q3 : wq.cell? ⟨eb, 3, none⟩ = some (.slice ya e.value.length yc) := HBX.out.2.cell rfl
        obtain ⟨cs, hc1, hc2⟩ := HBX.out.1
        have HC3 := Lib.hid hc1
        have HS3 := Lib.hid hc2
        clear hc1 hc2
        go_wp2_with (with_reducible refine pause_store ?_)
        refine Pause.go (wpList_store_agg rfl _ _ _ rfl w.heap.size 0 rfl _ rfl _ _ HC3.out (by kernel_rfl) (by rw [HS3.out]; exact Nat.le_refl _) (fun u hu => by simp at hu; rcases hu with rfl | rfl | rfl | rfl <;> rfl) ?_)
        rw [over_all cs _ (by rw [HS3.out]; rfl)]
        refine list_gen fun W4 hW4 => ?_
        have HC4 : Hid (Blk W4 w.heap.size (entCells e (.slice ka e.key.length kc) (.slice ya e.value.length yc)).toArray 29) := by rw [hW4]; exact HC3.out.row _
        have HD : Hid (NextPost B F m v l w (.returned (.tuple #[.agg (entCells e (.slice ka e.key.length kc) (.slice ya e.value.length yc)).toArray, .bool true])) W4) := by
          rw [hW4]
          have hne := HS.out w.heap.size (Nat.le_refl _)
          have hb4 : ∀ k, k ≠ w.heap.size → (wq.setRow w.heap.size #[.slice ka e.key.length kc, .int .u64 e.seq, .int .i64 e.kind, .slice ya e.value.length yc]).heap[k]? = wq.heap[k]? := fun k hk => setRow_other wq w.heap.size k _ hk
          refine ⟨_, _, _, l1, by rw [HE.out], ?_, ?_, HVX.out.keep_row (fun k hk => hb4 k hk) ?_, HG1.out.1, HO1.out, by rw [HL0.out]; exact HeapFrom.half _ _ _ (Nat.zero_le _), by rw [HE.out]; exact HG1.out.2.2, (fun h => by have := HL0.out; omega), HWX.out.setRow (.inr (Nat.le_refl _)) _⟩
          · rw [HE.out]
            exact (HKX.out.1.keep fun k _ hk => hb4 k (by omega)).mono fun k _ hk => Nat.le_of_lt hk
          · rw [HE.out]
            exact (HKX.out.2.keep fun k _ hk => hb4 k (by omega)).mono fun k _ hk => Nat.le_of_lt hk
          · exact ⟨fun e => hne (.inl e), fun e => hne (.inr (by rw [← HG1.out.1]; exact e)), fun e => by have := HF.out _ e; omega⟩
        clear hW4
        go_wp2_with fail
        refine bodyPost_ret (results_cell_tmp1 (p := 2) (t := 3) rfl _ _ w.heap.size 29 (entCells e (.slice ka e.key.length kc) (.slice ya e.value.length yc)).toArray _ rfl HC4.out Try.underlying29 rfl (by kernel_rfl)) rfl ?_
        exact HD.out

theorem next_any (h : Hv B F w m v l) (hok : HOk l) (hp : HeapFrom l l.length 0) (h0 : 0 < l.length) :
    Calls Try.prog 23 #[.pointer (some ⟨m, 0, none⟩)] w (NextPost B F m v l w) := by
  have h1 : Hv B (fun k => F k ∧ k < w.heap.size) w m v l := ⟨h.blk, h.own.mono fun k hk hF _ => ⟨hF, hk⟩, h.ne, fun e => h.nm e.1⟩
  refine (next_core (fun k e => e.2) h1 hok hp h0).mono fun x w' ⟨k, y, v', l', g1, g2, g3, g4, g5, g6, g7, g8, g9, g10⟩ => ?_
  exact ⟨k, y, v', l', g1, g2, g3, ⟨g4.blk, g4.own.mono fun k _ e _ => e.1, g4.ne, h.nm⟩, g5, g6, g7, g8, g9, g10⟩
end
end Go.Proofs.Ytmpapipobjoboaa
