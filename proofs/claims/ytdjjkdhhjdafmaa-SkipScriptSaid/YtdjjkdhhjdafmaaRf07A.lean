/- bootprintref07: its table in memory; New, place, is, sameKey, Seek, Get, Height, SizeOf. -/
import Derived.Test.YtdjjkdhhjdafmaaRf06
import Derived.Test.YtdjjkdhhjdafmaaSkH
import Derived.Test.YtdjjkdhhjdafmaaAppN
namespace Go.Proofs.Ytdjjkdhhjdafmaa
open Go.RowKit

/-- Heights. -/
def natK : Kind Nat := plainK 1 (by decide) (fun n => [.int .i64 (n : Int)]) (fun _ => rfl) (fun n u hu => by simp at hu; rw [hu]; rfl)
theorem nats_at {F : Nat → Prop} {w : World} {v : Value} {ns : List Nat} (h : Rw natK F w v ns) (hne : 0 < ns.length) :
    ∃ b off cap, v = .slice (some ⟨b, off, none⟩) ns.length cap ∧ b < w.heap.size ∧ ∀ i (hi : i < ns.length), w.cell? ⟨b, off + i, none⟩ = some (.int .i64 (ns[i] : Int)) := by
  obtain ⟨b, off, cap, e, _, hb, _, _, hc⟩ := h.place hne
  refine ⟨b, off, cap, e, hb, fun i hi => ?_⟩
  obtain ⟨es, he, hes⟩ := hc i hi
  have he' : es = [.int .i64 (ns[i] : Int)] := he
  subst he'
  have := hes 0 _ rfl
  rwa [show natK.sz = 1 from rfl, Nat.mul_one, Nat.add_zero] at this

/-- The document's table: block rb; what its rows hold lies in blocks of p. -/
def RfT (p : Nat → Prop) (w : World) (rb : Nat) (es : List Ent) (hs : List Nat) : Prop :=
  ∃ v vh, Blk w rb #[v, vh] 55 ∧ Rw entK (fun k => p k ∧ k ≠ rb) w v es ∧ Rw natK (fun k => p k ∧ k ≠ rb) w vh hs

section
variable {p q : Nat → Prop} {w w' : World} {rb : Nat} {es : List Ent} {hs : List Nat}
theorem RfT.keep (h : RfT p w rb es hs) (hk : ∀ k, k < w.heap.size → (k = rb ∨ (p k ∧ k ≠ rb)) → w'.heap[k]? = w.heap[k]?) : RfT p w' rb es hs := by
  obtain ⟨v, vh, h1, h2, h3⟩ := h
  exact ⟨v, vh, h1.same (hk rb h1.lt (.inl rfl)), h2.keep fun k hk' hp => hk k hk' (.inr hp), h3.keep fun k hk' hp => hk k hk' (.inr hp)⟩
theorem RfT.below (h : RfT p w rb es hs) (hb : Below w.heap.size w w') : RfT p w' rb es hs := h.keep fun k hk _ => hb.block k hk
theorem RfT.mono (h : RfT p w rb es hs) (hq : ∀ k, k < w.heap.size → p k → q k) : RfT q w rb es hs := by
  obtain ⟨v, vh, h1, h2, h3⟩ := h
  exact ⟨v, vh, h1, h2.mono fun k hk hp => ⟨hq k hk hp.1, hp.2⟩, h3.mono fun k hk hp => ⟨hq k hk hp.1, hp.2⟩⟩
theorem RfT.lt (h : RfT p w rb es hs) : rb < w.heap.size := by obtain ⟨v, vh, h1, _⟩ := h; exact h1.lt
/-- Its cells. -/
theorem RfT.cells (h : RfT p w rb es hs) : ∃ a c ah ch, w.cell? ⟨rb, 0, none⟩ = some (.slice a es.length c) ∧ w.cell? ⟨rb, 1, none⟩ = some (.slice ah hs.length ch) ∧ Rw entK (fun k => p k ∧ k ≠ rb) w (.slice a es.length c) es ∧ Rw natK (fun k => p k ∧ k ≠ rb) w (.slice ah hs.length ch) hs := by
  obtain ⟨v, vh, h1, h2, h3⟩ := h
  obtain ⟨a, c, rfl⟩ := h2.isSlice
  obtain ⟨ah, ch, rfl⟩ := h3.isSlice
  exact ⟨a, c, ah, ch, h1.cell rfl, h1.cell rfl, h2, h3⟩
end

theorem rfNew_any (w : World) :
    Calls Try.prog 24 #[] w fun x w' => x = .returned (.pointer (some ⟨w.heap.size, 0, none⟩)) ∧ RfT (fun _ => False) w' w.heap.size [] [] ∧ Below w.heap.size w w' := by
  go_enter Try.func24, Try.ntmps24
  go_wp2_with fail
  go_ret
  exact ⟨rfl, ⟨_, _, Blk.at_new rfl rfl, Rw.nil _ _ _, Rw.nil _ _ _⟩, (Below.refl _ _).alloc (Nat.le_refl _) _⟩

/-- How many entries are ahead. -/
def placeOf (e : Ent) (es : List Ent) : Nat := (es.takeWhile fun x => decide (Ent.cmp x e < 0)).length
theorem placeOf_le (e : Ent) : ∀ es : List Ent, placeOf e es ≤ es.length
  | [] => Nat.le_refl _
  | x :: es => by
    unfold placeOf
    rw [List.takeWhile_cons]
    have := placeOf_le e es
    unfold placeOf at this
    split
    · rw [List.length_cons, List.length_cons]; omega
    · exact Nat.zero_le _
theorem placeOf_lt {e x : Ent} (es : List Ent) (h : Ent.cmp x e < 0) : placeOf e (x :: es) = 1 + placeOf e es := by
  unfold placeOf
  rw [List.takeWhile_cons, if_pos (by simpa using h), List.length_cons, Nat.add_comm]
theorem placeOf_ge {e x : Ent} (es : List Ent) (h : ¬ Ent.cmp x e < 0) : placeOf e (x :: es) = 0 := by
  unfold placeOf
  rw [List.takeWhile_cons, if_neg (by simpa using h)]
  rfl

set_option maxRecDepth 100000 in
set_option maxHeartbeats 1000000 in
theorem place_any (p : Nat → Prop) (rb : Nat) (es : List Ent) (hs : List Nat) (G : Nat → Prop) (key : List UInt8) (seq : Int) (vk : Value) (w : World) (h : RfT p w rb es hs) (hk : Bytes G w vk key) :
    Calls Try.prog 46 #[.pointer (some ⟨rb, 0, none⟩), vk, .int .u64 seq] w fun x w' => x = .returned (.int .i64 (placeOf (plc key seq) es : Int)) ∧ Below w.heap.size w w' := by
  obtain ⟨ka, kc, rfl⟩ := hk.isSlice
  have HI := Lib.hid h
  have HK := Lib.hid hk
  clear h hk
  obtain ⟨r, hr⟩ : ∃ r, placeOf (plc key seq) es = r := ⟨_, rfl⟩
  rw [hr]
  have HR : Hid (r = 0 + placeOf (plc key seq) (es.drop 0)) := by show _ = _; rw [← hr, Nat.zero_add]; rfl
  clear hr
  have hml : es.length ≤ maxLen := by obtain ⟨_, _, _, h2, _⟩ := HI.out; exact h2.len
  simp only [maxLen] at hml
  go_enter Try.func46, Try.ntmps46
  go_wp2_with fail
  go_loopw [7] (fun i wr => ∃ j : Nat, i = .int .i64 (j : Int) ∧ j ≤ es.length ∧ Hid (r = j + placeOf (plc key seq) (es.drop j)) ∧ Hid (Below w.heap.size w wr)) (fun i _ => es.length - (intOf i).toNat)
  case atStart => exact ⟨0, rfl, by omega, HR, Below.refl _ _⟩
  case round =>
    clear HR
    obtain ⟨j, rfl, hj, HE, HB⟩ := hrel
    have HIr := Lib.hid (HI.out.below HB.out)
    have HKr := Lib.hid (HK.out.below HB.out)
    obtain ⟨a, c, ah, ch, k0, _, hrw, _⟩ := HIr.out.cells
    have HRW := Lib.hid hrw
    clear hrw
    by_cases hlt : j < es.length
    · have hjl : (j : Int) < (es.length : Int) := by omega
      obtain ⟨vb0, vo, vc, e1, _, hvb, hcs⟩ := ents_at HRW.out (by omega)
      injection e1 with e1 _ e3
      subst e1 e3
      obtain ⟨ke, ve, hke, hve, c0, c1, c2, c3⟩ := hcs j hlt
      obtain ⟨kea, kec, rfl⟩ := hke.isSlice
      obtain ⟨vea, vec, rfl⟩ := hve.isSlice
      have HKE := Lib.hid hke
      have hE := HE.out
      rw [List.drop_eq_getElem_cons hlt] at hE
      clear hcs hke hve hvb HE
      generalize es[j] = e at *
      have HE2 := Lib.hid hE
      clear hE
      go_wp2_with fail
      refine Calls.mono (rcompare_any _ _ e (plc key seq) (.slice kea e.key.length kec) (.slice vea e.value.length vec) (.slice ka key.length kc) (.slice none 0 0) _ HKE.out HKr.out) ?_
      rintro _ w2 ⟨rfl, hb2⟩
      have HB2 : Hid (Below w.heap.size w w2) := HB.out.trans (hb2.mono HB.out.size)
      clear hb2 c0 c1 c2 c3 k0 HRW HIr HKr HKE HB
      by_cases hc : Ent.cmp e (plc key seq) < 0
      · have HF : Hid (r = (j + 1) + placeOf (plc key seq) (es.drop (j + 1))) := by show _ = _; rw [HE2.out, placeOf_lt _ hc]; omega
        generalize Ent.cmp e (plc key seq) = cc at *
        clear HE2
        go_wp2_with fail
        go_roundw
        · exact ⟨j + 1, by go_num, by omega, HF, HB2⟩
        · simp only [intOf]; omega
      · have HF : Hid ((j : Int) = (r : Int)) := by show _ = _; rw [HE2.out, placeOf_ge _ hc]; rfl
        generalize Ent.cmp e (plc key seq) = cc at *
        clear HE2
        go_wp2_with fail
        go_ret
        exact ⟨ret_int HF.out, HB2.out⟩
    · have hjl : ¬ (j : Int) < (es.length : Int) := by omega
      have HF : Hid ((j : Int) = (r : Int)) := by show _ = _; rw [HE.out, List.drop_eq_nil_of_le (by omega)]; rfl
      go_wp2_with fail
      go_ret
      exact ⟨ret_int HF.out, HB.out⟩

/-- Is an entry of that place there? -/
def isOf (d : Ent) (es : List Ent) (i : Nat) : Bool := match es[i]? with
  | some e => Ent.cmp e d == 0
  | none => false

set_option maxRecDepth 100000 in
theorem rfIs_any (p : Nat → Prop) (rb : Nat) (es : List Ent) (hs : List Nat) (G : Nat → Prop) (i : Nat) (key : List UInt8) (seq : Int) (vk : Value) (w : World) (h : RfT p w rb es hs) (hk : Bytes G w vk key) :
    Calls Try.prog 47 #[.pointer (some ⟨rb, 0, none⟩), .int .i64 (i : Int), vk, .int .u64 seq] w fun x w' => x = .returned (.bool (isOf (plc key seq) es i)) ∧ Below w.heap.size w w' := by
  obtain ⟨ka, kc, rfl⟩ := hk.isSlice
  have HI := Lib.hid h
  have HK := Lib.hid hk
  clear h hk
  have hml : es.length ≤ maxLen := by obtain ⟨_, _, _, h2, _⟩ := HI.out; exact h2.len
  simp only [maxLen] at hml
  obtain ⟨a, c, ah, ch, k0, _, hrw, _⟩ := HI.out.cells
  have HRW := Lib.hid hrw
  clear hrw
  obtain ⟨r, hr⟩ : ∃ r, isOf (plc key seq) es i = r := ⟨_, rfl⟩
  rw [hr]
  unfold isOf at hr
  by_cases hlt : i < es.length
  · have hjl : (i : Int) < (es.length : Int) := by omega
    obtain ⟨vb0, vo, vc, e1, _, hvb, hcs⟩ := ents_at HRW.out (by omega)
    injection e1 with e1 _ e3
    subst e1 e3
    obtain ⟨ke, ve, hke, hve, c0, c1, c2, c3⟩ := hcs i hlt
    obtain ⟨kea, kec, rfl⟩ := hke.isSlice
    obtain ⟨vea, vec, rfl⟩ := hve.isSlice
    have HKE := Lib.hid hke
    rw [List.getElem?_eq_getElem hlt] at hr
    clear hcs hke hve hvb
    generalize es[i] = e at *
    have HR : Hid ((Ent.cmp e (plc key seq) == 0) = r) := hr
    clear hr
    go_enter Try.func47, Try.ntmps47
    go_wp2_with fail
    refine Calls.mono (rcompare_any _ _ e (plc key seq) (.slice kea e.key.length kec) (.slice vea e.value.length vec) (.slice ka key.length kc) (.slice none 0 0) _ HKE.out HK.out) ?_
    rintro _ w2 ⟨rfl, hb2⟩
    have HB2 := Lib.hid hb2
    clear hb2 c0 c1 c2 c3 k0 HRW HI HK HKE
    generalize Ent.cmp e (plc key seq) = cc at *
    go_wp2_with fail
    go_ret
    exact ⟨ret_bool HR.out, HB2.out⟩
  · have hjl : ¬ (i : Int) < (es.length : Int) := by omega
    rw [List.getElem?_eq_none (by omega)] at hr
    have HR : Hid (false = r) := hr
    clear hr
    go_enter Try.func47, Try.ntmps47
    go_wp2_with fail
    go_ret
    exact ⟨ret_bool HR.out, Below.refl _ _⟩

/-- An entry, and a word about it, that are told: it may lie in blocks of p. -/
def EntIn (p : Nat → Prop) (w : World) (e : Ent) (c : Value) (x : Ending) (w' : World) : Prop :=
  ∃ vk vv, x = .returned (.tuple #[.agg (entCells e vk vv).toArray, c]) ∧ Bytes p w' vk e.key ∧ Bytes p w' vv e.value ∧ Below w.heap.size w w'

theorem EntIn.zero {p : Nat → Prop} {w w' : World} {c : Value} (hw : Below w.heap.size w w') : EntIn p w noEnt c (.returned (.tuple #[.agg zeroE, c])) w' :=
  ⟨.slice none 0 0, .slice none 0 0, rfl, Bytes.nil _ _, Bytes.nil _ _, hw⟩

/-- What is told of a place. -/
def refSeek (d : Ent) (es : List Ent) : Option Ent := es[placeOf d es]?

set_option maxRecDepth 100000 in
theorem rfSeek_any (p : Nat → Prop) (rb : Nat) (es : List Ent) (hs : List Nat) (G : Nat → Prop) (key : List UInt8) (seq : Int) (vk : Value) (w : World) (h : RfT p w rb es hs) (hk : Bytes G w vk key) :
    Calls Try.prog 28 #[.pointer (some ⟨rb, 0, none⟩), vk, .int .u64 seq] w (EntIn p w ((refSeek (plc key seq) es).getD noEnt) (.bool (refSeek (plc key seq) es).isSome)) := by
  obtain ⟨ka, kc, rfl⟩ := hk.isSlice
  have HI := Lib.hid (h.mono (q := fun k => p k ∧ k < w.heap.size) fun k hk hp => ⟨hp, hk⟩)
  have HK := Lib.hid hk
  clear h hk
  have hml : es.length ≤ maxLen := by obtain ⟨_, _, _, h2, _⟩ := HI.out; exact h2.len
  simp only [maxLen] at hml
  obtain ⟨r, hr⟩ : ∃ r, refSeek (plc key seq) es = r := ⟨_, rfl⟩
  rw [hr]
  have HR : Hid (es[placeOf (plc key seq) es]? = r) := hr
  clear hr
  have hpl := placeOf_le (plc key seq) es
  go_enter Try.func28, Try.ntmps28
  go_upto_region 1 with fail
  refine wp_gen fun w1 hw1 => ?_
  have HW1 : Hid (Below w.heap.size w w1) := by rw [hw1]; exact (Below.refl _ _).alloc (Nat.le_refl _) _
  have HR1 : Hid (Blk w1 w.heap.size zeroE 34) := by rw [hw1]; exact Blk.at_new rfl rfl
  clear hw1
  go_wp2_with fail
  refine Calls.mono (place_any _ rb es hs _ key seq _ w1 (HI.out.below HW1.out) (HK.out.below HW1.out)) ?_
  rintro _ w2 ⟨rfl, hb2⟩
  have HW2 : Hid (Below w.heap.size w w2) := HW1.out.trans (hb2.mono HW1.out.size)
  have HR2 := Lib.hid (HR1.out.below hb2 HR1.out.lt)
  have HI2 := Lib.hid (HI.out.below HW2.out)
  clear hb2 HR1 HI HK HW1
  obtain ⟨a, c, ah, ch, k0, _, hrw, _⟩ := HI2.out.cells
  have HRW := Lib.hid hrw
  clear hrw
  generalize placeOf (plc key seq) es = i at *
  by_cases hlt : i < es.length
  · have hne : ((i : Int) == (es.length : Int)) = false := beq_eq_false_iff_ne.2 (by omega)
    have hjl : (i : Int) < (es.length : Int) := by omega
    obtain ⟨vb0, vo, vc, e1, _, hvb, hcs⟩ := ents_at HRW.out (by omega)
    injection e1 with e1 _ e3
    subst e1 e3
    obtain ⟨ke, ve, hke, hve, c0, c1, c2, c3⟩ := hcs i hlt
    obtain ⟨kea, kec, rfl⟩ := hke.isSlice
    obtain ⟨vea, vec, rfl⟩ := hve.isSlice
    have HKE : Hid (Bytes (fun k => p k ∧ k < w.heap.size) w2 (.slice kea es[i].key.length kec) es[i].key) := hke.mono fun _ _ h => h.1
    have HVE : Hid (Bytes (fun k => p k ∧ k < w.heap.size) w2 (.slice vea es[i].value.length vec) es[i].value) := hve.mono fun _ _ h => h.1
    have hr := HR.out
    rw [List.getElem?_eq_getElem hlt] at hr
    have HRR := Lib.hid hr
    clear hcs hke hve hvb hr HR
    generalize es[i] = e at *
    go_wp2_with (with_reducible refine pause_store ?_)
    refine Pause.go (wpList_store_agg rfl _ _ _ rfl w.heap.size 0 rfl (entCells e (.slice kea e.key.length kec) (.slice vea e.value.length vec)).toArray rfl zeroE _ HR2.out (by kernel_rfl) (by simp [zeroE, entCells]) (fun u hu => by simp [entCells] at hu; rcases hu with rfl | rfl | rfl | rfl <;> rfl) ?_)
    rw [over_all zeroE _ (by simp [zeroE, entCells])]
    refine list_gen fun w3 hw3 => ?_
    have HX3 : Hid (Blk w3 w.heap.size (entCells e (.slice kea e.key.length kec) (.slice vea e.value.length vec)).toArray 34) := by rw [hw3]; exact HR2.out.row _
    have HW3 : Hid (Below w.heap.size w w3) := by rw [hw3]; exact below_setRow HW2.out (Nat.le_refl _) _
    have HK3 : Hid (Bytes p w3 (.slice kea e.key.length kec) e.key) := by
      rw [hw3]
      exact (HKE.out.keep fun k _ hk => setRow_other w2 w.heap.size k _ (by omega)).mono fun _ _ hk => hk.1
    have HV3 : Hid (Bytes p w3 (.slice vea e.value.length vec) e.value) := by
      rw [hw3]
      exact (HVE.out.keep fun k _ hk => setRow_other w2 w.heap.size k _ (by omega)).mono fun _ _ hk => hk.1
    clear hw3 c0 c1 c2 c3 k0
    go_wp2_with fail
    refine bodyPost_ret (results_cell_tmp1 (p := 6) (t := 7) rfl _ _ w.heap.size 34 (entCells e (.slice kea e.key.length kec) (.slice vea e.value.length vec)).toArray _ rfl HX3.out Try.underlying34 rfl (by kernel_rfl)) rfl ?_
    rw [← HRR.out]
    exact ⟨_, _, rfl, HK3.out, HV3.out, HW3.out⟩
  · have hne : ((i : Int) == (es.length : Int)) = true := beq_iff_eq.2 (by omega)
    have hr := HR.out
    rw [List.getElem?_eq_none (by omega)] at hr
    have HRR := Lib.hid hr
    clear hr HR
    go_wp2_with (with_reducible refine pause_store ?_)
    refine Pause.go (wpList_store_agg rfl _ _ _ rfl w.heap.size 0 rfl zeroE rfl _ _ HR2.out (by kernel_rfl) (by simp [zeroE]) zeroE_one ?_)
    rw [over_all zeroE _ rfl]
    refine list_gen fun w4 hw4 => ?_
    have HR4 : Hid (Blk w4 w.heap.size zeroE 34) := by rw [hw4]; exact HR2.out.row _
    have HW4 : Hid (Below w.heap.size w w4) := by rw [hw4]; exact below_setRow HW2.out (Nat.le_refl _) _
    clear hw4
    go_wp2_with fail
    refine bodyPost_ret (results_cell_tmp1 (p := 6) (t := 7) rfl _ _ w.heap.size 34 zeroE _ rfl HR4.out Try.underlying34 rfl (by kernel_rfl)) rfl ?_
    rw [← HRR.out]
    exact EntIn.zero HW4.out

theorem same_key (a b : List UInt8) : (!Op.bytesLess a b && !Op.bytesLess b a) = decide (a = b) := by
  have h := bless_tot a b
  cases h1 : Op.bytesLess a b with
  | true =>
    have : a ≠ b := fun e => by subst e; rw [h1] at h; simp at h
    simp [this]
  | false =>
    rw [h1, Bool.false_or] at h
    rw [← h]
    by_cases e : a = b <;> simp [e]

theorem rfSameKey_any (F G : Nat → Prop) (va : Value) (xs : List UInt8) (vb : Value) (ys : List UInt8) (w : World) (ha : Bytes F w va xs) (hb : Bytes G w vb ys) :
    Calls Try.prog 48 #[va, vb] w fun e w' => e = .returned (.bool (decide (xs = ys))) ∧ Below w.heap.size w w' := by
  obtain ⟨aa, ca, rfl⟩ := ha.isSlice
  obtain ⟨ab, cb, rfl⟩ := hb.isSlice
  have HA := Lib.hid ha
  have HB := Lib.hid hb
  clear ha hb
  have HR := Lib.hid (same_key xs ys)
  go_enter Try.func48, Try.ntmps48
  go_wp2_with fail
  refine Calls.mono (rbefore_any _ _ _ xs _ ys w HA.out HB.out) ?_
  rintro _ w1 ⟨rfl, hn⟩
  have HW1 := Lib.hid (below_drewN hn)
  clear hn
  cases h1 : Op.bytesLess xs ys with
  | true =>
    have HD : Hid (false = decide (xs = ys)) := by show _ = _; rw [← HR.out, h1]; rfl
    go_wp2_with fail
    go_ret
    exact ⟨ret_bool HD.out, HW1.out⟩
  | false =>
    have HD : Hid ((!Op.bytesLess ys xs) = decide (xs = ys)) := by show _ = _; rw [← HR.out, h1]; rfl
    go_wp2_with fail
    refine Calls.mono (rbefore_any _ _ _ ys _ xs w1 (HB.out.below HW1.out) (HA.out.below HW1.out)) ?_
    rintro _ w2 ⟨rfl, hn⟩
    have HW2 : Hid (Below w.heap.size w w2) := HW1.out.trans ((below_drewN hn).mono HW1.out.size)
    clear hn
    generalize Op.bytesLess ys xs = r at *
    go_wp2_with fail
    go_ret
    exact ⟨ret_bool HD.out, HW2.out⟩

/-- What Get tells. -/
def refGet (key : List UInt8) (seq : Int) (es : List Ent) : Option Ent := match refSeek (plc key seq) es with
  | some e => if e.key = key then some e else none
  | none => none

set_option maxRecDepth 100000 in
theorem rfGet_any (p : Nat → Prop) (rb : Nat) (es : List Ent) (hs : List Nat) (G : Nat → Prop) (key : List UInt8) (seq : Int) (vk : Value) (w : World) (h : RfT p w rb es hs) (hk : Bytes G w vk key) :
    Calls Try.prog 27 #[.pointer (some ⟨rb, 0, none⟩), vk, .int .u64 seq] w (EntIn p w ((refGet key seq es).getD noEnt) (.int .i64 (getCode (refGet key seq es)))) := by
  obtain ⟨ka, kc, rfl⟩ := hk.isSlice
  have HI := Lib.hid (h.mono (q := fun k => p k ∧ k < w.heap.size) fun k hk hp => ⟨hp, hk⟩)
  have HK := Lib.hid hk
  clear h hk
  obtain ⟨r, hr⟩ : ∃ r, refGet key seq es = r := ⟨_, rfl⟩
  rw [hr]
  unfold refGet at hr
  have HR := Lib.hid hr
  clear hr
  go_enter Try.func27, Try.ntmps27
  go_upto_region 1 with fail
  refine wp_gen fun w1 hw1 => ?_
  have HW1 : Hid (Below w.heap.size w w1) := by rw [hw1]; exact (Below.refl _ _).alloc (Nat.le_refl _) _
  have HR1 : Hid (Blk w1 w.heap.size zeroE 34) := by rw [hw1]; exact Blk.at_new rfl rfl
  clear hw1
  go_wp2_with fail
  refine Calls.mono (rfSeek_any _ rb es hs _ key seq _ w1 (HI.out.below HW1.out) (HK.out.below HW1.out)) ?_
  rintro _ w2 ⟨vk, vv, rfl, hk2, hv2, hb2⟩
  generalize hq : refSeek (plc key seq) es = q at *
  have hr := HR.out
  have HW2 : Hid (Below w.heap.size w w2) := HW1.out.trans (hb2.mono HW1.out.size)
  have HR2 := Lib.hid (HR1.out.below hb2 HR1.out.lt)
  have HKq := Lib.hid hk2
  have HVq := Lib.hid hv2
  obtain ⟨ka1, kc1, rfl⟩ := hk2.isSlice
  obtain ⟨va1, vc1, rfl⟩ := hv2.isSlice
  clear hk2 hv2 hb2 HR1 HI HW1 hq HR
  unfold entCells
  go_upto_region 2 with fail
  refine wp_gen fun w3 hw3 => ?_
  have HC3 : Hid (Below w2.heap.size w2 w3) := by rw [hw3]; exact (Below.refl _ _).alloc (Nat.le_refl _) _
  have HX3 : Hid (Blk w3 w2.heap.size (entCells (q.getD noEnt) (.slice ka1 (q.getD noEnt).key.length kc1) (.slice va1 (q.getD noEnt).value.length vc1)).toArray 34) := by rw [hw3]; exact Blk.at_new rfl rfl
  clear hw3
  have HW3 : Hid (Below w.heap.size w w3) := HW2.out.trans (HC3.out.mono HW2.out.size)
  have HR3 := Lib.hid (HR2.out.below HC3.out HR2.out.lt)
  have HK3 := Lib.hid (HKq.out.below HC3.out)
  have HV3 := Lib.hid (HVq.out.below HC3.out)
  clear HR2 HKq HVq
  have none_case : ∀ wz : World, Below w.heap.size w wz → r = none → EntIn p w (r.getD noEnt) (.int .i64 (getCode r)) (.returned (.tuple #[.agg zeroE, .int .i64 6])) wz := fun wz hw hn => by
    subst hn; exact EntIn.zero hw
  have HN := Lib.hid none_case
  clear none_case
  cases q with
  | none =>
    have HRR : Hid (r = none) := hr.symm
    clear hr
    rw [show (none : Option Ent).isSome = false from rfl]
    go_wp2_with (with_reducible refine pause_store ?_)
    refine Pause.go (wpList_store_agg rfl _ _ _ rfl w.heap.size 0 rfl zeroE rfl _ _ HR3.out (by kernel_rfl) (by simp [zeroE]) zeroE_one ?_)
    rw [over_all zeroE _ rfl]
    refine list_gen fun w4 hw4 => ?_
    have HR4 : Hid (Blk w4 w.heap.size zeroE 34) := by rw [hw4]; exact HR3.out.row _
    have HW4 : Hid (Below w.heap.size w w4) := by rw [hw4]; exact below_setRow HW3.out (Nat.le_refl _) _
    clear hw4
    go_wp2_with fail
    refine bodyPost_ret (results_cell_tmp1 (p := 6) (t := 7) rfl _ _ w.heap.size 34 zeroE _ rfl HR4.out Try.underlying34 rfl (by kernel_rfl)) rfl ?_
    exact HN.out _ HW4.out HRR.out
  | some e =>
    have HX3 : Hid (Blk w3 w2.heap.size (entCells e (.slice ka1 e.key.length kc1) (.slice va1 e.value.length vc1)).toArray 34) := HX3.out
    have HK3 : Hid (Bytes (fun k => p k ∧ k < w.heap.size) w3 (.slice ka1 e.key.length kc1) e.key) := HK3.out
    have HV3 : Hid (Bytes (fun k => p k ∧ k < w.heap.size) w3 (.slice va1 e.value.length vc1) e.value) := HV3.out
    rw [show (some e : Option Ent).isSome = true from rfl]
    have c0 : w3.cell? ⟨w2.heap.size, 0, none⟩ = some (.slice ka1 e.key.length kc1) := HX3.out.cell rfl
    have HH := Lib.hid hr
    clear hr
    generalize hz : w2.heap.size = z at *
    go_wp2_with fail
    refine Calls.mono (rfSameKey_any _ _ _ e.key _ key w3 HK3.out (HK.out.below HW3.out)) ?_
    rintro _ w4 ⟨rfl, hb4⟩
    have HW4 : Hid (Below w.heap.size w w4) := HW3.out.trans (hb4.mono HW3.out.size)
    have HR4 := Lib.hid (HR3.out.below hb4 HR3.out.lt)
    have HX4 := Lib.hid (HX3.out.below hb4 HX3.out.lt)
    have HK4 := Lib.hid (HK3.out.below hb4)
    have HV4 := Lib.hid (HV3.out.below hb4)
    clear hb4 c0 HR3 HX3 HK3 HV3 HC3
    have hr := HH.out
    by_cases hek : e.key = key
    · have HRR : Hid (r = some e) := by show _ = _; rw [← hr]; exact if_pos hek
      rw [decide_eq_true hek]
      have c0 : w4.cell? ⟨z, 0, none⟩ = some (.slice ka1 e.key.length kc1) := HX4.out.cell rfl
      have c1 : w4.cell? ⟨z, 1, none⟩ = some (.int .u64 e.seq) := HX4.out.cell rfl
      have c2 : w4.cell? ⟨z, 2, none⟩ = some (.int .i64 e.kind) := HX4.out.cell rfl
      have c3 : w4.cell? ⟨z, 3, none⟩ = some (.slice va1 e.value.length vc1) := HX4.out.cell rfl
      clear hr HH hek
      go_wp2_with (with_reducible refine pause_store ?_)
      refine Pause.go (wpList_store_agg rfl _ _ _ rfl w.heap.size 0 rfl (entCells e (.slice ka1 e.key.length kc1) (.slice va1 e.value.length vc1)).toArray rfl zeroE _ HR4.out (by kernel_rfl) (by simp [zeroE, entCells]) (fun u hu => by simp [entCells] at hu; rcases hu with rfl | rfl | rfl | rfl <;> rfl) ?_)
      rw [over_all zeroE _ (by simp [zeroE, entCells])]
      refine list_gen fun w5 hw5 => ?_
      have HX5 : Hid (Blk w5 w.heap.size (entCells e (.slice ka1 e.key.length kc1) (.slice va1 e.value.length vc1)).toArray 34) := by rw [hw5]; exact HR4.out.row _
      have HW5 : Hid (Below w.heap.size w w5) := by rw [hw5]; exact below_setRow HW4.out (Nat.le_refl _) _
      have HK5 : Hid (Bytes p w5 (.slice ka1 e.key.length kc1) e.key) := by
        rw [hw5]
        exact (HK4.out.keep fun k _ hk => setRow_other w4 w.heap.size k _ (by omega)).mono fun _ _ hk => hk.1
      have HV5 : Hid (Bytes p w5 (.slice va1 e.value.length vc1) e.value) := by
        rw [hw5]
        exact (HV4.out.keep fun k _ hk => setRow_other w4 w.heap.size k _ (by omega)).mono fun _ _ hk => hk.1
      clear hw5 c0 c1 c2 c3
      go_wp2_with fail
      refine bodyPost_ret (results_cell_tmp1 (p := 6) (t := 7) rfl _ _ w.heap.size 34 (entCells e (.slice ka1 e.key.length kc1) (.slice va1 e.value.length vc1)).toArray _ rfl HX5.out Try.underlying34 rfl (by kernel_rfl)) rfl ?_
      have hrr := HRR.out
      subst hrr
      exact ⟨_, _, rfl, HK5.out, HV5.out, HW5.out⟩
    · have HRR : Hid (r = none) := by show _ = _; rw [← hr]; exact if_neg hek
      rw [decide_eq_false hek]
      clear hr HH hek
      go_wp2_with (with_reducible refine pause_store ?_)
      refine Pause.go (wpList_store_agg rfl _ _ _ rfl w.heap.size 0 rfl zeroE rfl _ _ HR4.out (by kernel_rfl) (by simp [zeroE]) zeroE_one ?_)
      rw [over_all zeroE _ rfl]
      refine list_gen fun w5 hw5 => ?_
      have HR5 : Hid (Blk w5 w.heap.size zeroE 34) := by rw [hw5]; exact HR4.out.row _
      have HW5 : Hid (Below w.heap.size w w5) := by rw [hw5]; exact below_setRow HW4.out (Nat.le_refl _) _
      clear hw5
      go_wp2_with fail
      refine bodyPost_ret (results_cell_tmp1 (p := 6) (t := 7) rfl _ _ w.heap.size 34 zeroE _ rfl HR5.out Try.underlying34 rfl (by kernel_rfl)) rfl ?_
      exact HN.out _ HW5.out HRR.out

/-- How high the tower of a place is. -/
def refHeight (d : Ent) (es : List Ent) (hs : List Nat) : Nat := if isOf d es (placeOf d es) = true then hs.getD (placeOf d es) 0 else 0

set_option maxRecDepth 100000 in
theorem rfHeight_any (p : Nat → Prop) (rb : Nat) (es : List Ent) (hs : List Nat) (hlen : hs.length = es.length) (G : Nat → Prop) (key : List UInt8) (seq : Int) (vk : Value) (w : World) (h : RfT p w rb es hs) (hk : Bytes G w vk key) :
    Calls Try.prog 31 #[.pointer (some ⟨rb, 0, none⟩), vk, .int .u64 seq] w fun x w' => x = .returned (.int .i64 (refHeight (plc key seq) es hs : Int)) ∧ Below w.heap.size w w' := by
  obtain ⟨ka, kc, rfl⟩ := hk.isSlice
  have HI := Lib.hid h
  have HK := Lib.hid hk
  clear h hk
  obtain ⟨r, hr⟩ : ∃ r, refHeight (plc key seq) es hs = r := ⟨_, rfl⟩
  rw [hr]
  unfold refHeight at hr
  have HR := Lib.hid hr
  clear hr
  have hml : es.length ≤ maxLen := by obtain ⟨_, _, _, h2, _⟩ := HI.out; exact h2.len
  simp only [maxLen] at hml
  have HP := Lib.hid (placeOf_le (plc key seq) es)
  have HL := Lib.hid hlen
  clear hlen
  go_enter Try.func31, Try.ntmps31
  go_wp2_with fail
  refine Calls.mono (place_any p rb es hs _ key seq _ w HI.out HK.out) ?_
  rintro _ w1 ⟨rfl, hb1⟩
  have HW1 := Lib.hid hb1
  clear hb1
  generalize placeOf (plc key seq) es = i at *
  go_wp2_with fail
  refine Calls.mono (rfIs_any p rb es hs _ i key seq _ w1 (HI.out.below HW1.out) (HK.out.below HW1.out)) ?_
  rintro _ w2 ⟨rfl, hb2⟩
  have HW2 : Hid (Below w.heap.size w w2) := HW1.out.trans (hb2.mono HW1.out.size)
  clear hb2 HW1
  have hr := HR.out
  cases hi : isOf (plc key seq) es i with
  | false =>
    have HRR : Hid (r = 0) := by show _ = _; rw [← hr, hi]; rfl
    clear hr HR
    go_wp2_with fail
    go_ret
    exact ⟨ret_int (by rw [HRR.out]; rfl), HW2.out⟩
  | true =>
    have hlt : i < hs.length := by
      rw [HL.out]
      unfold isOf at hi
      rcases Nat.lt_or_ge i es.length with h | h
      · exact h
      · rw [List.getElem?_eq_none h] at hi; cases hi
    rw [hi, if_pos rfl] at hr
    have HRR : Hid (hs.getD i 0 = r) := hr
    clear hr HR hi
    obtain ⟨a, c, ah, ch, _, k1, _, hrh⟩ := (HI.out.below HW2.out).cells
    have hhl := hrh.len
    simp only [maxLen] at hhl
    obtain ⟨hb0, ho, hc, e1, _, hcs⟩ := nats_at hrh (by omega)
    injection e1 with e1 _ e3
    subst e1 e3
    have c0 := hcs i hlt
    rw [show hs[i] = hs.getD i 0 by simp [List.getD, hlt], HRR.out] at c0
    have hil : (i : Int) < (hs.length : Int) := by omega
    clear hcs hrh
    go_wp2_with fail
    go_ret
    exact ⟨rfl, HW2.out⟩
end Go.Proofs.Ytdjjkdhhjdafmaa
