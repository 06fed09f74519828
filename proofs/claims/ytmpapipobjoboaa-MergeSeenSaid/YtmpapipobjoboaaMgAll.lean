/- Merge: All. -/
import Derived.Test.YtmpapipobjoboaaMgE
namespace Go.Proofs.Ytmpapipobjoboaa
open Go.RowKit

section
variable {B m N : Nat} {F : Nat → Prop} {w w' : World} {v : Value} {l : List Hd}

/-- A merger that lies below block N, and what it tells. -/
structure Mg (B N m : Nat) (g : Option Nat) (w : World) (l : List Hd) (out : List Ent) : Prop where
  ex : ∃ v, Hv B (fun k => B < k ∧ k < N) w m v l ∧ v.ownBlock = g
  low : m < N ∧ ∀ k, g = some k → k < N
  ok : HOk l
  sort : Hsort l
  heap : HeapFrom l l.length 0
  tells : Tells l out

theorem Mg.below {g : Option Nat} {out : List Ent} (h : Mg B N m g w l out) (hb : Below N w w') : Mg B N m g w' l out := by
  obtain ⟨⟨v, hv, hg⟩, h2, h3, h4, h5, h6⟩ := h
  refine ⟨⟨v, ⟨hv.blk.below hb h2.1, hv.own.keep fun k _ e => hb.block k ?_, hv.ne, hv.nm⟩, hg⟩, h2, h3, h4, h5, h6⟩
  rcases e with e | e
  · exact h2.2 k (by rw [← hg]; exact e)
  · exact e.1.2

theorem Mg.of_new (h : Hv B (fun k => B < k) w m v l) (hN : w.heap.size ≤ N) (hok : HOk l) (hs : Hsort l) (hp : HeapFrom l l.length 0) {out : List Ent} (ht : Tells l out) : Mg B N m v.ownBlock w l out :=
  ⟨⟨v, ⟨h.blk, h.own.mono fun _k hk hF _ => ⟨hF, Nat.lt_of_lt_of_le hk hN⟩, h.ne, fun e => h.nm e.1⟩, rfl⟩, ⟨Nat.lt_of_lt_of_le h.blk.lt hN, fun k e => Nat.lt_of_lt_of_le (h.own.lt k e).2 hN⟩, hok, hs, hp, ht⟩

def MNextPost (B N m : Nat) (g : Option Nat) (e : Ent) (out : List Ent) (w : World) (x : Ending) (w' : World) : Prop :=
  ∃ k y l', x = .returned (.tuple #[.agg (entCells e k y).toArray, .bool true]) ∧ Bytes (fun j => w.heap.size ≤ j) w' k e.key ∧ Bytes (fun j => w.heap.size ≤ j) w' y e.value ∧
    Mg B N m g w' l' out ∧ Wrote (fun k => k = m ∨ g = some k) w w'

theorem mnext_any {g : Option Nat} {e : Ent} {out : List Ent} (h : Mg B N m g w l (e :: out)) :
    Calls Try.prog 23 #[.pointer (some ⟨m, 0, none⟩)] w (MNextPost B N m g e out w) := by
  obtain ⟨⟨v, hv, hg⟩, h2, h3, h4, h5, h6⟩ := h
  have h0 : 0 < l.length := by
    cases l with
    | nil => have := h6.none; cases this
    | cons x r => simp
  refine (next_any hv h3 h5 h0).mono fun x w' ⟨k, y, v', l', g1, g2, g3, g4, g5, g6, g7, g8, g9, g10⟩ => ?_
  obtain ⟨out', e1, e2, e3⟩ := h6.next h4 h3 h5 h0 g8 g7 g9
  injection e1 with e1 e4
  subst e4
  rw [← e1] at g1 g2 g3
  exact ⟨k, y, l', g1, g2, g3, ⟨⟨v', g4, g5.trans hg⟩, h2, g6, e3, g7, e2⟩, by rw [hg] at g10; exact g10⟩

theorem mpeek_any {g : Option Nat} {e : Ent} {out : List Ent} (h : Mg B N m g w l (e :: out)) :
    Calls Try.prog 20 #[.pointer (some ⟨m, 0, none⟩)] w (PeekPost e w) := by
  obtain ⟨⟨v, hv, hg⟩, h2, h3, h4, h5, h6⟩ := h
  have h0 : 0 < l.length := by
    cases l with
    | nil => have := h6.none; cases this
    | cons x r => simp
  have h7 := h6.next h4 h3 h5 h0 .refl h5
  have h8 : (hat l 0).first = e := by
    have hs := top_shown h4 h3 h5 h0
    have hm := (h6.mem _).2 hs
    rcases List.mem_cons.1 hm with h9 | h9
    · exact h9
    · exfalso
      have h10 := (List.pairwise_cons.1 h6.sort).1 _ h9
      obtain ⟨a, k1, k2, _⟩ := (h6.mem e).1 (List.mem_cons_self ..)
      have h11 := top_least h4 h5 k1 k2
      have := ecmp_anti e (hat l 0).first
      omega
  rw [← h8]
  exact peek_any hv h3 h0

theorem Mg.bare {g : Option Nat} (h : Mg B N m g w l []) : Bare w (.pointer (some ⟨m, 0, none⟩)) := by
  obtain ⟨⟨v, hv, hg⟩, h2, h3, h4, h5, h6⟩ := h
  have h0 : l = [] := by
    cases l with
    | nil => rfl
    | cons x r => have := (h6.mem _).2 (top_shown h4 h3 h5 (by simp)); cases this
  subst h0
  exact hv.bare
end

set_option maxRecDepth 100000 in
set_option maxHeartbeats 1000000 in
theorem mall_any (F : Nat → Prop) (v : Value) (rs : List (List Ent)) (w : World) (h : Rw (rowK entK) F w v rs) (hok : ROk rs) :
    Calls Try.prog 26 #[v] w (AllPost (fun _ => False) rs w) := by
  obtain ⟨xa, ca, rfl⟩ := h.isSlice
  have HA := Lib.hid h
  have HO := Lib.hid hok
  clear h hok
  go_enter Try.func26, Try.ntmps26
  go_wp2_with fail
  refine Calls.mono (new_any F _ rs _ HA.out HO.out) ?_
  rintro _ w1 ⟨p, rfl, hb1, hbad, hgood⟩
  have HW1 := Lib.hid hb1
  clear hb1
  rcases chkR_or rs with hc | hc
  · obtain ⟨rfl, hv, l, g1, g2, g3, g4, g5⟩ := hgood hc
    have HC := Lib.hid hc
    rw [hc]
    have HM : Hid (Mg w.heap.size w1.heap.size w.heap.size hv.ownBlock w1 l (allOf rs)) := Mg.of_new g1 (Nat.le_refl _) g2 g3 g4 g5
    have HLA : Hid ((allOf rs).length ≤ 100000) := Nat.le_trans (allOf_len rs) HO.out.sum
    have HR : Hid (refAll rs = allOf rs) := by show _ = _; unfold refAll; rw [if_pos HC.out]
    clear hc g1 g2 g3 g4 g5 hbad hgood
    generalize hv.ownBlock = g at *
    go_wp2_with fail
    go_loopg [6] (allOf rs).length (fun n ov wr => ∃ (out rest : List Ent) (l1 : List Hd), n = rest.length ∧ Hid (allOf rs = out ++ rest) ∧ Hid (Mg w.heap.size w1.heap.size w.heap.size g wr l1 rest) ∧ Hid (ROwnF entK (fun k => w1.heap.size ≤ k) w1.heap.size 29 wr ov out) ∧ Hid (Below w.heap.size w wr ∧ w1.heap.size ≤ wr.heap.size))
    case atStart => exact ⟨[], allOf rs, l, rfl, rfl, HM.out, ROwnF.nil _ _ _ _ _, HW1.out, Nat.le_refl _⟩
    case round =>
      obtain ⟨out, rest, l1, hn, HE, HM1, HRO, HWr⟩ := hrel
      have HNN := Lib.hid hn
      clear hn HM
      obtain ⟨oa, oc, rfl⟩ := HRO.out.isSlice
      cases rest with
      | nil =>
        go_wp2_with fail
        refine Calls.mono (next_none HM1.out.bare) ?_
        rintro _ w2 ⟨rfl, hb2⟩
        have HF : Hid (Rw entK (fun k => False ∨ w.heap.size ≤ k) (w2.alloc (.cells #[.slice none 0 0, .int .u64 0, .int .i64 0, .slice none 0 0] 29)) (.slice oa out.length oc) (refAll rs)) := by
          rw [HR.out, HE.out, List.append_nil]
          have h5 := ((HRO.out.below hb2).below ((Below.refl _ _).alloc (Nat.le_refl _) (.cells #[.slice none 0 0, .int .u64 0, .int .i64 0, .slice none 0 0] 29))).rows
          refine h5.mono fun k _ hk => .inr ?_
          have := HW1.out.size
          rcases hk with hk | hk
          · have := (HRO.out.lt k hk).1; omega
          · have := hk.1; omega
        have HW2 : Hid (Below w.heap.size w w2) := HWr.out.1.trans (hb2.mono HWr.out.1.size)
        clear hb2 HRO
        generalize out.length = q at *
        go_wp2_with fail
        go_ret2
        exact ⟨_, ret2_of rfl (int_eq HC.out.symm), HF.out, HW2.out.alloc HW2.out.size _⟩
      | cons e rest =>
        go_wp2_with fail
        refine Calls.mono (mnext_any HM1.out) ?_
        rintro _ w2 ⟨k, y, l2, rfl, hk, hy, hm2, hw2⟩
        obtain ⟨ka, kc, rfl⟩ := hk.isSlice
        obtain ⟨ya, yc, rfl⟩ := hy.isSlice
        have hlow := HM1.out.low
        have hsz := HWr.out.2
        have HM2 := Lib.hid hm2
        have HK2 := Lib.hid hk
        have HY2 := Lib.hid hy
        have HRO2 : Hid (ROwnF entK (fun k => w1.heap.size ≤ k) w1.heap.size 29 w2 (.slice oa out.length oc) out) := HRO.out.keep fun j hj e => hw2.block j hj fun e2 => by
          have hlo : w1.heap.size ≤ j := by
            rcases e with e | e
            · exact (HRO.out.lt j e).1
            · exact e.1
          rcases e2 with e2 | e2
          · omega
          · have := hlow.2 j e2; omega
        have HLT : Hid (∀ j, (Value.slice oa out.length oc).ownBlock = some j → j < wr.heap.size) := fun j e => (HRO.out.lt j e).2
        have HB2 : Hid (Below w.heap.size w w2 ∧ w1.heap.size ≤ w2.heap.size) := ⟨HWr.out.1.trans (hw2.below HWr.out.1.size fun j e => by
          rcases e with e | e
          · omega
          · obtain ⟨⟨v1, hv1, hg1⟩, _⟩ := HM1.out
            exact (hv1.own.lt j (by rw [hg1]; exact e)).1), Nat.le_trans hsz hw2.size⟩
        have HLen : Hid (out.length < 1000000) := by
          have h5 := congrArg List.length HE.out
          rw [List.length_append] at h5
          have := HLA.out
          show _ < _
          omega
        clear hk hy hm2 hw2 HRO hlow
        unfold entCells
        go_upto_region 6 with fail
        refine wp_gen fun w3 hw3 => ?_
        have HB3 : Hid (Below w2.heap.size w2 w3) := by rw [hw3]; exact (Below.refl _ _).alloc (Nat.le_refl _) _
        have HS3 : Hid (Blk w3 w2.heap.size (entCells e (.slice ka e.key.length kc) (.slice ya e.value.length yc)).toArray 29) := by rw [hw3]; exact Blk.at_new rfl rfl
        clear hw3
        have q0 : w3.cell? ⟨w2.heap.size, 0, none⟩ = some (.slice ka e.key.length kc) := HS3.out.cell rfl
        have q1 : w3.cell? ⟨w2.heap.size, 1, none⟩ = some (.int .u64 e.seq) := HS3.out.cell rfl
        have q2 : w3.cell? ⟨w2.heap.size, 2, none⟩ = some (.int .i64 e.kind) := HS3.out.cell rfl
        have q3 : w3.cell? ⟨w2.heap.size, 3, none⟩ = some (.slice ya e.value.length yc) := HS3.out.cell rfl
        go_wp2_with (with_reducible refine pause_append ?_)
        refine list_gen fun w4 hw4 => ?_
        have HB4 : Hid (Below w3.heap.size w3 w4) := by rw [hw4]; exact (Below.refl _ _).alloc (Nat.le_refl _) _
        have HS4 : Hid (Blk w4 w3.heap.size (entCells e (.slice ka e.key.length kc) (.slice ya e.value.length yc)).toArray 29) := by rw [hw4]; exact Blk.at_new rfl rfl
        clear hw4 q0 q1 q2 q3
        have HB24 : Hid (Below w2.heap.size w2 w4) := HB3.out.trans (HB4.out.mono HB3.out.size)
        have HRO4 := Lib.hid (HRO2.out.below HB24.out)
        have HN4 : Hid (w1.heap.size ≤ w4.heap.size) := Nat.le_trans HB2.out.2 HB24.out.size
        refine Pause.go (wpList_append_elF (K := entK) 31 29 _ 64 Try.underlying31 info_entO rfl (fun k => w1.heap.size ≤ k) w1.heap.size (.slice oa out.length oc) out w3.heap.size 29 _ e rfl _ _ rfl rfl rfl HRO4.out HS4.out
          ⟨_, _, rfl, (HK2.out.below HB24.out).mono fun j _ hj => ⟨Nat.le_trans HWr.out.2 hj, fun e1 => by have := HLT.out j e1; omega⟩, (HY2.out.below HB24.out).mono fun j _ hj => ⟨Nat.le_trans HWr.out.2 hj, fun e1 => by have := HLT.out j e1; omega⟩⟩ HLen.out (by decide) HN4.out ?_)
        intro v5 w5 hro hg
        have HB5 : Hid (Below w1.heap.size w2 w5) := (HB24.out.mono HB2.out.2).trans (hg.below HN4.out fun k e0 => (HRO4.out.lt k e0).1)
        have HRO5 := Lib.hid hro
        have HM5 := Lib.hid (HM2.out.below HB5.out)
        have HW5 : Hid (Below w.heap.size w w5 ∧ w1.heap.size ≤ w5.heap.size) := ⟨HB2.out.1.trans (HB5.out.mono HW1.out.size), Nat.le_trans HB2.out.2 HB5.out.size⟩
        have HE5 : Hid (allOf rs = (out ++ [e]) ++ rest) := by show _ = _; rw [HE.out, List.append_assoc]; rfl
        clear hro hg HRO4 HRO2 HM2 HS4 HS3 HK2 HY2
        go_wp2_with fail
        go_roundg rest.length
        case measure => rw [HNN.out]; exact Nat.lt_succ_self _
        case rel => exact ⟨out ++ [e], rest, l2, rfl, HE5.out, HM5.out, HRO5.out, HW5.out⟩
  · have HC := Lib.hid hc
    have hp := hbad (by rw [hc]; decide)
    subst hp
    rw [hc]
    clear hc hgood hbad
    go_wp2_with fail
    go_ret2
    exact ⟨_, ret2_of rfl (int_eq HC.out.symm), by unfold refAll; rw [if_neg (by rw [HC.out]; decide)]; exact Rw.nil _ _ _, HW1.out⟩
end Go.Proofs.Ytmpapipobjoboaa
