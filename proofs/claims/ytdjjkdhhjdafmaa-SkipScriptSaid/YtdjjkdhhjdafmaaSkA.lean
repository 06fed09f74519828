/- skip: at, exact. -/
import Derived.Test.YtdjjkdhhjdafmaaSkL
namespace Go.Proofs.Ytdjjkdhhjdafmaa
open Go.RowKit

theorem last_of {k : Nat} : ∀ (x : Tw) (l : List Tw), (∀ t ∈ x :: l, k < t.h) → ∃ p d, x :: l = p ++ [d] ∧ lastH k (x :: l) = some d
  | x, [], h => ⟨[], x, rfl, if_pos (h x (List.mem_cons_self ..))⟩
  | x, y :: l, h => by
    obtain ⟨p, d, h1, h2⟩ := last_of y l fun t ht => h t (List.mem_cons_of_mem _ ht)
    refine ⟨x :: p, d, by rw [h1]; rfl, ?_⟩
    show (match lastH k (y :: l) with | some z => some z | none => if k < x.h then some x else none) = some d
    rw [h2]

/-- Entries as places to look for. -/
def plc (key : List UInt8) (seq : Int) : Ent := ⟨key, seq, 0, []⟩

set_option maxRecDepth 100000 in
set_option maxHeartbeats 1000000 in
theorem at_any (lo : Lo) (b : Nat) (hd : Tw) (ts : List Tw) (G : Nat → Prop) (key : List UInt8) (seq : Int) (vk : Value) (w : World) (h : Skp lo w b hd ts) (hk : Bytes G w vk key) :
    Calls Try.prog 42 #[.pointer (some ⟨b, 0, none⟩), vk, .int .u64 seq] w fun x w' => x = .returned (nxt 0 (behind (plc key seq) ts)) ∧ Below w.heap.size w w' := by
  obtain ⟨ka, kc, rfl⟩ := hk.isSlice
  have HI := Lib.hid h
  have HK := Lib.hid hk
  clear h hk
  go_enter Try.func42, Try.ntmps42
  go_wp2_with fail
  refine Calls.mono (look_any lo b hd ts G (plc key seq) (.slice ka key.length kc) (.slice none 0 0) w HI.out HK.out) ?_
  rintro _ w1 ⟨rfl, hb1⟩
  have HB1 : Hid (Below w.heap.size w w1) := hb1
  have HI1 := Lib.hid (HI.out.below hb1)
  clear hb1
  have h1 : ∀ t ∈ hd :: ahead (plc key seq) ts, 0 < t.h := fun t ht => by
    rcases List.mem_cons.1 ht with rfl | ht
    · rw [HI1.out.h12]; omega
    · have : t ∈ ts := by rw [← ahead_behind (plc key seq) ts]; exact List.mem_append_left _ ht
      have := (HI1.out.hs t this).1
      omega
  obtain ⟨p, d, hp, hd0⟩ := last_of (k := 0) hd (ahead (plc key seq) ts) h1
  have hEQ : hd :: ts = p ++ d :: behind (plc key seq) ts := (congrArg (List.cons hd) (ahead_behind (plc key seq) ts).symm).trans (by
    show (hd :: ahead (plc key seq) ts) ++ behind (plc key seq) ts = _
    rw [hp]; simp)
  have hdh : 0 < d.h := h1 d (by rw [hp]; simp)
  have HAV : Hid (aheadV (hd :: ahead (plc key seq) ts) 0 = .pointer (some ⟨d.b, 0, none⟩)) := by show _ = _; unfold aheadV; rw [hd0]; rfl
  obtain ⟨dk, dv, g1, _, _⟩ := HI1.out.tower hEQ
  have HG1 := Lib.hid g1
  clear h1 hp hd0 hEQ g1
  go_wp2_with (with_reducible refine pause_store ?_)
  refine list_gen fun W2 hW2 => ?_
  have HB2 : Hid (Below w1.heap.size w1 W2) := by rw [hW2]; exact (Below.refl _ _).alloc (Nat.le_refl _) _
  have HA2 : Hid (Blk W2 w1.heap.size #[.pointer none, .pointer none, .pointer none, .pointer none, .pointer none, .pointer none, .pointer none, .pointer none, .pointer none, .pointer none, .pointer none, .pointer none] 62) := by rw [hW2]; exact Blk.at_new rfl rfl
  clear hW2
  refine Pause.go (wpList_store_agg rfl _ _ _ rfl w1.heap.size 0 rfl _ rfl _ _ HA2.out (by kernel_rfl) (by simp [aheads_len]) (aheads_one _ _) ?_)
  rw [over_all _ _ (by simp [aheads_len])]
  refine list_gen fun W3 hW3 => ?_
  have HA3 : Hid (Blk W3 w1.heap.size (aheads (hd :: ahead (plc key seq) ts) 0).toArray 62) := by rw [hW3]; exact HA2.out.row _
  have HB3 : Hid (Below w1.heap.size w1 W3) := by rw [hW3]; exact below_setRow HB2.out (Nat.le_refl _) _
  clear hW3 HA2 HB2
  have k0 : W3.cell? ⟨w1.heap.size, 0, none⟩ = some (.pointer (some ⟨d.b, 0, none⟩)) := HA3.out.cell (by rw [List.getElem?_toArray, aheads_get _ _ _ (by omega), if_neg (by omega), HAV.out])
  have HG3 := Lib.hid (HG1.out.below HB3.out HG1.out.lt)
  have k4 : W3.cell? ⟨d.b, 4, none⟩ = some (nxt 0 (behind (plc key seq) ts)) := HG3.out.cell (by
    have := twCells_all d dk dv (behind (plc key seq) ts) 0 (by omega)
    rw [if_pos hdh] at this
    rw [List.getElem?_toArray]
    exact this)
  have HW3 : Hid (Below w.heap.size w W3) := HB1.out.trans (HB3.out.mono HB1.out.size)
  clear HA3 HG3 HB3 HB1
  go_wp2_with fail
  go_ret
  exact ⟨rfl, HW3.out⟩

/-- The tower of an entry. -/
def found (e : Ent) (ts : List Tw) : Option Tw := match behind e ts with
  | [] => none
  | t :: _ => if t.e.seq = e.seq ∧ t.e.key = e.key then some t else none
def optPtr : Option Tw → Value
  | none => .pointer none
  | some t => .pointer (some ⟨t.b, 0, none⟩)

theorem nxt_zero {lo : Lo} {b : Nat} {w : World} {hd : Tw} {ts : List Tw} (h : Skp lo w b hd ts) (e : Ent) (t : Tw) (r : List Tw) (hb : behind e ts = t :: r) : nxt 0 (behind e ts) = .pointer (some ⟨t.b, 0, none⟩) := by
  rw [hb]
  have : t ∈ ts := by rw [← ahead_behind e ts, hb]; simp
  exact if_pos (by have := (h.hs t this).1; omega)

theorem behind_eq {hd : Tw} {ts : List Tw} {e : Ent} {t : Tw} {r : List Tw} (hb : behind e ts = t :: r) : hd :: ts = (hd :: ahead e ts) ++ t :: r := by
  rw [← hb]
  show hd :: ts = hd :: (ahead e ts ++ behind e ts)
  rw [ahead_behind]

set_option maxRecDepth 100000 in
set_option maxHeartbeats 1000000 in
theorem exact_any (lo : Lo) (b : Nat) (hd : Tw) (ts : List Tw) (G : Nat → Prop) (key : List UInt8) (seq : Int) (vk : Value) (w : World) (h : Skp lo w b hd ts) (hk : Bytes G w vk key) :
    Calls Try.prog 37 #[.pointer (some ⟨b, 0, none⟩), vk, .int .u64 seq] w fun x w' => x = .returned (optPtr (found (plc key seq) ts)) ∧ Below w.heap.size w w' := by
  obtain ⟨ka, kc, rfl⟩ := hk.isSlice
  have HI := Lib.hid h
  have HK := Lib.hid hk
  clear h hk
  go_enter Try.func37, Try.ntmps37
  go_wp2_with fail
  refine Calls.mono (at_any lo b hd ts G key seq (.slice ka key.length kc) w HI.out HK.out) ?_
  rintro _ w1 ⟨rfl, hb1⟩
  have HB1 : Hid (Below w.heap.size w w1) := hb1
  have HI1 := Lib.hid (HI.out.below hb1)
  clear hb1
  cases hb : behind (plc key seq) ts with
  | nil =>
    rw [show nxt 0 ([] : List Tw) = .pointer none from rfl]
    have HF : Hid (found (plc key seq) ts = none) := by show _ = _; unfold found; rw [hb]
    go_wp2_with fail
    go_ret
    exact ⟨by rw [HF.out]; rfl, HB1.out⟩
  | cons t r =>
    have e0 : nxt 0 (t :: r) = .pointer (some ⟨t.b, 0, none⟩) := by have := nxt_zero HI1.out _ t r hb; rwa [hb] at this
    rw [e0]
    obtain ⟨dk, dv, g1, g2, _⟩ := HI1.out.tower (behind_eq hb)
    have HG2 := Lib.hid g2
    have k0 : w1.cell? ⟨t.b, 0, none⟩ = some dk := g1.c4.1
    have k1 : w1.cell? ⟨t.b, 1, none⟩ = some (.int .u64 t.e.seq) := g1.c4.2.1
    clear g1 g2 e0
    by_cases hs : t.e.seq = seq
    · have hs1 : (t.e.seq != seq) = false := by simpa using hs
      go_wp2_with fail
      refine Calls.mono (equal_any _ _ dk (.slice ka key.length kc) t.e.key key w1 HG2.out (HK.out.below HB1.out)) ?_
      rintro _ w2 ⟨rfl, n2, hx2⟩
      have HW2 : Hid (Below w.heap.size w w2) := by rw [hx2]; exact below_dn HB1.out _
      clear hx2
      by_cases he : t.e.key = key
      · have HF : Hid (found (plc key seq) ts = some t) := by show _ = _; unfold found; rw [hb]; exact if_pos ⟨hs, he⟩
        have hd1 : decide (t.e.key = key) = true := decide_eq_true he
        go_wp2_with fail
        go_ret
        exact ⟨by rw [HF.out]; rfl, HW2.out⟩
      · have HF : Hid (found (plc key seq) ts = none) := by show _ = _; unfold found; rw [hb]; exact if_neg fun e => he e.2
        have hd1 : decide (t.e.key = key) = false := decide_eq_false he
        go_wp2_with fail
        go_ret
        exact ⟨by rw [HF.out]; rfl, HW2.out⟩
    · have hs1 : (t.e.seq != seq) = true := by simpa using hs
      have HF : Hid (found (plc key seq) ts = none) := by show _ = _; unfold found; rw [hb]; exact if_neg fun e => hs e.1
      go_wp2_with fail
      go_ret
      exact ⟨by rw [HF.out]; rfl, HB1.out⟩
end Go.Proofs.Ytdjjkdhhjdafmaa
