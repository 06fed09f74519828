/- skip: Insert. -/
import Derived.Test.YtdjjkdhhjdafmaaSkC
namespace Go.Proofs.Ytdjjkdhhjdafmaa
open Go.RowKit

/-- Only blocks of S were written, and new blocks made. -/
structure Wrote (S : Nat → Prop) (w w' : World) : Prop where
  os : w'.os = w.os
  tape : w'.tape = w.tape
  output : w'.output = w.output
  size : w.heap.size ≤ w'.heap.size
  block : ∀ k, k < w.heap.size → ¬ S k → w'.heap[k]? = w.heap[k]?

section
variable {S : Nat → Prop} {w w1 w' : World}
theorem Wrote.of_below (h : Below w.heap.size w w') : Wrote S w w' := ⟨h.os, h.tape, h.output, h.size, fun k hk _ => h.block k hk⟩
theorem Wrote.trans (h : Wrote S w w1) (k : Wrote S w1 w') : Wrote S w w' := ⟨k.os.trans h.os, k.tape.trans h.tape, k.output.trans h.output, Nat.le_trans h.size k.size, fun i hi hn => (k.block i (Nat.lt_of_lt_of_le hi h.size) hn).trans (h.block i hi hn)⟩
theorem Wrote.setCell (h : Wrote S w w1) (a : Addr) (v : Value) (ha : S a.block ∨ w.heap.size ≤ a.block) : Wrote S w (w1.setCell a v) :=
  ⟨h.os, h.tape, h.output, by simpa using h.size, fun k hk hn => (heap_setCell_other _ _ _ _ (fun e => by rcases ha with ha | ha; exact hn (by rw [e]; exact ha); omega)).trans (h.block k hk hn)⟩
theorem Wrote.drewN (h : Wrote S w w1) (n : Nat) : Wrote S w (w1.drewN n) := ⟨h.os, h.tape, h.output, h.size, h.block⟩
theorem Wrote.below {B : Nat} (h : Wrote S w w') (hB : B ≤ w.heap.size) (hS : ∀ k, S k → B ≤ k) : Below B w w' :=
  ⟨h.os, h.tape, h.output, h.size, fun k hk => h.block k (Nat.lt_of_lt_of_le hk hB) (fun hs => by have := hS k hs; omega)⟩
end

set_option maxRecDepth 100000 in
theorem checkE_any (F G : Nat → Prop) (e : Ent) (vk vv : Value) (w : World) (hk : Bytes F w vk e.key) (hv : Bytes G w vv e.value) :
    Calls Try.prog 36 #[.agg (entCells e vk vv).toArray] w fun x w' => x = .returned (.int .i64 (e.chk : Int)) ∧ Below w.heap.size w w' := by
  obtain ⟨ka, kc, rfl⟩ := hk.isSlice
  obtain ⟨va, vc, rfl⟩ := hv.isSlice
  have HK := Lib.hid hk
  have HV := Lib.hid hv
  clear hk hv
  obtain ⟨c, hc⟩ : ∃ c, e.chk = c := ⟨_, rfl⟩
  have HC := Lib.hid hc
  unfold Ent.chk at hc
  have HC2 := Lib.hid hc
  clear hc
  unfold entCells
  go_enter Try.func36, Try.ntmps36
  go_upto_region 1 with fail
  refine wp_gen fun w1 hw1 => ?_
  have HW1 : Hid (Below w.heap.size w w1) := by rw [hw1]; exact (Below.refl _ _).alloc (Nat.le_refl _) _
  have HE1 : Hid (Blk w1 w.heap.size (entCells e (.slice ka e.key.length kc) (.slice va e.value.length vc)).toArray 34) := by rw [hw1]; exact Blk.at_new rfl rfl
  clear hw1
  have k0 : w1.cell? ⟨w.heap.size, 0, none⟩ = some (.slice ka e.key.length kc) := HE1.out.cell rfl
  have k1 : w1.cell? ⟨w.heap.size, 1, none⟩ = some (.int .u64 e.seq) := HE1.out.cell rfl
  have k2 : w1.cell? ⟨w.heap.size, 2, none⟩ = some (.int .i64 e.kind) := HE1.out.cell rfl
  have k3 : w1.cell? ⟨w.heap.size, 3, none⟩ = some (.slice va e.value.length vc) := HE1.out.cell rfl
  go_wp2_with fail
  refine Calls.mono (right_any e.kind _ _ e rfl (.slice ka e.key.length kc) (.slice va e.value.length vc) w1 (HK.out.below HW1.out) (HV.out.below HW1.out)) ?_
  rintro _ w2 ⟨rfl, rfl⟩
  cases hr : e.right with
  | false =>
    have hcc : Hid (c = 2) := by show _ = _; rw [← HC2.out, if_pos (.inl hr)]
    go_wp2_with fail
    go_ret
    exact ⟨ret_int (by rw [HC.out, hcc.out]; rfl), HW1.out⟩
  | true =>
    by_cases hs : e.seq = 0
    · have hs1 : (e.seq == 0) = true := beq_iff_eq.2 hs
      have hcc : Hid (c = 2) := by show _ = _; rw [← HC2.out, if_pos (.inr hs)]
      clear hs
      go_wp2_with fail
      go_ret
      exact ⟨ret_int (by rw [HC.out, hcc.out]; rfl), HW1.out⟩
    · have hs1 : (e.seq == 0) = false := beq_eq_false_iff_ne.2 hs
      have hn : ¬ (e.right = false ∨ e.seq = 0) := fun h => by rcases h with h | h; rw [hr] at h; cases h; exact hs h
      have HN := Lib.hid hn
      clear hn hs
      go_wp2_with fail
      refine Calls.mono (lengths_any _ _ e (.slice ka e.key.length kc) (.slice va e.value.length vc) w2 (HK.out.below HW1.out) (HV.out.below HW1.out)) ?_
      rintro _ w3 ⟨rfl, rfl⟩
      by_cases hl : e.key.length ≤ 4096 ∧ e.value.length ≤ 65536
      · have hd : (decide (e.key.length ≤ 4096) && decide (e.value.length ≤ 65536)) = true := by simp [hl]
        rw [hd]
        by_cases hm : 72057594037927935 < e.seq
        · have hcc : Hid (c = 3) := by show _ = _; rw [← HC2.out, if_neg HN.out, if_pos (.inr (.inr hm))]
          go_wp2_with fail
          go_ret
          exact ⟨ret_int (by rw [HC.out, hcc.out]; rfl), HW1.out⟩
        · have hcc : Hid (c = 0) := by show _ = _; rw [← HC2.out, if_neg HN.out, if_neg (by omega)]
          go_wp2_with fail
          go_ret
          exact ⟨ret_int (by rw [HC.out, hcc.out]; rfl), HW1.out⟩
      · have hd : (decide (e.key.length ≤ 4096) && decide (e.value.length ≤ 65536)) = false := by
          simp only [Bool.and_eq_false_iff, decide_eq_false_iff_not]; omega
        have hcc : Hid (c = 3) := by show _ = _; rw [← HC2.out, if_neg HN.out, if_pos (by omega)]
        rw [hd]
        go_wp2_with fail
        go_ret
        exact ⟨ret_int (by rw [HC.out, hcc.out]; rfl), HW1.out⟩

/-- What Insert says and leaves. -/
def InsSays (e : Ent) (h : Int) (ts : List Tw) (c : Nat) (ts' : List Tw) : Prop :=
  (e.chk ≠ 0 ∧ c = e.chk ∧ ts' = ts) ∨ (e.chk = 0 ∧ (h < 1 ∨ 12 < h) ∧ c = 2 ∧ ts' = ts) ∨ (e.chk = 0 ∧ 1 ≤ h ∧ h ≤ 12 ∧ found e ts ≠ none ∧ c = 5 ∧ ts' = ts) ∨
    (e.chk = 0 ∧ 1 ≤ h ∧ h ≤ 12 ∧ found e ts = none ∧ c = 0 ∧ ∃ X, ts' = ahead e ts ++ ⟨X, e, h.toNat⟩ :: behind e ts)
def InsPost (lo : Lo) (b : Nat) (hd : Tw) (ts : List Tw) (e : Ent) (h : Int) (w : World) (x : Ending) (w' : World) : Prop :=
  ∃ (c : Nat) (ts' : List Tw), x = .returned (.int .i64 (c : Int)) ∧ Skp lo w' b hd ts' ∧ Wrote (fun k => k = b ∨ ∃ t ∈ hd :: ts, t.b = k) w w' ∧ InsSays e h ts c ts' ∧ ∀ t ∈ ts', t ∈ ts ∨ w.heap.size ≤ t.b

theorem found_plc (e : Ent) (ts : List Tw) : found (plc e.key e.seq) ts = found e ts := rfl
theorem nxt_ptr (k : Nat) (l : List Tw) : ∃ a, nxt k l = .pointer a := by
  rcases nxt_split k l with ⟨h, _⟩ | ⟨_, t, _, _, _, _, h⟩
  · exact ⟨_, h⟩
  · exact ⟨_, h⟩

theorem chk_zero {e : Ent} (h : e.chk = 0) : e.key.length ≤ 4096 ∧ e.value.length ≤ 65536 := by
  unfold Ent.chk at h
  split at h
  · cases h
  · split at h
    · cases h
    · omega

/-- A tower of height 0 is nowhere seen. -/
theorem ChainTo.zero {F : Nat → Prop} {w : World} (x : Tw) (hx : x.h = 0) : ∀ {l sfx : List Tw}, ChainTo F w l sfx → ChainTo F w l (x :: sfx)
  | [], _, _ => trivial
  | t :: l, sfx, ⟨⟨vk, vv, h1, h2, h3⟩, h4⟩ => by
    refine ⟨⟨vk, vv, ?_, h2, h3⟩, ChainTo.zero x hx h4⟩
    rw [← twCells_congr t vk vv (r := l ++ sfx) fun k _ => ?_]
    · exact h1
    · by_cases hr : ∃ t ∈ l, k < t.h
      · exact nxt_high _ _ hr
      · have hn : ∀ t ∈ l, ¬ k < t.h := fun t ht hk => hr ⟨t, ht, hk⟩
        rw [nxt_low _ hn, nxt_low _ hn]
        exact (if_neg (by omega)).symm

theorem Tie.dn {F : Nat → Prop} {b : Nat} {hd : Tw} {ts : List Tw} {e : Ent} {vk vv : Value} {X A i h : Nat} {w : World} (H : Tie F b hd ts e vk vv X A i h w) (n : Nat) : Tie F b hd ts e vk vv X A i h (w.drewN n) :=
  have hb : Below w.heap.size w (w.drewN n) := ⟨rfl, rfl, rfl, Nat.le_refl _, fun _ _ => rfl⟩
  ⟨H.blk, H.ch.below hb, H.chb.below hb, H.x, H.hk.below hb, H.hv.below hb, H.a⟩

theorem wrap_small {x : Int} (h0 : -1000000000000 ≤ x) (h1 : x ≤ 1000000000000) : IntKind.i64.wrap x = x := by
  have : IntKind.i64.wrap x = RowKit.wrap64 x := by unfold RowKit.wrap64; simp [IntKind.wrap, IntKind.signed, IntKind.bits]; omega
  rw [this]; unfold RowKit.wrap64; omega

theorem lastH_split {k : Nat} : ∀ {l : List Tw} {d : Tw}, lastH k l = some d → ∃ p r, l = p ++ d :: r ∧ ∀ t ∈ r, ¬ k < t.h
  | [], _, h => by cases h
  | x :: l, d, h => by
    unfold lastH at h
    cases hl : lastH k l with
    | some y =>
      rw [hl] at h
      injection h with h
      subst h
      obtain ⟨p, r, h1, h2⟩ := lastH_split hl
      exact ⟨x :: p, r, by rw [h1]; rfl, h2⟩
    | none =>
      rw [hl] at h
      simp only at h
      by_cases hx : k < x.h
      · rw [if_pos hx] at h
        injection h with h
        subst h
        exact ⟨[], l, rfl, lastH_none hl⟩
      · rw [if_neg hx] at h; cases h

theorem P_ne {F : Nat → Prop} {b : Nat} {hd : Tw} {ts : List Tw} {e : Ent} {X A : Nat} (P : Apt F b hd ts e X A) {i : Nat} {d : Tw} (h : lastH i (hd :: ahead e ts) = some d) : d.b ≠ X ∧ d.b ≠ A ∧ d.b ≠ b :=
  ⟨P.xt d (mem_ahead (lastH_some h).1), P.at_ d (mem_ahead (lastH_some h).1), P.bt d (mem_ahead (lastH_some h).1)⟩

set_option maxRecDepth 100000 in
set_option maxHeartbeats 4000000 in
theorem insert_any (lo : Lo) (b : Nat) (hd : Tw) (ts : List Tw) (F G : Nat → Prop) (e : Ent) (vk vv : Value) (h : Int) (w : World) (hI : Skp lo w b hd ts) (hk : Bytes F w vk e.key) (hv : Bytes G w vv e.value) (hn : ts.length < 1000000) :
    Calls Try.prog 11 #[.pointer (some ⟨b, 0, none⟩), .agg (entCells e vk vv).toArray, .int .i64 h] w (InsPost lo b hd ts e h w) := by
  obtain ⟨ka, kc, rfl⟩ := hk.isSlice
  obtain ⟨va, vc, rfl⟩ := hv.isSlice
  have HI := Lib.hid hI
  have HK := Lib.hid hk
  have HV := Lib.hid hv
  clear hI hk hv
  unfold entCells
  go_enter Try.func11, Try.ntmps11
  go_upto_region 1 with fail
  refine wp_gen fun w1 hw1 => ?_
  have HW1 : Hid (Below w.heap.size w w1) := by rw [hw1]; exact (Below.refl _ _).alloc (Nat.le_refl _) _
  have HE1 : Hid (Blk w1 w.heap.size (entCells e (.slice ka e.key.length kc) (.slice va e.value.length vc)).toArray 34) := by rw [hw1]; exact Blk.at_new rfl rfl
  clear hw1
  go_wp2_with fail
  refine Calls.mono (skNone_false (HI.out.below HW1.out)) ?_
  rintro _ w2 ⟨rfl, rfl⟩
  have k0 : w2.cell? ⟨w.heap.size, 0, none⟩ = some (.slice ka e.key.length kc) := HE1.out.cell rfl
  have k1 : w2.cell? ⟨w.heap.size, 1, none⟩ = some (.int .u64 e.seq) := HE1.out.cell rfl
  have k2 : w2.cell? ⟨w.heap.size, 2, none⟩ = some (.int .i64 e.kind) := HE1.out.cell rfl
  have k3 : w2.cell? ⟨w.heap.size, 3, none⟩ = some (.slice va e.value.length vc) := HE1.out.cell rfl
  go_wp2_with fail
  refine Calls.mono (checkE_any _ _ e (.slice ka e.key.length kc) (.slice va e.value.length vc) w2 (HK.out.below HW1.out) (HV.out.below HW1.out)) ?_
  rintro _ w3 ⟨rfl, hb3⟩
  have HW3 : Hid (Below w.heap.size w w3) := HW1.out.trans (hb3.mono HW1.out.size)
  have HE3 := Lib.hid (HE1.out.below hb3 HE1.out.lt)
  clear hb3 HW1 HE1 k0 k1 k2 k3
  by_cases hc : e.chk = 0
  · rw [hc]
    by_cases hh : h < 1 ∨ 12 < h
    · have HS : Hid (InsSays e h ts 2 ts) := .inr (.inl ⟨hc, hh, rfl, rfl⟩)
      by_cases hh1 : h < 1
      · go_wp2_with fail
        go_ret
        exact ⟨2, ts, rfl, HI.out.below HW3.out, Wrote.of_below HW3.out, HS.out, fun _ h => .inl h⟩
      · have hh2 : 12 < h := by omega
        go_wp2_with fail
        go_ret
        exact ⟨2, ts, rfl, HI.out.below HW3.out, Wrote.of_below HW3.out, HS.out, fun _ h => .inl h⟩
    · have hh1 : ¬ h < 1 := by omega
      have hh2 : ¬ 12 < h := by omega
      have k0 : w3.cell? ⟨w.heap.size, 0, none⟩ = some (.slice ka e.key.length kc) := HE3.out.cell rfl
      have k1 : w3.cell? ⟨w.heap.size, 1, none⟩ = some (.int .u64 e.seq) := HE3.out.cell rfl
      go_wp2_with fail
      clear k0 k1
      refine Calls.mono (exact_any lo b hd ts _ e.key e.seq (.slice ka e.key.length kc) w3 (HI.out.below HW3.out) (HK.out.below HW3.out)) ?_
      rw [found_plc]
      rintro _ w4 ⟨rfl, hb4⟩
      have HW4 : Hid (Below w.heap.size w w4) := HW3.out.trans (hb4.mono HW3.out.size)
      have HE4 := Lib.hid (HE3.out.below hb4 HE3.out.lt)
      clear hb4 HW3 HE3
      cases hf : found e ts with
      | some t =>
        have HS : Hid (InsSays e h ts 5 ts) := .inr (.inr (.inl ⟨hc, by omega, by omega, (by rw [hf]; exact fun h => (by cases h)), rfl, rfl⟩))
        rw [show optPtr (some t) = .pointer (some ⟨t.b, 0, none⟩) from rfl]
        go_wp2_with fail
        go_ret
        exact ⟨5, ts, rfl, HI.out.below HW4.out, Wrote.of_below HW4.out, HS.out, fun _ h => .inl h⟩
      | none =>
        rw [show optPtr none = .pointer none from rfl]
        obtain ⟨h, rfl⟩ : ∃ k : Nat, h = (k : Int) := ⟨h.toNat, by omega⟩
        have hh3 : 1 ≤ h ∧ h ≤ 12 := by omega
        have hkl := chk_zero hc
        have HF := Lib.hid hf
        have HCz := Lib.hid hc
        clear hf hc hh
        have k0 : w4.cell? ⟨w.heap.size, 0, none⟩ = some (.slice ka e.key.length kc) := HE4.out.cell rfl
        have k1 : w4.cell? ⟨w.heap.size, 1, none⟩ = some (.int .u64 e.seq) := HE4.out.cell rfl
        have k2 : w4.cell? ⟨w.heap.size, 2, none⟩ = some (.int .i64 e.kind) := HE4.out.cell rfl
        have k3 : w4.cell? ⟨w.heap.size, 3, none⟩ = some (.slice va e.value.length vc) := HE4.out.cell rfl
        go_wp2_with fail
        clear k0 k1 k2 k3
        refine Calls.mono (look_any lo b hd ts _ e (.slice ka e.key.length kc) (.slice va e.value.length vc) w4 (HI.out.below HW4.out) (HK.out.below HW4.out)) ?_
        rintro _ w5 ⟨rfl, hb5⟩
        have HW5 : Hid (Below w.heap.size w w5) := HW4.out.trans (hb5.mono HW4.out.size)
        have HE5 := Lib.hid (HE4.out.below hb5 HE4.out.lt)
        clear hb5 HW4 HE4
        go_wp2_with (with_reducible refine pause_store ?_)
        refine list_gen fun W6 hW6 => ?_
        have HB6 : Hid (Below w5.heap.size w5 W6) := by rw [hW6]; exact (Below.refl _ _).alloc (Nat.le_refl _) _
        have HA6 : Hid (Blk W6 w5.heap.size #[.pointer none, .pointer none, .pointer none, .pointer none, .pointer none, .pointer none, .pointer none, .pointer none, .pointer none, .pointer none, .pointer none, .pointer none] 62) := by rw [hW6]; exact Blk.at_new rfl rfl
        clear hW6
        refine Pause.go (wpList_store_agg rfl _ _ _ rfl w5.heap.size 0 rfl _ rfl _ _ HA6.out (by kernel_rfl) (by simp [aheads_len]) (aheads_one _ _) ?_)
        rw [over_all _ _ (by simp [aheads_len])]
        refine list_gen fun W7 hW7 => ?_
        have HA7 : Hid (Blk W7 w5.heap.size (aheads (hd :: ahead e ts) 0).toArray 62) := by rw [hW7]; exact HA6.out.row _
        have HB7 : Hid (Below w5.heap.size w5 W7) := by rw [hW7]; exact below_setRow HB6.out (Nat.le_refl _) _
        clear hW7 HA6 HB6
        have HW7 : Hid (Below w.heap.size w W7) := HW5.out.trans (HB7.out.mono HW5.out.size)
        have HE7 := Lib.hid (HE5.out.below HB7.out HE5.out.lt)
        have HZ7 : Hid (w.heap.size < w5.heap.size ∧ w5.heap.size < W7.heap.size) := ⟨HE5.out.lt, HA7.out.lt⟩
        clear HB7 HE5 HW5
        generalize w5.heap.size = A at *
        have k0 : W7.cell? ⟨w.heap.size, 0, none⟩ = some (.slice ka e.key.length kc) := HE7.out.cell rfl
        have k1 : W7.cell? ⟨w.heap.size, 1, none⟩ = some (.int .u64 e.seq) := HE7.out.cell rfl
        have k2 : W7.cell? ⟨w.heap.size, 2, none⟩ = some (.int .i64 e.kind) := HE7.out.cell rfl
        have k3 : W7.cell? ⟨w.heap.size, 3, none⟩ = some (.slice va e.value.length vc) := HE7.out.cell rfl
        go_wp2_with fail
        clear k0 k1 k2 k3
        refine Calls.mono (skOwn_any _ _ e (.slice ka e.key.length kc) (.slice va e.value.length vc) W7 (HK.out.below HW7.out) (HV.out.below HW7.out) (by omega) (by omega)) ?_
        rintro _ w8 ⟨vk', vv', rfl, hk8, hv8, hb8⟩
        obtain ⟨xa, xc, rfl⟩ := hk8.isSlice
        obtain ⟨ya, yc, rfl⟩ := hv8.isSlice
        have HK8 := Lib.hid hk8
        have HV8 := Lib.hid hv8
        have HB8 := Lib.hid hb8
        clear hk8 hv8 hb8
        unfold entCells
        go_upto_region 12 with fail
        refine wp_gen fun W9 hW9 => ?_
        have HB9 : Hid (Below w8.heap.size w8 W9) := by rw [hW9]; exact (Below.refl _ _).alloc (Nat.le_refl _) _
        have HX9 : Hid (Blk W9 w8.heap.size (xCells e (.slice xa e.key.length xc) (.slice ya e.value.length yc) 0 h (behind e ts)).toArray 64) := by rw [hW9]; exact Blk.at_new rfl rfl
        clear hW9
        have HW9 : Hid (Below w.heap.size w W9) := (HW7.out.trans (HB8.out.mono HW7.out.size)).trans (HB9.out.mono (Nat.le_trans HW7.out.size HB8.out.size))
        have HE9 : Hid (Blk W9 w.heap.size (entCells e (.slice ka e.key.length kc) (.slice va e.value.length vc)).toArray 34) := (HE7.out.below HB8.out HE7.out.lt).below HB9.out (Nat.lt_of_lt_of_le HE7.out.lt HB8.out.size)
        have HXz : Hid (A < w8.heap.size) := Nat.lt_of_lt_of_le HZ7.out.2 HB8.out.size
        have HP : Hid (Apt (fun k => fk lo b (hd :: ts) k ∧ k ≠ w8.heap.size ∧ k ≠ A) b hd ts e w8.heap.size A) := by
          have hz1 := HZ7.out
          have hz2 := HXz.out
          have ht : ∀ t ∈ hd :: ts, t.b < w.heap.size := HI.out.ch.lt
          have hb := HI.out.blk.lt
          exact ⟨HI.out.nd, fun h => h.1.2.1 rfl, fun t ht h => h.1.2.2 t ht rfl, fun h => h.2.1 rfl, fun h => h.2.2 rfl, HI.out.ne, fun t h => by have := ht t h; omega, fun t h => by have := ht t h; omega, by omega, by omega, by omega⟩
        have HT : Hid (Tie (fun k => fk lo b (hd :: ts) k ∧ k ≠ w8.heap.size ∧ k ≠ A) b hd ts e (.slice xa e.key.length xc) (.slice ya e.value.length yc) w8.heap.size A 0 h W9) := by
          have hz1 := HZ7.out
          have hz2 := HXz.out
          have hc := HI.out.ch
          rw [show hd :: ts = (hd :: ahead e ts) ++ behind e ts by show hd :: ts = hd :: (ahead e ts ++ behind e ts); rw [ahead_behind]] at hc
          obtain ⟨c1, c2⟩ := hc.split
          rw [List.append_nil] at c1
          have hm : ∀ k, k < w.heap.size → fk lo b (hd :: ahead e ts ++ behind e ts) k → (fk lo b (hd :: ts) k ∧ k ≠ w8.heap.size ∧ k ≠ A) := fun k hk h => ⟨by
            rw [show hd :: ts = (hd :: ahead e ts) ++ behind e ts by show hd :: ts = hd :: (ahead e ts ++ behind e ts); rw [ahead_behind]]
            exact h, by omega, by omega⟩
          refine ⟨HI.out.blk.below HW9.out HI.out.blk.lt, ((ChainTo.zero ⟨w8.heap.size, e, 0⟩ rfl c1).mono hm).below HW9.out, (c2.mono hm).below HW9.out, HX9.out, ?_, ?_, (HA7.out.below HB8.out HZ7.out.2).below HB9.out HXz.out⟩
          · exact (HK8.out.mono fun k hk h1 => ⟨⟨HI.out.pu k (by have := HW7.out.size; omega), fun e0 => by have := HI.out.blk.lt; have := HW7.out.size; omega, fun t ht e0 => by have := HI.out.ch.lt t ht; have := HW7.out.size; omega⟩, by omega, by omega⟩).below HB9.out
          · exact (HV8.out.mono fun k hk h1 => ⟨⟨HI.out.pu k (by have := HW7.out.size; omega), fun e0 => by have := HI.out.blk.lt; have := HW7.out.size; omega, fun t ht e0 => by have := HI.out.ch.lt t ht; have := HW7.out.size; omega⟩, by omega, by omega⟩).below HB9.out
        have HXw : Hid (w.heap.size < w8.heap.size) := by have := HZ7.out; have := HXz.out; show _ < _; omega
        clear HK8 HV8 HB8 HB9 HX9 HW7 HE7 HA7 HZ7
        generalize w8.heap.size = X at *
        have k16 : W9.cell? ⟨X, 16, none⟩ = some (.int .i64 (h : Int)) := HT.out.x.cell rfl
        go_wp2_with fail
        refine Calls.mono (levels_any X h W9 k16 hh3.2) ?_
        rintro _ wa ⟨rfl, na, hxa⟩
        have HTa : Hid (Tie (fun k => fk lo b (hd :: ts) k ∧ k ≠ X ∧ k ≠ A) b hd ts e (.slice xa e.key.length xc) (.slice ya e.value.length yc) X A 0 h wa) := by rw [hxa]; exact HT.out.dn _
        have HWa : Hid (Wrote (fun k => k = b ∨ ∃ t ∈ hd :: ts, t.b = k) w wa) := by rw [hxa]; exact (Wrote.of_below HW9.out).drewN _
        have HEa : Hid (Blk wa w.heap.size (entCells e (.slice ka e.key.length kc) (.slice va e.value.length vc)).toArray 34) := by rw [hxa]; exact HE9.out
        clear hxa HT HW9 HE9 k16
        go_wp2_with fail
        go_loopw [48] (fun iv wr => ∃ i : Nat, iv = .int .i64 (i : Int) ∧ i ≤ h ∧ Hid (Tie (fun k => fk lo b (hd :: ts) k ∧ k ≠ X ∧ k ≠ A) b hd ts e (.slice xa e.key.length xc) (.slice ya e.value.length yc) X A i h wr) ∧ Hid (Wrote (fun k => k = b ∨ ∃ t ∈ hd :: ts, t.b = k) w wr) ∧ Hid (Blk wr w.heap.size (entCells e (.slice ka e.key.length kc) (.slice va e.value.length vc)).toArray 34)) (fun iv _ => h - (intOf iv).toNat)
        case atStart => exact ⟨0, rfl, by omega, HTa, HWa, HEa⟩
        case round =>
          obtain ⟨i, rfl, hi, HTr, HWr, HEr⟩ := hrel
          by_cases hlt : i < h
          · have hih : (i : Int) < (h : Int) := by omega
            have hi12 : (i : Int) < 12 := by omega
            have hal : ∃ d, lastH i (hd :: ahead e ts) = some d := by
              cases hl : lastH i (hd :: ahead e ts) with
              | some d => exact ⟨d, rfl⟩
              | none => exact absurd (by rw [HI.out.h12]; omega) (lastH_none hl hd (List.mem_cons_self ..))
            obtain ⟨d, hd'⟩ := hal
            obtain ⟨pv, hpv⟩ := nxt_ptr i (behind e ts)
            obtain ⟨hdX, hdA, hdb⟩ := P_ne HP.out hd'
            have hXA : X ≠ A := HP.out.xa
            have hAX : A ≠ X := fun e => hXA e.symm
            have hXd : X ≠ d.b := fun e => hdX e.symm
            have HAV : Hid (aheadV (hd :: ahead e ts) i = .pointer (some ⟨d.b, 0, none⟩)) := by show _ = _; unfold aheadV; rw [hd']; rfl
            have cA : wr.cell? ⟨A, i, none⟩ = some (.pointer (some ⟨d.b, 0, none⟩)) := HTr.out.a.cell (by rw [List.getElem?_toArray, aheads_get _ _ _ (by omega), if_neg (by omega), HAV.out])
            have cX : wr.cell? ⟨X, 4 + i, none⟩ = some (.pointer none) := HTr.out.x.cell (by rw [List.getElem?_toArray, xCells_all _ _ _ _ _ _ _ (by omega), if_neg (by omega)])
            have fX := HTr.out.x.free (4 + i)
            have hdm := mem_ahead (lastH_some hd').1
            have hdi := (lastH_some hd').2
            obtain ⟨p, r, hpr, hrl⟩ := lastH_split hd'
            have hblk := HTr.out.ch
            rw [hpr] at hblk
            obtain ⟨dk, dv, g1, _, _⟩ := hblk.at
            have cD : wr.cell? ⟨d.b, 4 + i, none⟩ = some (.pointer pv) := g1.cell (by
              rw [List.getElem?_toArray, twCells_all _ _ _ _ _ (by omega), if_pos hdi, nxt_low _ hrl]
              show some (if i < i then _ else nxt i (behind e ts)) = _
              rw [if_neg (by omega), hpv])
            have fD := g1.free (4 + i)
            clear hblk g1 hrl hpr
            go_wp2_with fail
            go_region
            go_upto_region 16 with fail
            refine wp_gen fun W5 hW5 => ?_
            have HT5 : Hid (Tie (fun k => fk lo b (hd :: ts) k ∧ k ≠ X ∧ k ≠ A) b hd ts e (.slice xa e.key.length xc) (.slice ya e.value.length yc) X A (i + 1) h W5) := by
              rw [hW5]
              have := (HTr.out.step HP.out (by omega) d hd').dn 1
              rw [hpv] at this
              exact this
            have HW5 : Hid (Wrote (fun k => k = b ∨ ∃ t ∈ hd :: ts, t.b = k) w W5) := by
              rw [hW5]
              exact ((HWr.out.setCell ⟨X, 4 + i, none⟩ (.pointer pv) (.inr (Nat.le_of_lt HXw.out))).setCell ⟨d.b, 4 + i, none⟩ (.pointer (some ⟨X, 0, none⟩)) (.inl (.inr ⟨d, hdm, rfl⟩))).drewN 1
            have HE5 : Hid (Blk W5 w.heap.size (entCells e (.slice ka e.key.length kc) (.slice va e.value.length vc)).toArray 34) := by
              rw [hW5]
              have hzd : d.b < w.heap.size := HI.out.ch.lt d hdm
              have hzX := HXw.out
              exact (HEr.out.set_other ⟨X, 4 + i, none⟩ _ (by show X ≠ _; omega)).set_other ⟨d.b, 4 + i, none⟩ _ (by show d.b ≠ _; omega)
            clear hW5 HTr HWr HEr cA cX cD fX fD
            go_wp2_with fail
            go_roundw
            · exact ⟨i + 1, by go_num, by omega, HT5, HW5, HE5⟩
            · simp only [intOf]; omega
          · have hih : i = h := by omega
            subst hih
            have hih : ¬ (i : Int) < (i : Int) := by omega
            have hnb : (ts.length : Int) ≤ 1000000 := by omega
            have c1 : wr.cell? ⟨b, 1, none⟩ = some (.int .i64 (ts.length : Int)) := HTr.out.blk.cell rfl
            have f1 := HTr.out.blk.free 1
            go_upto_region 18 with fail
            refine wp_gen fun W6 hW6 => ?_
            have hzb : w.heap.size ≠ b := by have := HI.out.blk.lt; omega
            have hbz : b ≠ w.heap.size := fun e => hzb e.symm
            have HB6 : Hid (Blk W6 b #[hd.ptr, .int .i64 ((ts.length : Int) + 1), .int .i64 (sizeOf_ ts : Int)] 59) := by rw [hW6]; exact HTr.out.blk.set 1 _
            have HW6 : Hid (Wrote (fun k => k = b ∨ ∃ t ∈ hd :: ts, t.b = k) w W6) := by rw [hW6]; exact HWr.out.setCell ⟨b, 1, none⟩ _ (.inl (.inl rfl))
            have HE6 : Hid (Blk W6 w.heap.size (entCells e (.slice ka e.key.length kc) (.slice va e.value.length vc)).toArray 34) := by rw [hW6]; exact HEr.out.set_other _ _ hbz
            have HK6 : Hid (∀ k, k ≠ b → W6.heap[k]? = wr.heap[k]?) := fun k hk => by rw [hW6]; exact heap_setCell_other _ _ _ _ hk
            clear hW6 c1 f1
            have c2 : W6.cell? ⟨b, 2, none⟩ = some (.int .i64 (sizeOf_ ts : Int)) := HB6.out.cell rfl
            have f2 := HB6.out.free 2
            have cz0 : W6.cell? ⟨w.heap.size, 0, none⟩ = some (.slice ka e.key.length kc) := HE6.out.cell rfl
            have cz3 : W6.cell? ⟨w.heap.size, 3, none⟩ = some (.slice va e.value.length vc) := HE6.out.cell rfl
            have hsm := HI.out.sm
            have hsb : (sizeOf_ ts : Int) ≤ 100000000000 := by omega
            have hw1 : IntKind.i64.wrap ((e.key.length : Int) + (e.value.length : Int)) = (e.key.length : Int) + (e.value.length : Int) := wrap_small (by omega) (by omega)
            have hw2 : IntKind.i64.wrap ((e.key.length : Int) + (e.value.length : Int) + 32) = (e.key.length : Int) + (e.value.length : Int) + 32 := wrap_small (by omega) (by omega)
            have hw3 : IntKind.i64.wrap ((sizeOf_ ts : Int) + ((e.key.length : Int) + (e.value.length : Int) + 32)) = (sizeOf_ ts : Int) + ((e.key.length : Int) + (e.value.length : Int) + 32) := wrap_small (by omega) (by omega)
            clear hsm
            go_region
            go_upto_region 19 with fail
            refine wp_gen fun W8 hW8 => ?_
            have HS8 : Hid (Skp lo W8 b hd (ahead e ts ++ ⟨X, e, i⟩ :: behind e ts)) := by
              refine Tie.done HI.out HTr.out HP.out (Nat.le_of_lt HXw.out) hh3.1 hh3.2 HF.out hn hkl (fun k hk => ?_) ?_
              · rw [hW8]
                exact (heap_setCell_other _ _ _ _ hk).trans (HK6.out k hk)
              · rw [hW8]
                exact HB6.out.set 2 _
            have HW8 : Hid (Wrote (fun k => k = b ∨ ∃ t ∈ hd :: ts, t.b = k) w W8) := by
              rw [hW8]
              exact (HW6.out.setCell ⟨b, 2, none⟩ _ (.inl (.inl rfl))).drewN 1
            clear hW8 c2 f2 cz0 cz3 hw1 hw2 hw3
            go_wp2_with fail
            go_ret
            exact ⟨0, _, rfl, HS8.out, HW8.out, .inr (.inr (.inr ⟨HCz.out, by omega, by omega, HF.out, rfl, X, rfl⟩)), fun t ht => by
              rcases List.mem_append.1 ht with ht | ht
              · exact .inl (by rw [← ahead_behind e ts]; exact List.mem_append_left _ ht)
              · rcases List.mem_cons.1 ht with rfl | ht
                · exact .inr (Nat.le_of_lt HXw.out)
                · exact .inl (by rw [← ahead_behind e ts]; exact List.mem_append_right _ ht)⟩
  · have hc1 : ((e.chk : Int) != 0) = true := by simp; omega
    have HS : Hid (InsSays e h ts e.chk ts) := .inl ⟨hc, rfl, rfl⟩
    go_wp2_with fail
    go_ret
    exact ⟨e.chk, ts, rfl, HI.out.below HW3.out, Wrote.of_below HW3.out, HS.out, fun _ h => .inl h⟩
end Go.Proofs.Ytdjjkdhhjdafmaa
