/- skip: Steps; what Get finds of an entry that is there. -/
import Derived.Test.YtdjjkdhhjdafmaaSkH
namespace Go.Proofs.Ytdjjkdhhjdafmaa
open Go.RowKit

set_option maxRecDepth 100000 in
set_option maxHeartbeats 1000000 in
theorem skSteps_any (lo : Lo) (b : Nat) (hd : Tw) (ts : List Tw) (G : Nat → Prop) (key : List UInt8) (seq : Int) (vk : Value) (w : World) (h : Skp lo w b hd ts) (hk : Bytes G w vk key) :
    Calls Try.prog 19 #[.pointer (some ⟨b, 0, none⟩), vk, .int .u64 seq] w fun x w' => x = .returned (.int .i64 (stepsOf 12 (ahead (plc key seq) ts) : Int)) ∧ Below w.heap.size w w' := by
  obtain ⟨ka, kc, rfl⟩ := hk.isSlice
  have HI := Lib.hid h
  have HK := Lib.hid hk
  clear h hk
  go_enter Try.func19, Try.ntmps19
  go_wp2_with fail
  refine Calls.mono (skNone_false HI.out) ?_
  rintro _ w0 ⟨rfl, rfl⟩
  go_wp2_with fail
  refine Calls.mono (look_any lo b hd ts G (plc key seq) (.slice ka key.length kc) (.slice none 0 0) w0 HI.out HK.out) ?_
  rintro _ w1 ⟨rfl, hb1⟩
  have HB1 : Hid (Below w0.heap.size w0 w1) := hb1
  obtain ⟨n, hn⟩ : ∃ n, stepsOf 12 (ahead (plc key seq) ts) = n := ⟨_, rfl⟩
  have HN := Lib.hid hn
  rw [hn]
  clear hb1 hn
  go_wp2_with (with_reducible refine pause_store ?_)
  refine list_gen fun W2 hW2 => ?_
  have HB2 : Hid (Below w1.heap.size w1 W2) := by rw [hW2]; exact (Below.refl _ _).alloc (Nat.le_refl _) _
  have HA2 : Hid (Blk W2 w1.heap.size #[.pointer none, .pointer none, .pointer none, .pointer none, .pointer none, .pointer none, .pointer none, .pointer none, .pointer none, .pointer none, .pointer none, .pointer none] 62) := by rw [hW2]; exact Blk.at_new rfl rfl
  clear hW2
  refine Pause.go (wpList_store_agg rfl _ _ _ rfl w1.heap.size 0 rfl _ rfl _ _ HA2.out (by kernel_rfl) (by simp [aheads_len]) (aheads_one _ _) ?_)
  rw [over_all _ _ (by simp [aheads_len])]
  refine list_gen fun W3 hW3 => ?_
  have HB3 : Hid (Below w1.heap.size w1 W3) := by rw [hW3]; exact below_setRow HB2.out (Nat.le_refl _) _
  clear hW3 HA2 HB2
  have HW3 : Hid (Below w0.heap.size w0 W3) := HB1.out.trans (HB3.out.mono HB1.out.size)
  clear HB3 HB1
  go_wp2_with fail
  go_ret
  exact ⟨by rw [HN.out]; rfl, HW3.out⟩

theorem cmp_same {a b : Ent} (h1 : a.key = b.key) (h2 : a.seq = b.seq) (x : Ent) : Ent.cmp x a = Ent.cmp x b := by
  unfold Ent.cmp
  rw [h1, h2]
theorem cmp_self (a : Ent) : Ent.cmp a a = 0 := by
  have := isCmp_ent.anti a a
  omega
/-- The towers behind an entry that is there begin with its own. -/
theorem behind_own {ts : List Tw} (hs : Rising ts) {t : Tw} (ht : t ∈ ts) : ∃ r, behind (plc t.e.key t.e.seq) ts = t :: r := by
  induction ts with
  | nil => cases ht
  | cons x l ih =>
    obtain ⟨s1, s2⟩ := List.pairwise_cons.1 hs
    unfold behind
    rw [List.dropWhile_cons]
    rcases List.mem_cons.1 ht with rfl | ht
    · have h0 : ¬ Ent.cmp t.e (plc t.e.key t.e.seq) < 0 := by
        rw [cmp_same (a := plc t.e.key t.e.seq) (b := t.e) rfl rfl, cmp_self]; omega
      rw [decide_eq_false h0]
      exact ⟨l, rfl⟩
    · have h1 := s1 t ht
      have h0 : Ent.cmp x.e (plc t.e.key t.e.seq) < 0 := by
        rw [cmp_same (a := plc t.e.key t.e.seq) (b := t.e) rfl rfl]; exact h1
      rw [decide_eq_true h0]
      exact ih s2 ht
theorem getOf_own {ts : List Tw} (hs : Rising ts) {t : Tw} (ht : t ∈ ts) : getOf t.e.key t.e.seq ts = some t.e := by
  obtain ⟨r, h⟩ := behind_own hs ht
  unfold getOf
  rw [h]
  exact if_pos rfl
theorem steps_bound (e : Ent) (ts : List Tw) : stepsOf 12 (ahead e ts) ≤ ts.length + 12 := by
  have h1 := stepsOf_le 12 (ahead e ts)
  have h2 := congrArg List.length (ahead_behind e ts)
  rw [List.length_append] at h2
  omega
end Go.Proofs.Ytdjjkdhhjdafmaa
