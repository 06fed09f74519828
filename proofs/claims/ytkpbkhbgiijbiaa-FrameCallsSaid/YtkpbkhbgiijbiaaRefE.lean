/- The document's Row: its contract. -/
import Derived.Test.YtkpbkhbgiijbiaaRefD
namespace Go.Proofs.Ytkpbkhbgiijbiaa
open Go.RowKit

theorem rrow_nil (F : Nat → Prop) (v : Value) (w : World) (hv : Bytes F w v []) :
    Calls Try.prog 24 #[v] w (RowPost ([], 0, 0) w) := by
  obtain ⟨a, c, rfl⟩ := hv.isSlice
  clear hv
  go_enter Try.func24, Try.ntmps24
  go_wp2_with fail
  refine wp_loop_rounds 1 ?_
  rw [rounds_succ]
  go_wp2_with fail
  go_ret3
  exact ⟨_, rfl, FrOwned.nil _ _, Below.refl _ _⟩

set_option maxRecDepth 100000 in
theorem rrow_some (F : Nat → Prop) (v : Value) (bs : List UInt8) (w : World) (hv : Bytes F w v bs) (hl : bs.length ≤ 100000) (h0 : 0 < bs.length) :
    Calls Try.prog 24 #[v] w (RowPost (Fr.row bs) w) := by
  obtain ⟨b, off, cap, rfl, _, _, e2, _, _⟩ := Sl.place hv (by rw [u8s_len]; omega)
  have HV := Lib.hid hv
  clear hv
  go_enter Try.func24, Try.ntmps24
  go_wp2_with fail
  go_loopw [5, 6] (fun l n wr => ∃ (ls : List Fr.T) (at_ k : Nat), n = .int .i64 at_ ∧ Hid (Fr.row bs = Fr.rowFrom bs k at_ ls) ∧ at_ ≤ bs.length ∧ bs.length ≤ at_ + k ∧ ls.length ≤ at_ ∧ Hid (FrOwned w.heap.size wr l ls) ∧ Hid (Below w.heap.size w wr)) (fun _ n _ => bs.length - (intOf n).toNat)
  case atStart => exact ⟨[], 0, bs.length, rfl, rfl, by omega, by omega, Nat.le_refl _, FrOwned.nil _ _, Below.refl _ _⟩
  case round =>
    obtain ⟨ls, at_, k, rfl, HR, hat, hk, hls, HO, HW⟩ := hrel
    by_cases hlt : at_ < bs.length
    · have hk0 : 0 < k := by omega
      obtain ⟨k, rfl⟩ : ∃ k', k = k' + 1 := ⟨k - 1, by omega⟩
      have HRs : Hid (Fr.rowFrom bs (k + 1) at_ ls = if (Fr.read (bs.drop at_)).2.2 ≠ 0 then (ls, at_, (Fr.read (bs.drop at_)).2.2) else Fr.rowFrom bs k (at_ + (Fr.read (bs.drop at_)).2.1) (ls ++ [(Fr.read (bs.drop at_)).1])) := by
        show _ = _
        rw [Fr.rowFrom, if_pos hlt]
      have HSz : Hid ((Fr.read (bs.drop at_)).2.2 = 0 → (Fr.read (bs.drop at_)).2.1 = Fr.lenOf (bs.drop at_) + 12 ∧ (Fr.read (bs.drop at_)).2.1 ≤ (bs.drop at_).length) := Fr.read_size _
      have HVr := Lib.hid ((HV.out.below HW.out).sub at_ (bs.length - at_) (by omega) (by omega))
      have HTk : Hid ((bs.drop at_).take (bs.length - at_) = bs.drop at_) := List.take_of_length_le (by simp)
      rw [HTk.out] at HVr
      have HLd : Hid ((bs.drop at_).length = bs.length - at_) := List.length_drop
      generalize bs.drop at_ = ds at *
      go_wp2_with fail
      refine Calls.mono (rread_any _ _ ds wr HVr.out (by rw [HLd.out]; omega)) ?_
      rintro e w1 ⟨vb, rfl, hvb, hb⟩
      obtain ⟨ga, gc, rfl⟩ := hvb.isSlice
      have HV1 := Lib.hid hvb
      have HW1 : Hid (Below w.heap.size w w1) := HW.out.trans (hb.mono HW.out.size)
      have HO1 : Hid (FrOwned w.heap.size w1 u5 ls) := HO.out.below hb
      have HB1 := Lib.hid hb
      clear hb hvb
      generalize Fr.read ds = r at *
      obtain ⟨⟨kind, body⟩, n', e'⟩ := r
      dsimp only at *
      by_cases he : e' = 0
      · subst he
        obtain ⟨hn1, hn2⟩ := HSz.out rfl
        have HN1 := Lib.hid hn1
        have hn12 : 12 ≤ n' := by omega
        have hn3 : at_ + n' ≤ bs.length := by rw [HLd.out] at hn2; omega
        clear hn1 hn2
        have HRk : Hid (Fr.rowFrom bs (k + 1) at_ ls = Fr.rowFrom bs k (at_ + n') (ls ++ [⟨kind, body⟩])) := by
          have h1 := HRs.out
          rw [if_neg (by simp)] at h1
          exact h1
        go_wp2_with (with_reducible refine pause_append ?_)
        refine list_gen fun W2 hW2 => ?_
        have HBz : Hid (Below w1.heap.size w1 W2) := by
          rw [hW2]; exact ((Below.refl _ _).alloc (Nat.le_refl _) _).alloc (by simp) _
        have HO2 : Hid (FrOwned w.heap.size W2 u5 ls) := HO1.out.below HBz.out
        have HV2 : Hid (Bytes (fun k => w.heap.size ≤ k ∧ u5.ownBlock ≠ some k) W2 (Value.slice ga body.length gc) body) :=
          (HV1.out.below HBz.out).mono fun q _ hq => ⟨Nat.le_trans HW.out.size hq, fun e => by
            have := (HO.out.lt q e).2
            omega⟩
        have HK2 : Hid (Blk W2 (w1.heap.size + 1) #[.int .u8 (kind.toNat : Int), Value.slice ga body.length gc] 39) := by
          rw [hW2]; exact Blk.at_new (by simp) rfl
        have HW2 : Hid (Below w.heap.size w W2) := HW1.out.trans (HBz.out.mono HW1.out.size)
        clear hW2
        refine Pause.go (wpList_append_frame w.heap.size u5 ls (w1.heap.size + 1) ⟨kind, body⟩ (.slice ga body.length gc) 39 rfl _ _ rfl rfl rfl HO2.out HK2.out HV2.out rfl (by omega) HW2.out.size ?_)
        intro v' W3 ho3 hg3
        have HO3 := Lib.hid ho3
        have HW3 : Hid (Below w.heap.size w W3) := HW2.out.trans (hg3.below HW2.out.size fun q hq => (HO2.out.lt q hq).1)
        clear ho3 hg3
        go_wp2_with fail
        go_roundw
        · exact ⟨ls ++ [⟨kind, body⟩], at_ + n', k, by rw [Int.natCast_add], HR.out.trans HRk.out, hn3, by omega, by simp; omega, HO3, HW3⟩
        · simp only [intOf]; omega
      · have he1 : ((e' : Int) != 0) = true := by simp; omega
        have HRe : Hid (Fr.row bs = (ls, at_, e')) := by
          have h1 := HRs.out
          rw [if_pos he] at h1
          exact HR.out.trans h1
        go_wp2_with fail
        go_ret3
        refine ⟨u5, ?_, ?_, ?_⟩
        · rw [HRe.out]; rfl
        · rw [HRe.out]; exact HO1.out.below ((Below.refl _ _).alloc (Nat.le_refl _) _)
        · exact HW1.out.alloc HW1.out.size _
    · have HRe : Hid (Fr.row bs = (ls, at_, 0)) := by
        refine HR.out.trans ?_
        show Fr.rowFrom bs k at_ ls = (ls, at_, 0)
        cases k with
        | zero => rfl
        | succ k => rw [Fr.rowFrom, if_neg hlt]
      go_wp2_with fail
      go_ret3
      refine ⟨u5, ?_, ?_, ?_⟩
      · rw [HRe.out]; rfl
      · rw [HRe.out]; exact HO.out
      · exact HW.out

/-- frame.Row. -/
theorem rrow_any (F : Nat → Prop) (v : Value) (bs : List UInt8) (w : World) (hv : Bytes F w v bs) (hl : bs.length ≤ 100000) :
    Calls Try.prog 24 #[v] w (RowPost (Fr.row bs) w) := by
  by_cases h0 : 0 < bs.length
  · exact rrow_some F v bs w hv hl h0
  · have : bs = [] := List.eq_nil_of_length_eq_zero (by omega)
    subst this
    exact rrow_nil F v w hv
end Go.Proofs.Ytkpbkhbgiijbiaa
