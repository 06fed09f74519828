/- Merge: container/heap over a merger's heads. -/
import Derived.Test.YtmpapipobjoboaaMgL
namespace Go.Proofs.Ytmpapipobjoboaa
open Go.RowKit

theorem meth_less {b off : Nat} {v : Value} {w : World} (h : w.cell? ⟨b, off, none⟩ = some v) :
    (method 220 82 (.pointer (some ⟨b, off, none⟩)) "Less").run Try.prog w = .ok (102, v) w := by
  have h1 : (method 220 82 (.pointer (some ⟨b, off, none⟩)) "Less").run Try.prog w = ((load ⟨b, off, none⟩ : Sem Value) >>= fun v => pure (102, v)).run Try.prog w := by kernel_rfl
  rw [h1]
  simp [h, go_sem]
theorem meth_swap {b off : Nat} {v : Value} {w : World} (h : w.cell? ⟨b, off, none⟩ = some v) :
    (method 220 82 (.pointer (some ⟨b, off, none⟩)) "Swap").run Try.prog w = .ok (103, v) w := by
  have h1 : (method 220 82 (.pointer (some ⟨b, off, none⟩)) "Swap").run Try.prog w = ((load ⟨b, off, none⟩ : Sem Value) >>= fun v => pure (103, v)).run Try.prog w := by kernel_rfl
  rw [h1]
  simp [h, go_sem]

/-- A merger in block m, whose heads lie in the row v. -/
structure Hv (B : Nat) (F : Nat → Prop) (w : World) (m : Nat) (v : Value) (l : List Hd) : Prop where
  blk : Blk w m #[v, .bool true] 53
  own : ROwnF headK F B 80 w v l
  ne : v.ownBlock ≠ some m
  nm : ¬ F m

section
variable {B m : Nat} {F : Nat → Prop} {w w' : World} {v : Value} {l : List Hd}
theorem Hv.below (h : Hv B F w m v l) (hb : Below w.heap.size w w') : Hv B F w' m v l := ⟨h.blk.below hb h.blk.lt, h.own.below hb, h.ne, h.nm⟩
theorem Hv.cell (h : Hv B F w m v l) : w.cell? ⟨m, 0, none⟩ = some v := h.blk.cell rfl

set_option maxRecDepth 100000 in
theorem up0_any (t : Value) (w : World) : Calls Try.prog 84 #[t, .int .i64 0] w fun x w' => x = .returned (.tuple #[]) ∧ w' = w := by
  go_enter Try.func84, Try.ntmps84
  go_wp2_with fail
  refine wp_loop_rounds 1 ?_
  rw [rounds_succ]
  go_wp2_with fail
  go_end0
  exact ⟨rfl, rfl⟩


theorem Hv.swapped (h : Hv B F w m v l) {l' : List Hd} (ho : ROwnF headK F B 80 w' v l') (hw : Wrote (fun k => v.ownBlock = some k) w w') : Hv B F w' m v l' :=
  ⟨h.blk.same (hw.block m h.blk.lt h.ne), ho, h.ne, h.nm⟩

theorem hless_at (h : Hv B F w m v l) (hlen : l.length ≤ 1000000) (hne : ∀ x ∈ l, x.l ≠ []) (i j : Nat) (hi : i < l.length) (hj : j < l.length) (a b : Int) (ha : a = i) (hb : b = j) (r : Bool) (hr : decide (hcmp (hat l i) (hat l j) < 0) = r) :
    Calls Try.prog 102 #[v, .int .i64 a, .int .i64 b] w (LessPost r w) := by
  subst ha hb hr
  exact hless_any h.own hlen i j hi hj (by rw [hat_eq hi]; exact hne _ (List.getElem_mem hi)) (by rw [hat_eq hj]; exact hne _ (List.getElem_mem hj))

theorem hswap_at (h : Hv B F w m v l) (hlen : l.length ≤ 1000000) (i j : Nat) (hi : i < l.length) (hj : j < l.length) (a b : Int) (ha : a = i) (hb : b = j) :
    Calls Try.prog 103 #[v, .int .i64 a, .int .i64 b] w fun x w' => x = .returned (.tuple #[]) ∧ Hv B F w' m v (swp l i j) ∧ Wrote (fun k => v.ownBlock = some k) w w' := by
  subst ha hb
  exact (hswap_any h.own hlen i j hi hj).mono fun _ _ ⟨h1, h2, h3⟩ => ⟨h1, h.swapped h2 h3, h3⟩

/-- What a sinking has done so far. -/
structure Sunk (l : List Hd) (n i0 : Nat) (l' : List Hd) (i : Nat) : Prop where
  perm : l'.Perm l
  sift : Sift l' n i0 i
  rest : ∀ k, n ≤ k → hat l' k = hat l k
  start : i = i0 → l' = l

theorem Sunk.step {n i0 i j : Nat} {l' : List Hd} (h : Sunk l n i0 l' i) (hc : Child l' n i j) (hn : n ≤ l.length) (h0 : i0 ≤ i) (hl : hcmp (hat l' j) (hat l' i) < 0) : Sunk l n i0 (swp l' i j) j := by
  have hlen := h.perm.length_eq
  obtain ⟨c1, c2, _⟩ := id hc
  refine ⟨(swp_perm (by omega) (by omega)).trans h.perm, h.sift.step hc (by omega) h0 hl, fun k hk => ?_, fun e => by omega⟩
  rw [swp_at (by omega) (by omega), if_neg (by omega), if_neg (by omega)]
  exact h.rest k hk

theorem child_right {l : List Hd} {n i : Nat} (h2 : 2 * i + 2 < n) (hc : hcmp (hat l (2 * i + 2)) (hat l (2 * i + 1)) < 0) : Child l n i (2 * i + 2) :=
  ⟨h2, .inr rfl, fun k _ hk => by
    rcases hk with rfl | rfl
    · omega
    · rw [hcmp_self]; omega⟩
theorem child_left {l : List Hd} {n i : Nat} (h1 : 2 * i + 1 < n) (hc : 2 * i + 2 < n → ¬ hcmp (hat l (2 * i + 2)) (hat l (2 * i + 1)) < 0) : Child l n i (2 * i + 1) :=
  ⟨h1, .inl rfl, fun k hk1 hk => by
    rcases hk with rfl | rfl
    · rw [hcmp_self]; omega
    · have := hc hk1
      have := isCmp_hd.anti (hat l (2 * i + 2)) (hat l (2 * i + 1))
      omega⟩

def DownPost (B : Nat) (F : Nat → Prop) (m : Nat) (v : Value) (l : List Hd) (n i0 : Nat) (w : World) (x : Ending) (w' : World) : Prop :=
  ∃ l' b, x = .returned (.bool b) ∧ Hv B F w' m v l' ∧ l'.Perm l ∧ HeapFrom l' n i0 ∧ (∀ k, n ≤ k → hat l' k = hat l k) ∧ (b = false → l' = l) ∧ Wrote (fun k => v.ownBlock = some k) w w'

theorem down_done {n i0 i : Nat} {l' : List Hd} {b : Bool} (h : Hv B F w' m v l') (hs : Sunk l n i0 l' i) (hp : HeapFrom l' n i0) (hb : b = decide (i0 < i)) (h0 : i0 ≤ i) (hw : Wrote (fun k => v.ownBlock = some k) w w') : DownPost B F m v l n i0 w (.returned (.bool b)) w' :=
  ⟨l', b, rfl, h, hs.perm, hp, hs.rest, fun e => hs.start (by rw [e] at hb; have := of_decide_eq_false hb.symm; omega), hw⟩

set_option maxRecDepth 100000 in
set_option maxHeartbeats 1000000 in
theorem down_any (h : Hv B F w m v l) (hlen : l.length ≤ 1000000) (hne : ∀ x ∈ l, x.l ≠ []) (i0 n : Nat) (a b : Int) (ha : a = i0) (hb : b = n) (hn : n ≤ l.length) (hi0 : i0 ≤ 1000000) (hp : HeapFrom l n (i0 + 1)) :
    Calls Try.prog 75 #[.iface 82 (.pointer (some ⟨m, 0, none⟩)), .int .i64 a, .int .i64 b] w (DownPost B F m v l n i0 w) := by
  subst ha hb
  have HH := Lib.hid h
  have HNE := Lib.hid hne
  have HP := Lib.hid hp
  have HN := Lib.hid hn
  have hn1 : n ≤ 1000000 := by omega
  clear h hne hp hn
  go_enter Try.func75, Try.ntmps75
  go_wp2_with fail
  go_loopw [7] (fun s wr => ∃ (i : Nat) (l' : List Hd), s = .int .i64 (i : Int) ∧ i0 ≤ i ∧ i ≤ 1000000 ∧ Hid (Hv B F wr m v l') ∧ Hid (Sunk l n i0 l' i) ∧ Hid (Wrote (fun k => v.ownBlock = some k) w wr)) (fun s _ => 1000001 - (intOf s).toNat)
  case atStart => exact ⟨i0, l, rfl, Nat.le_refl _, hi0, HH.out, ⟨List.Perm.refl _, Sift.start HP.out, fun _ _ => rfl, fun _ => rfl⟩, Wrote.of_below (Below.refl _ _)⟩
  case round =>
    obtain ⟨i, l', rfl, h0, h1, HV, HS, HW⟩ := hrel
    have HNE' : Hid (∀ x ∈ l', x.l ≠ []) := fun x hx => HNE.out x (HS.out.perm.mem_iff.1 hx)
    have HL : Hid (l'.length ≤ 1000000 ∧ n ≤ l'.length) := by have := HS.out.perm.length_eq; have := HN.out; exact ⟨by omega, by omega⟩
    by_cases hj1 : n ≤ 2 * i + 1
    · have t1 : decide ((n : Int) ≤ 2 * (i : Int) + 1) = true := by simp; omega
      go_wp2_with fail
      go_ret
      exact down_done HV.out HS.out (HS.out.sift.done hj1) rfl h0 HW.out
    · have t1 : (2 * (i : Int) + 1) < (n : Int) := by omega
      by_cases hj2 : 2 * i + 2 < n
      · have t2 : 2 * (i : Int) + 1 + 1 < (n : Int) := by omega
        have hm1 := meth_less (HV.out.cell)
        by_cases hc : hcmp (hat l' (2 * i + 2)) (hat l' (2 * i + 1)) < 0
        · have HC : Hid (Child l' n i (2 * i + 2)) := child_right hj2 hc
          go_wp2_with fail
          refine Calls.mono (hless_at HV.out HL.out.1 HNE'.out (2 * i + 2) (2 * i + 1) (by have := HL.out.2; omega) (by have := HL.out.2; omega) _ _ (by omega) (by omega) true (decide_eq_true hc)) ?_
          rintro e w2 ⟨rfl, hb2⟩
          have HV2 := Lib.hid (HV.out.below hb2)
          have HW2 : Hid (Wrote (fun k => v.ownBlock = some k) w w2) := HW.out.trans (Wrote.of_below hb2)
          clear hb2 hm1 hc
          have hm2 := meth_less (HV2.out.cell)
          by_cases hlt : hcmp (hat l' (2 * i + 2)) (hat l' i) < 0
          · go_wp2_with fail
            refine Calls.mono (hless_at HV2.out HL.out.1 HNE'.out (2 * i + 2) i (by have := HL.out.2; omega) (by have := HL.out.2; omega) _ _ (by omega) rfl true (decide_eq_true hlt)) ?_
            rintro e w3 ⟨rfl, hb3⟩
            have HV3 := Lib.hid (HV2.out.below hb3)
            have HW3 : Hid (Wrote (fun k => v.ownBlock = some k) w w3) := HW2.out.trans (Wrote.of_below hb3)
            have hm3 := meth_swap (HV3.out.cell)
            clear hb3 hm2
            go_wp2_with fail
            refine Calls.mono (hswap_at HV3.out HL.out.1 i (2 * i + 2) (by have := HL.out.2; omega) (by have := HL.out.2; omega) _ _ rfl (by omega)) ?_
            rintro e w4 ⟨rfl, hv4, hw4⟩
            have HV4 := Lib.hid hv4
            have HW4 : Hid (Wrote (fun k => v.ownBlock = some k) w w4) := HW3.out.trans hw4
            clear hv4 hw4 hm3
            have HS4 := Lib.hid (HS.out.step HC.out HN.out h0 hlt)
            clear hlt
            go_wp2_with fail
            go_roundw
            · exact ⟨(2 * i + 2), _, int_eq (by omega), by omega, by omega, HV4.out, HS4.out, HW4.out⟩
            · simp only [intOf]; omega
          · go_wp2_with fail
            refine Calls.mono (hless_at HV2.out HL.out.1 HNE'.out (2 * i + 2) i (by have := HL.out.2; omega) (by have := HL.out.2; omega) _ _ (by omega) rfl false (decide_eq_false (by omega))) ?_
            rintro e w3 ⟨rfl, hb3⟩
            have HV3 := Lib.hid (HV2.out.below hb3)
            have HW3 : Hid (Wrote (fun k => v.ownBlock = some k) w w3) := HW2.out.trans (Wrote.of_below hb3)
            have HP3 := Lib.hid (HS.out.sift.stop HC.out (by omega))
            clear hb3 hm2 hlt
            go_wp2_with fail
            go_ret
            exact down_done HV3.out HS.out HP3.out rfl h0 HW3.out
        · have HC : Hid (Child l' n i (2 * i + 1)) := child_left (by omega) (fun _ => hc)
          go_wp2_with fail
          refine Calls.mono (hless_at HV.out HL.out.1 HNE'.out (2 * i + 2) (2 * i + 1) (by have := HL.out.2; omega) (by have := HL.out.2; omega) _ _ (by omega) (by omega) false (decide_eq_false (by omega))) ?_
          rintro e w2 ⟨rfl, hb2⟩
          have HV2 := Lib.hid (HV.out.below hb2)
          have HW2 : Hid (Wrote (fun k => v.ownBlock = some k) w w2) := HW.out.trans (Wrote.of_below hb2)
          clear hb2 hm1 hc
          have hm2 := meth_less (HV2.out.cell)
          by_cases hlt : hcmp (hat l' (2 * i + 1)) (hat l' i) < 0
          · go_wp2_with fail
            refine Calls.mono (hless_at HV2.out HL.out.1 HNE'.out (2 * i + 1) i (by have := HL.out.2; omega) (by have := HL.out.2; omega) _ _ (by omega) rfl true (decide_eq_true hlt)) ?_
            rintro e w3 ⟨rfl, hb3⟩
            have HV3 := Lib.hid (HV2.out.below hb3)
            have HW3 : Hid (Wrote (fun k => v.ownBlock = some k) w w3) := HW2.out.trans (Wrote.of_below hb3)
            have hm3 := meth_swap (HV3.out.cell)
            clear hb3 hm2
            go_wp2_with fail
            refine Calls.mono (hswap_at HV3.out HL.out.1 i (2 * i + 1) (by have := HL.out.2; omega) (by have := HL.out.2; omega) _ _ rfl (by omega)) ?_
            rintro e w4 ⟨rfl, hv4, hw4⟩
            have HV4 := Lib.hid hv4
            have HW4 : Hid (Wrote (fun k => v.ownBlock = some k) w w4) := HW3.out.trans hw4
            clear hv4 hw4 hm3
            have HS4 := Lib.hid (HS.out.step HC.out HN.out h0 hlt)
            clear hlt
            go_wp2_with fail
            go_roundw
            · exact ⟨(2 * i + 1), _, int_eq (by omega), by omega, by omega, HV4.out, HS4.out, HW4.out⟩
            · simp only [intOf]; omega
          · go_wp2_with fail
            refine Calls.mono (hless_at HV2.out HL.out.1 HNE'.out (2 * i + 1) i (by have := HL.out.2; omega) (by have := HL.out.2; omega) _ _ (by omega) rfl false (decide_eq_false (by omega))) ?_
            rintro e w3 ⟨rfl, hb3⟩
            have HV3 := Lib.hid (HV2.out.below hb3)
            have HW3 : Hid (Wrote (fun k => v.ownBlock = some k) w w3) := HW2.out.trans (Wrote.of_below hb3)
            have HP3 := Lib.hid (HS.out.sift.stop HC.out (by omega))
            clear hb3 hm2 hlt
            go_wp2_with fail
            go_ret
            exact down_done HV3.out HS.out HP3.out rfl h0 HW3.out
      · have t2 : ¬ 2 * (i : Int) + 1 + 1 < (n : Int) := by omega
        have HC : Hid (Child l' n i (2 * i + 1)) := child_left (by omega) (fun h => absurd h hj2)
        have HV2 := HV
        have HW2 := HW
        have hm2 := meth_less (HV2.out.cell)
        by_cases hlt : hcmp (hat l' (2 * i + 1)) (hat l' i) < 0
        · go_wp2_with fail
          refine Calls.mono (hless_at HV2.out HL.out.1 HNE'.out (2 * i + 1) i (by have := HL.out.2; omega) (by have := HL.out.2; omega) _ _ (by omega) rfl true (decide_eq_true hlt)) ?_
          rintro e w3 ⟨rfl, hb3⟩
          have HV3 := Lib.hid (HV2.out.below hb3)
          have HW3 : Hid (Wrote (fun k => v.ownBlock = some k) w w3) := HW2.out.trans (Wrote.of_below hb3)
          have hm3 := meth_swap (HV3.out.cell)
          clear hb3 hm2
          go_wp2_with fail
          refine Calls.mono (hswap_at HV3.out HL.out.1 i (2 * i + 1) (by have := HL.out.2; omega) (by have := HL.out.2; omega) _ _ rfl (by omega)) ?_
          rintro e w4 ⟨rfl, hv4, hw4⟩
          have HV4 := Lib.hid hv4
          have HW4 : Hid (Wrote (fun k => v.ownBlock = some k) w w4) := HW3.out.trans hw4
          clear hv4 hw4 hm3
          have HS4 := Lib.hid (HS.out.step HC.out HN.out h0 hlt)
          clear hlt
          go_wp2_with fail
          go_roundw
          · exact ⟨(2 * i + 1), _, int_eq (by omega), by omega, by omega, HV4.out, HS4.out, HW4.out⟩
          · simp only [intOf]; omega
        · go_wp2_with fail
          refine Calls.mono (hless_at HV2.out HL.out.1 HNE'.out (2 * i + 1) i (by have := HL.out.2; omega) (by have := HL.out.2; omega) _ _ (by omega) rfl false (decide_eq_false (by omega))) ?_
          rintro e w3 ⟨rfl, hb3⟩
          have HV3 := Lib.hid (HV2.out.below hb3)
          have HW3 : Hid (Wrote (fun k => v.ownBlock = some k) w w3) := HW2.out.trans (Wrote.of_below hb3)
          have HP3 := Lib.hid (HS.out.sift.stop HC.out (by omega))
          clear hb3 hm2 hlt
          go_wp2_with fail
          go_ret
          exact down_done HV3.out HS.out HP3.out rfl h0 HW3.out
end
end Go.Proofs.Ytmpapipobjoboaa
