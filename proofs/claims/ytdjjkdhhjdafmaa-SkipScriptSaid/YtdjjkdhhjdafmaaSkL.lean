/- skip: levels, look. -/
import Derived.Test.YtdjjkdhhjdafmaaSkT
namespace Go.Proofs.Ytdjjkdhhjdafmaa
open Go.RowKit

theorem levels_any (b h : Nat) (w : World) (k16 : w.cell? ⟨b, 16, none⟩ = some (.int .i64 (h : Int))) (hh : h ≤ 12) :
    Calls Try.prog 40 #[.pointer (some ⟨b, 0, none⟩)] w fun e w' => e = .returned (.slice (some ⟨b, 4, none⟩) h 12) ∧ ∃ n, w' = w.drewN n := by
  have h12 : (h : Int) ≤ 12 := by omega
  go_enter Try.func40, Try.ntmps40
  go_wp2_with fail
  go_quiet (fail)
  go_wp2_with fail
  go_ret
  exact ⟨rfl, _, rfl⟩

theorem below_two (w : World) (o1 o2 : Obj) : Below w.heap.size w ((w.alloc o1).alloc o2) := ((Below.refl w.heap.size w).alloc (Nat.le_refl _) o1).alloc (by simp) o2

theorem blk_two (w : World) (o : Obj) (c : Array Value) (T : TypeId) : Blk ((w.alloc o).alloc (.cells c T)) (w.heap.size + 1) c T := Blk.at_new (by simp) rfl

/-- The tower ahead, of a level. -/
def aheadV (l : List Tw) (k : Nat) : Value := match lastH k l with
  | some t => t.ptr
  | none => .pointer none
/-- The towers ahead, L levels being left to look for. -/
def aheads (l : List Tw) (L : Nat) : List Value := (List.range 12).map fun k => if k < L then .pointer none else aheadV l k
theorem aheads_len (l : List Tw) (L : Nat) : (aheads l L).length = 12 := by simp [aheads]
theorem aheads_get (l : List Tw) (L k : Nat) (hk : k < 12) : (aheads l L)[k]? = some (if k < L then .pointer none else aheadV l k) := by simp [aheads, hk]
theorem aheads_set (l : List Tw) (L : Nat) (hL : L < 12) : (aheads l (L + 1)).set L (aheadV l L) = aheads l L := by
  refine List.ext_getElem? fun j => ?_
  by_cases hj : j = L
  · subst hj
    rw [List.getElem?_set_self (by rw [aheads_len]; exact hL), aheads_get _ _ _ hL, if_neg (by omega)]
  · rw [List.getElem?_set_ne (fun e => hj e.symm)]
    rcases Nat.lt_or_ge j 12 with h | h
    · rw [aheads_get _ _ _ h, aheads_get _ _ _ h]
      by_cases h1 : j < L
      · rw [if_pos h1, if_pos (by omega)]
      · rw [if_neg h1, if_neg (by omega)]
    · rw [List.getElem?_eq_none (by rw [aheads_len]; omega), List.getElem?_eq_none (by rw [aheads_len]; omega)]

theorem aheads_none (l : List Tw) : (aheads l 12).toArray = #[.pointer none, .pointer none, .pointer none, .pointer none, .pointer none, .pointer none, .pointer none, .pointer none, .pointer none, .pointer none, .pointer none, .pointer none] := rfl

theorem aheads_one (l : List Tw) (L : Nat) : ∀ u ∈ (aheads l L), u.oneCell' = true := by
  intro u hu
  simp only [aheads, List.mem_map] at hu
  obtain ⟨k, _, rfl⟩ := hu
  split
  · rfl
  · unfold aheadV; split <;> rfl
theorem Blk.drewN_ {w : World} {b : Nat} {c : Array Value} {T : TypeId} (h : Blk w b c T) (n : Nat) : Blk (w.drewN n) b c T := h

theorem restH_len (k : Nat) : ∀ l : List Tw, ((restH k l).getD l).length + l.countP (fun t => decide (k < t.h)) ≤ l.length
  | [] => by simp [restH]
  | t :: r => by
    have ih := restH_len k r
    rw [List.countP_cons, List.length_cons]
    unfold restH
    cases h : restH k r with
    | some s =>
      rw [h] at ih
      simp only [Option.getD_some] at ih ⊢
      split <;> omega
    | none =>
      rw [h] at ih
      simp only [Option.getD_none] at ih
      by_cases ht : k < t.h
      · rw [if_pos ht]
        simp only [Option.getD_some, decide_eq_true ht, if_true]
        have hc := List.countP_le_length (p := fun t : Tw => decide (k < t.h)) (l := r)
        have h0 : ∀ x ∈ r, ¬ k < x.h := by
          intro x hx hk
          have : restH k r ≠ none := by
            intro _
            have hsome : ∀ {l : List Tw} {x : Tw}, x ∈ l → k < x.h → restH k l ≠ none := by
              intro l
              induction l with
              | nil => intro x hx; cases hx
              | cons y l ih =>
                intro x hx hk
                unfold restH
                rcases List.mem_cons.1 hx with rfl | hx
                · cases hl : restH k l with
                  | some s => simp
                  | none => simp [hk]
                · have := ih hx hk
                  cases hl : restH k l with
                  | some s => simp
                  | none => exact absurd hl this
            exact hsome hx hk h
          exact this h
        rw [List.countP_eq_zero.2 fun x hx => by simpa using h0 x hx]
        omega
      · rw [if_neg ht]
        simp only [Option.getD_none, decide_eq_false ht, List.length_cons]
        simp
        omega
theorem stepsOf_le : ∀ (L : Nat) (l : List Tw), stepsOf L l ≤ L + l.length
  | 0, _ => by simp [stepsOf]
  | L + 1, l => by
    have h1 := restH_len L l
    have h2 := stepsOf_le L ((restH L l).getD l)
    show l.countP (fun t => decide (L < t.h)) + 1 + stepsOf L ((restH L l).getD l) ≤ _
    omega

theorem ecompare_at (F G : Nat → Prop) (a b : Ent) (r : Int) (hr : Ent.cmp a b = r) (ka va kb vb : Value) (w : World) (ha : Bytes F w ka a.key) (hb : Bytes G w kb b.key) :
    Calls Try.prog 52 #[.agg (entCells a ka va).toArray, .agg (entCells b kb vb).toArray] w fun e w' => e = .returned (.int .i64 r) ∧ Below w.heap.size w w' := by
  subst hr; exact ecompare_any F G a b ka va kb vb w ha hb

/-- The cells of an entry at the beginning of a block. -/
def C4 (b : Nat) (e : Ent) (k v : Value) (w : World) : Prop := w.cell? ⟨b, 0, none⟩ = some k ∧ w.cell? ⟨b, 1, none⟩ = some (.int .u64 e.seq) ∧ w.cell? ⟨b, 2, none⟩ = some (.int .i64 e.kind) ∧ w.cell? ⟨b, 3, none⟩ = some v
theorem C4.keep {B b : Nat} {e : Ent} {k v : Value} {w w' : World} (h : C4 b e k v w) (hb : Below B w w') (hz : b < B) : C4 b e k v w' := by
  have e1 : ∀ i, w'.cell? ⟨b, i, none⟩ = w.cell? ⟨b, i, none⟩ := fun i => World.cell?_of_block (hb.block b hz)
  unfold C4 at *
  simp only [e1]
  exact h

/-- A tower of the table. -/
theorem Skp.tower {lo : Lo} {b : Nat} {w : World} {hd : Tw} {ts : List Tw} (h : Skp lo w b hd ts) {p : List Tw} {t : Tw} {r : List Tw} (e : hd :: ts = p ++ t :: r) :
    ∃ vk vv, Blk w t.b (twCells t vk vv r).toArray 64 ∧ Bytes (fk lo b (hd :: ts)) w vk t.e.key ∧ Bytes (fk lo b (hd :: ts)) w vv t.e.value := by
  have hc := h.ch
  rw [e] at hc
  obtain ⟨vk, vv, g1, g2, g3⟩ := hc.at
  rw [List.append_nil] at g1
  rw [← e] at g2 g3
  exact ⟨vk, vv, g1, g2, g3⟩
theorem Blk.c4 {w : World} {t : Tw} {vk vv : Value} {r : List Tw} {T : TypeId} (h : Blk w t.b (twCells t vk vv r).toArray T) : C4 t.b t.e vk vv w := ⟨h.cell rfl, h.cell rfl, h.cell rfl, h.cell rfl⟩
theorem Skp.high {lo : Lo} {b : Nat} {w : World} {hd : Tw} {ts : List Tw} (h : Skp lo w b hd ts) {t : Tw} (ht : t ∈ hd :: ts) : t.h ≤ 12 := by
  rcases List.mem_cons.1 ht with rfl | ht
  · rw [h.h12]; exact Nat.le_refl _
  · exact (h.hs t ht).2

set_option maxRecDepth 100000 in
set_option maxHeartbeats 4000000 in
theorem look_any (lo : Lo) (b : Nat) (hd : Tw) (ts : List Tw) (G : Nat → Prop) (e : Ent) (ke ve : Value) (w : World) (h : Skp lo w b hd ts) (he : Bytes G w ke e.key) :
    Calls Try.prog 38 #[.pointer (some ⟨b, 0, none⟩), .agg (entCells e ke ve).toArray] w fun x w' =>
      x = .returned (.tuple #[.agg (aheads (hd :: ahead e ts) 0).toArray, .int .i64 (stepsOf 12 (ahead e ts) : Int)]) ∧ Below w.heap.size w w' := by
  obtain ⟨ka, kc, rfl⟩ := he.isSlice
  have HI := Lib.hid h
  have HE := Lib.hid he
  clear h he
  unfold entCells
  go_enter Try.func38, Try.ntmps38
  go_upto_region 1 with fail
  refine wp_gen fun w1 hw1 => ?_
  have HW1 : Hid (Below w.heap.size w w1) := by rw [hw1]; exact below_two _ _ _
  have HE1 : Hid (Blk w1 w.heap.size (entCells e (.slice ka e.key.length kc) ve).toArray 34) := by rw [hw1]; exact (Blk.at_new rfl rfl).alloc _
  have HA1 : Hid (Blk w1 (w.heap.size + 1) (aheads (hd :: ahead e ts) 12).toArray 62) := by rw [hw1, aheads_none]; exact blk_two _ _ _ _
  clear hw1
  have HI1 := Lib.hid (HI.out.below HW1.out)
  have k0 : w1.cell? ⟨b, 0, none⟩ = some (.pointer (some ⟨hd.b, 0, none⟩)) := HI1.out.blk.cell rfl
  go_wp2_with fail
  clear k0
  generalize hz : w.heap.size = z at *
  have HZQ := Lib.hid hz
  clear hz
  have HQ : Hid (ahead e ts ++ behind e ts = ts) := ahead_behind e ts
  have HQ2 : Hid (∀ t ∈ behind e ts, ¬ Ent.cmp t.e e < 0) := behind_ge e ts HI1.out.up
  have HQ3 : Hid (∀ t ∈ ahead e ts, Ent.cmp t.e e < 0) := ahead_lt e ts
  have HTB : Hid (stepsOf 12 (ahead e ts) ≤ 2000000) := by
    have h1 := stepsOf_le 12 (ahead e ts)
    have h2 := congrArg List.length HQ.out
    have h3 := HI1.out.few
    rw [List.length_append] at h2
    show _ ≤ _
    omega
  obtain ⟨T, hT⟩ : ∃ T, T = stepsOf 12 (ahead e ts) := ⟨_, rfl⟩
  have HTT := Lib.hid hT
  have hTB : T ≤ 2000000 := by rw [hT]; exact HTB.out
  clear hT HTB
  have HKe1 := Lib.hid (HE.out.below (by rw [HZQ.out]; exact HW1.out))
  go_loopw [5, 6, 7] (fun st at_ lv wr => ∃ (L k : Nat) (p rest : List Tw) (d : Tw) (x : Int), st = .int .i64 (k : Int) ∧ at_ = .pointer (some ⟨d.b, 0, none⟩) ∧ lv = .int .i64 x ∧ Hid (x = (L : Int) - 1) ∧ L ≤ 12 ∧ Hid (∀ i, i + 1 = L → i < d.h) ∧
      Hid (hd :: ahead e ts = p ++ d :: rest) ∧ Hid (k + stepsOf L rest = T) ∧ Hid (Blk wr (z + 1) (aheads (hd :: ahead e ts) L).toArray 62) ∧ Hid (Below (z + 1) w1 wr)) (fun st _ _ _ => T - (intOf st).toNat)
  case atStart => exact ⟨12, 0, [], ahead e ts, hd, 11, rfl, rfl, rfl, rfl, Nat.le_refl _, (fun i hi => by rw [HI1.out.h12]; omega), rfl, (by show 0 + stepsOf 12 (ahead e ts) = T; rw [HTT.out, Nat.zero_add]), HA1, Below.refl _ _⟩
  case round =>
    obtain ⟨L, k, p, rest, d, x, rfl, rfl, rfl, HX, hL, HDh, HS, HK, HA, HW⟩ := hrel
    have HBr : Hid (Below w.heap.size w wr) := by rw [HZQ.out]; exact HW1.out.trans (HW.out.mono (Nat.le_succ z))
    have HIr : Hid (Skp lo wr b hd ts) := HI.out.below HBr.out
    cases L with
    | zero =>
      have hx : x = -1 := HX.out
      subst hx
      have hkT : k = T := HK.out
      subst hkT
      go_wp2_with (with_reducible refine pause_load ?_)
      refine Pause.go (wpList_load_agg rfl 62 _ rfl ⟨z + 1, 0, none⟩ rfl (aheads (hd :: ahead e ts) 0) _ (fun j v hj => by rw [add_plain']; exact HA.out.cell (by simpa using hj)) Try.underlying62 rfl (by kernel_rfl) ?_)
      go_wp2_with (with_reducible refine pause_store ?_)
      refine Pause.go (wpList_store_agg rfl _ _ _ rfl (z + 1) 0 rfl _ rfl _ _ HA.out (by kernel_rfl) (by simp [aheads_len]) (aheads_one _ _) ?_)
      rw [over_all _ _ (by simp)]
      refine list_gen fun W4 hW4 => ?_
      have HA4 : Hid (Blk W4 (z + 1) (aheads (hd :: ahead e ts) 0).toArray 62) := by rw [hW4]; exact HA.out.row _
      have HW4 : Hid (Below z w W4) := by rw [hW4]; exact below_setRow (by rw [← HZQ.out]; exact HBr.out) (Nat.le_succ _) _
      clear hW4
      go_wp2_with fail
      refine bodyPost_ret (results_cell_tmp1 (p := 4) (t := 5) rfl _ _ (z + 1) 62 (aheads (hd :: ahead e ts) 0).toArray _ rfl HA4.out Try.underlying62 rfl (by kernel_rfl)) rfl ?_
      refine ⟨?_, by rw [HZQ.out]; exact HW4.out⟩
      rw [← HTT.out]
      rfl
    | succ L =>
      have hx : x = (L : Int) := by have := HX.out; omega
      subst hx
      have hL0 : (0 : Int) ≤ (L : Int) := by omega
      have hkT : k + 1 ≤ T := by
        have h1 := HK.out
        have h2 : 1 ≤ stepsOf (L + 1) rest := by unfold stepsOf; omega
        omega
      have hkb : (k : Int) ≤ 3000000 := by omega
      have hLd : L < d.h := HDh.out L rfl
      have hEQ : hd :: ts = p ++ d :: (rest ++ behind e ts) := (congrArg (List.cons hd) HQ.out.symm).trans (by
        show (hd :: ahead e ts) ++ behind e ts = _
        rw [HS.out]; simp)
      have HEQ := Lib.hid hEQ
      have hd12 : d.h ≤ 12 := HIr.out.high (by rw [hEQ]; simp)
      obtain ⟨dk, dv, g1, _, _⟩ := HIr.out.tower hEQ
      have k16 : wr.cell? ⟨d.b, 16, none⟩ = some (.int .i64 (d.h : Int)) := g1.cell (by rw [List.getElem?_toArray]; exact twCells_high _ _ _ _)
      have k4 : wr.cell? ⟨d.b, 4 + L, none⟩ = some (nxt L (rest ++ behind e ts)) := g1.cell (by rw [List.getElem?_toArray, twCells_all _ _ _ _ _ (by omega), if_pos hLd])
      have K4 := Lib.hid k4
      clear g1 hEQ k4
      go_wp2_with fail
      refine Calls.mono (levels_any d.b d.h wr k16 hd12) ?_
      rintro _ w2 ⟨rfl, n2, hx2⟩
      have HB2 : Hid (Below wr.heap.size wr w2) := by rw [hx2]; exact below_dn (Below.refl _ _) _
      have k4 : w2.cell? ⟨d.b, 4 + L, none⟩ = some (nxt L (rest ++ behind e ts)) := by rw [hx2]; exact K4.out
      clear hx2 k16
      have hLd' : (L : Int) < (d.h : Int) := by omega
      have hL12 : (L : Int) < 12 := by omega
      have HI2 : Hid (Skp lo w2 b hd ts) := HIr.out.below HB2.out
      have HE2 : Hid (Blk wr z (entCells e (.slice ka e.key.length kc) ve).toArray 34) := HE1.out.below HW.out (Nat.lt_succ_self z)
      have HCe : Hid (C4 z e (.slice ka e.key.length kc) ve w2.drew) := C4.keep (w := wr) ⟨HE2.out.cell rfl, HE2.out.cell rfl, HE2.out.cell rfl, HE2.out.cell rfl⟩ (below_drew HB2.out) HE2.out.lt
      have HZe : Hid (z < w2.drew.heap.size) := Nat.lt_of_lt_of_le HE2.out.lt HB2.out.size
      have HKe : Hid (Bytes G w2.drew (.slice ka e.key.length kc) e.key) := (HE.out.below HBr.out).below (below_drew HB2.out)
      have HA2 : Hid (Blk w2 (z + 1) (aheads (hd :: ahead e ts) (L + 1)).toArray 62) := HA.out.below HB2.out HA.out.lt
      have HW2 : Hid (Below (z + 1) w1 w2) := HW.out.trans (HB2.out.mono (Nat.le_of_lt HA.out.lt))
      clear HE2 HB2
      have HSt := Lib.hid HK.out
      rcases nxt_split L rest with ⟨_, hlow⟩ | ⟨l1, t, l2, hr, hlow, ht, _⟩
      · rw [nxt_low _ hlow] at k4
        have HAV : Hid (aheadV (hd :: ahead e ts) L = .pointer (some ⟨d.b, 0, none⟩)) := by
          show _ = _
          have e1 : lastH L (d :: rest) = some d := by
            show (match lastH L rest with | some y => some y | none => if L < d.h then some d else none) = _
            rw [lastH_low hlow]
            exact if_pos hLd
          unfold aheadV
          rw [HS.out, lastH_append, e1]
          rfl
        have HDn : Hid (k + 1 + stepsOf L rest = T) := by
          have h1 := HSt.out
          rw [stepsOf_down hlow] at h1
          show _ = _
          omega
        rcases nxt_split L (behind e ts) with ⟨hn, _⟩ | ⟨m1, t, m2, hr, _, ht, hn⟩
        · rw [hn] at k4
          go_wp2_with fail
          go_quiet (fail)
          go_upto_region 8 with fail
          refine wp_gen fun x1 hx1 => ?_
          have HX1 : Hid (Below w2.heap.size w2 x1) := by rw [hx1]; exact below_dn (Below.refl _ _) _
          clear hx1
          have HAx : Hid (Blk x1 (z + 1) (aheads (hd :: ahead e ts) (L + 1)).toArray 62) := HA2.out.below HX1.out HA2.out.lt
          have kA : x1.cell? ⟨z + 1, L, none⟩ = some (.pointer none) := HAx.out.cell (by rw [List.getElem?_toArray, aheads_get _ _ _ (by omega), if_pos (Nat.lt_succ_self L)])
          have fA := HAx.out.free L
          go_upto_region 9 with fail
          refine wp_gen fun w5 hw5 => ?_
          have HA5 : Hid (Blk w5 (z + 1) (aheads (hd :: ahead e ts) L).toArray 62) := by
            rw [hw5]
            have h1 := HAx.out.set L (.pointer (some ⟨d.b, 0, none⟩))
            rw [List.setIfInBounds_toArray, show (Value.pointer (some ⟨d.b, 0, none⟩)) = aheadV (hd :: ahead e ts) L from HAV.out.symm, aheads_set _ _ (by omega), HAV.out] at h1
            exact h1
          have HW5 : Hid (Below (z + 1) w1 w5) := by rw [hw5]; exact (HW2.out.trans (HX1.out.mono (Nat.le_of_lt HA2.out.lt))).setCell (Nat.le_refl _) _
          clear hw5
          go_wp2_with fail
          go_roundw
          · exact ⟨L, k + 1, p, rest, d, (L : Int) - 1, by go_num, rfl, by go_num, rfl, by omega, (fun i hi => by have := HDh.out L rfl; omega), HS, HDn, HA5, HW5⟩
          · simp only [intOf]; omega
        · rw [hn] at k4
          unfold Tw.ptr at k4
          have htb : t ∈ behind e ts := by rw [hr]; simp
          obtain ⟨vk, vv, g1, g2, _⟩ := HI2.out.tower (p := p ++ d :: (rest ++ m1)) (t := t) (r := m2) (HEQ.out.trans (by rw [hr]; simp))
          have HCt : Hid (C4 t.b t.e vk vv w2.drew) := g1.c4
          have HZt : Hid (t.b < w2.drew.heap.size) := g1.lt
          have HKt : Hid (Bytes _ w2.drew vk t.e.key) := g2.below (below_drew (Below.refl _ _))
          clear g1 g2
          obtain ⟨r, hr'⟩ : ∃ r, Ent.cmp t.e e = r := ⟨_, rfl⟩
          have HR := Lib.hid hr'
          have hr0 : ¬ r < 0 := by rw [← hr']; have := HQ2.out t htb; omega
          have hr1 : decide (r < 0) = false := by simpa using hr0
          clear hr' htb
          go_wp2_with fail
          go_region_held3 (fun w' => (w'.cell? ⟨t.b, 0, none⟩ = some vk ∧ w'.cell? ⟨t.b, 1, none⟩ = some (.int .u64 t.e.seq) ∧ w'.cell? ⟨t.b, 2, none⟩ = some (.int .i64 t.e.kind) ∧ w'.cell? ⟨t.b, 3, none⟩ = some vv) ∧ (w'.cell? ⟨z, 0, none⟩ = some (.slice ka e.key.length kc) ∧ w'.cell? ⟨z, 1, none⟩ = some (.int .u64 e.seq) ∧ w'.cell? ⟨z, 2, none⟩ = some (.int .i64 e.kind) ∧ w'.cell? ⟨z, 3, none⟩ = some ve))
            (first | exact ⟨HCt.out, HCe.out⟩ | exact ⟨HCt.out.keep hbx HZt.out, HCe.out.keep hbx HZe.out⟩)
            (first | (go_at_call 52; refine Calls.mono (ecompare_at _ _ t.e e r HR.out vk vv (.slice ka e.key.length kc) ve _ HKt.out HKe.out) ?_; rintro _ x1 ⟨rfl, hbx⟩; skip))
          have HX1 : Hid (Below w2.heap.size w2 x1) := below_of_drew hbx
          clear hbx HCt HZt HKt HR
          have HAx : Hid (Blk x1 (z + 1) (aheads (hd :: ahead e ts) (L + 1)).toArray 62) := HA2.out.below HX1.out HA2.out.lt
          have kA : x1.cell? ⟨z + 1, L, none⟩ = some (.pointer none) := HAx.out.cell (by rw [List.getElem?_toArray, aheads_get _ _ _ (by omega), if_pos (Nat.lt_succ_self L)])
          have fA := HAx.out.free L
          go_upto_region 9 with fail
          refine wp_gen fun w5 hw5 => ?_
          have HA5 : Hid (Blk w5 (z + 1) (aheads (hd :: ahead e ts) L).toArray 62) := by
            rw [hw5]
            have h1 := HAx.out.set L (.pointer (some ⟨d.b, 0, none⟩))
            rw [List.setIfInBounds_toArray, show (Value.pointer (some ⟨d.b, 0, none⟩)) = aheadV (hd :: ahead e ts) L from HAV.out.symm, aheads_set _ _ (by omega), HAV.out] at h1
            exact h1
          have HW5 : Hid (Below (z + 1) w1 w5) := by rw [hw5]; exact (HW2.out.trans (HX1.out.mono (Nat.le_of_lt HA2.out.lt))).setCell (Nat.le_refl _) _
          clear hw5
          go_wp2_with fail
          go_roundw
          · exact ⟨L, k + 1, p, rest, d, (L : Int) - 1, by go_num, rfl, by go_num, rfl, by omega, (fun i hi => by have := HDh.out L rfl; omega), HS, HDn, HA5, HW5⟩
          · simp only [intOf]; omega
      · rw [hr, List.append_assoc, nxt_low _ hlow] at k4
        have e4 : nxt L (t :: l2 ++ behind e ts) = .pointer (some ⟨t.b, 0, none⟩) := if_pos ht
        rw [e4] at k4
        have hta : t ∈ ahead e ts := by
          have h1 := HS.out
          have h2 : t ∈ rest := by rw [hr]; simp
          cases p with
          | nil =>
            injection h1 with _ h1
            rw [h1]; exact h2
          | cons y p' =>
            injection h1 with _ h1
            rw [h1]; simp [h2]
        obtain ⟨vk, vv, g1, g2, _⟩ := HI2.out.tower (p := p ++ d :: l1) (t := t) (r := l2 ++ behind e ts) (HEQ.out.trans (by rw [hr]; simp))
        have HCt : Hid (C4 t.b t.e vk vv w2.drew) := g1.c4
        have HZt : Hid (t.b < w2.drew.heap.size) := g1.lt
        have HKt : Hid (Bytes _ w2.drew vk t.e.key) := g2.below (below_drew (Below.refl _ _))
        clear g1 g2
        obtain ⟨r, hr'⟩ : ∃ r, Ent.cmp t.e e = r := ⟨_, rfl⟩
        have HR := Lib.hid hr'
        have hr0 : r < 0 := by rw [← hr']; have := HQ3.out t hta; omega
        clear hr' hta
        have HDn : Hid (k + 1 + stepsOf (L + 1) l2 = T) := by
          have h1 := HSt.out
          rw [hr, stepsOf_move hlow ht] at h1
          show _ = _
          omega
        have HSn : Hid (hd :: ahead e ts = (p ++ d :: l1) ++ t :: l2) := by
          show _ = _
          rw [HS.out, hr]; simp
        go_wp2_with fail
        go_region_held3 (fun w' => (w'.cell? ⟨t.b, 0, none⟩ = some vk ∧ w'.cell? ⟨t.b, 1, none⟩ = some (.int .u64 t.e.seq) ∧ w'.cell? ⟨t.b, 2, none⟩ = some (.int .i64 t.e.kind) ∧ w'.cell? ⟨t.b, 3, none⟩ = some vv) ∧ (w'.cell? ⟨z, 0, none⟩ = some (.slice ka e.key.length kc) ∧ w'.cell? ⟨z, 1, none⟩ = some (.int .u64 e.seq) ∧ w'.cell? ⟨z, 2, none⟩ = some (.int .i64 e.kind) ∧ w'.cell? ⟨z, 3, none⟩ = some ve))
          (first | exact ⟨HCt.out, HCe.out⟩ | exact ⟨HCt.out.keep hbx HZt.out, HCe.out.keep hbx HZe.out⟩)
          (first | (go_at_call 52; refine Calls.mono (ecompare_at _ _ t.e e r HR.out vk vv (.slice ka e.key.length kc) ve _ HKt.out HKe.out) ?_; rintro _ x1 ⟨rfl, hbx⟩; skip))
        have HX1 : Hid (Below w2.heap.size w2 x1) := below_of_drew hbx
        clear hbx HCt HZt HKt HR
        have HA5 : Hid (Blk x1 (z + 1) (aheads (hd :: ahead e ts) (L + 1)).toArray 62) := HA2.out.below HX1.out HA2.out.lt
        have HW5 : Hid (Below (z + 1) w1 x1) := HW2.out.trans (HX1.out.mono (Nat.le_of_lt HA2.out.lt))
        go_wp2_with fail
        go_roundw
        · exact ⟨L + 1, k + 1, p ++ d :: l1, l2, t, (L : Int), by go_num, rfl, rfl, (by show (L : Int) = ((L + 1 : Nat) : Int) - 1; omega), hL, (fun i hi => (by obtain rfl : i = L := (by omega); exact ht)), HSn, HDn, HA5, HW5⟩
        · simp only [intOf]; omega
end Go.Proofs.Ytdjjkdhhjdafmaa
