/- The document's Read: its contract. -/
import Derived.Test.YtkpbkhbgiijbiaaRefC
namespace Go.Proofs.Ytkpbkhbgiijbiaa
open Go.RowKit

theorem wr64 (z : Int) (h0 : -9223372036854775808 ≤ z) (h1 : z ≤ 9223372036854775807) : wrap64 z = z := by unfold wrap64; omega

theorem len_wrap (a b c : Nat) (ha : a < 256) (hb : b < 256) (hc : c < 256) : wrap64 (wrap64 (wrap64 (a : Int) + wrap64 (256 * wrap64 (b : Int))) + wrap64 (65536 * wrap64 (c : Int))) = ((a + 256 * b + 65536 * c : Nat) : Int) := by
  rw [wr64 (a : Int) (by omega) (by omega), wr64 (b : Int) (by omega) (by omega), wr64 (c : Int) (by omega) (by omega)]
  rw [wr64 (256 * (b : Int)) (by omega) (by omega), wr64 (65536 * (c : Int)) (by omega) (by omega)]
  rw [wr64 ((a : Int) + 256 * (b : Int)) (by omega) (by omega)]
  rw [wr64 ((a : Int) + 256 * (b : Int) + 65536 * (c : Int)) (by omega) (by omega)]
  omega

theorem take_head (bs : List UInt8) (h : 4 ≤ bs.length) : bs.take 4 = Fr.head (bs.getD 0 0) (Fr.lenOf bs) := by
  match bs, h with
  | x0 :: x1 :: x2 :: x3 :: r, _ =>
    have h1 := x1.toNat_lt
    have h2 := x2.toNat_lt
    have h3 := x3.toNat_lt
    have hN : Fr.lenOf (x0 :: x1 :: x2 :: x3 :: r) = x1.toNat + 256 * x2.toNat + 65536 * x3.toNat := rfl
    show [x0, x1, x2, x3] = [x0, _, _, _]
    rw [hN]
    have e1 : UInt8.ofNat ((x1.toNat + 256 * x2.toNat + 65536 * x3.toNat) % 256) = x1 := UInt8.toNat_inj.1 (by rw [UInt8.toNat_ofNat']; omega)
    have e2 : UInt8.ofNat ((x1.toNat + 256 * x2.toNat + 65536 * x3.toNat) / 256 % 256) = x2 := UInt8.toNat_inj.1 (by rw [UInt8.toNat_ofNat']; omega)
    have e3 : UInt8.ofNat ((x1.toNat + 256 * x2.toNat + 65536 * x3.toNat) / 65536 % 256) = x3 := UInt8.toNat_inj.1 (by rw [UInt8.toNat_ofNat']; omega)
    rw [e1, e2, e3]

theorem read_eq (bs : List UInt8) (x0 : UInt8) (n : Nat) (h8 : 8 ≤ bs.length) (h0 : bs.getD 0 0 = x0) (hn : Fr.lenOf bs = n) :
    Fr.read bs = if Fr.head x0 n ++ Fr.sum4 (Fr.head x0 n) ≠ bs.take 8 then (Fr.zero, 0, 4) else if 1048576 < n then (Fr.zero, 0, 3) else if bs.length < n + 12 then (Fr.zero, 0, 12)
      else if Fr.sum4 ((bs.drop 8).take n) ≠ (bs.drop (8 + n)).take 4 then (Fr.zero, 0, 4) else (⟨x0, (bs.drop 8).take n⟩, n + 12, 0) := by
  have ht := take_head bs (by omega)
  rw [h0, hn] at ht
  have e8 : bs.take 8 = Fr.head x0 n ++ (bs.drop 4).take 4 := by rw [← ht, ← List.take_add]
  unfold Fr.read
  rw [if_neg (by omega), hn, ht, h0, e8]
  by_cases hc : (bs.drop 4).take 4 = Fr.sum4 (Fr.head x0 n)
  · have hn1 : ¬ (Fr.head x0 n ++ Fr.sum4 (Fr.head x0 n) ≠ Fr.head x0 n ++ (bs.drop 4).take 4) := by rw [hc]; simp
    have hn2 : ¬ ((bs.drop 4).take 4 ≠ Fr.sum4 (Fr.head x0 n)) := by simp [hc]
    rw [if_neg hn1, if_neg hn2]
    by_cases h1 : 1048576 < n
    · rw [if_pos h1, if_pos h1]
    · rw [if_neg h1, if_neg h1]
      by_cases h2 : bs.length < n + 12
      · rw [if_pos h2, if_pos h2]
      · rw [if_neg h2, if_neg h2]
        by_cases h3 : (bs.drop (8 + n)).take 4 = Fr.sum4 ((bs.drop 8).take n)
        · rw [if_neg (by simp [h3]), if_neg (by simp [h3])]
        · rw [if_pos h3, if_pos (fun e => h3 e.symm)]
  · rw [if_pos hc, if_pos]
    intro e
    exact hc (List.append_cancel_left e).symm

theorem rread_short (F : Nat → Prop) (v : Value) (bs : List UInt8) (w : World) (hv : Bytes F w v bs) (h : bs.length < 8) :
    Calls Try.prog 23 #[v] w (ReadPost (Fr.zero, 0, 12) w) := by
  obtain ⟨a, cap, rfl⟩ := hv.isSlice
  clear hv
  go_enter Try.func23, Try.ntmps23
  go_wp2_with fail
  refine bodyPost_ret (results_cell_tmp2 (p := 2) (t := 3) (u := 4) rfl _ _ w.heap.size 39 #[.int .u8 0, .slice none 0 0] _ rfl (Blk.alloc_new _ _ _) Try.underlying39 rfl (by kernel_rfl)) rfl ?_
  exact readPost_none _ 12 _ _ ((Below.refl _ _).alloc (Nat.le_refl _) _) rfl

set_option maxRecDepth 100000 in
set_option maxHeartbeats 1000000 in
theorem rread_long (F : Nat → Prop) (v : Value) (bs : List UInt8) (w : World) (hv : Bytes F w v bs) (h : 8 ≤ bs.length) (hlen : bs.length ≤ 100000000) :
    Calls Try.prog 23 #[v] w (ReadPost (Fr.read bs) w) := by
  obtain ⟨b, off, cap, rfl, hFb, hbl, hcap, _, hc⟩ := Sl.place hv (by rw [u8s_len]; omega)
  have HV := Lib.hid hv
  have k0 := hc 0 _ (u8s_get _ _ (by omega))
  have k1 := hc 1 _ (u8s_get _ _ (by omega))
  have k2 := hc 2 _ (u8s_get _ _ (by omega))
  have k3 := hc 3 _ (u8s_get _ _ (by omega))
  clear hv hc
  generalize e0 : bs.getD 0 0 = x0 at *
  generalize e1 : bs.getD 1 0 = x1 at *
  generalize e2 : bs.getD 2 0 = x2 at *
  generalize e3 : bs.getD 3 0 = x3 at *
  have HN : Hid (Fr.lenOf bs = x1.toNat + 256 * x2.toNat + 65536 * x3.toNat) := by
    show _ = _
    unfold Fr.lenOf; rw [e1, e2, e3]
  have HE := Lib.hid (And.intro e0 (And.intro e1 (And.intro e2 e3)))
  clear e0 e1 e2 e3
  have hp0 : (0 : Int) < (bs.length : Int) := by omega
  have hp1 : 0 < bs.length := by omega
  have hp2 : (0 : Int) ≤ (bs.length : Int) := by omega
  go_enter Try.func23, Try.ntmps23
  have HS : Hid (wrap64 (wrap64 (wrap64 (x1.toNat : Int) + wrap64 (256 * wrap64 (x2.toNat : Int))) + wrap64 (65536 * wrap64 (x3.toNat : Int))) = ((Fr.lenOf bs : Nat) : Int)) := by
    show _ = _
    rw [HN.out]; exact len_wrap _ _ _ x1.toNat_lt x2.toNat_lt x3.toNat_lt
  have HM : Hid (Fr.lenOf bs ≤ 16777215) := by
    show _ ≤ _
    rw [HN.out]; have := x2.toNat_lt; have := x1.toNat_lt; have := x3.toNat_lt; omega
  go_wp2_with fail
  refine wp_gen fun w1 hw1 => ?_
  have HC1 : Hid (Blk w1 w.heap.size #[.int .u8 0, .slice none 0 0] 39) := by rw [hw1]; exact Blk.at_new rfl rfl
  have HW1 : Hid (Below w.heap.size w w1) := by rw [hw1]; exact (Below.refl _ _).alloc (Nat.le_refl _) _
  have hcc : ∀ i u, w.cell? ⟨b, i, none⟩ = some u → w1.cell? ⟨b, i, none⟩ = some u := fun i u h1 => (HW1.out.cell hbl).trans h1
  replace k0 := hcc _ _ k0
  replace k1 := hcc _ _ k1
  replace k2 := hcc _ _ k2
  replace k3 := hcc _ _ k3
  have HV1 := Lib.hid (HV.out.below HW1.out)
  clear hw1 hcc HV
  go_quiet (fail)
  rw [HS.out]
  have HWq : Hid (Below w.heap.size w (w1.drewN nq)) := ⟨HW1.out.os, HW1.out.tape, HW1.out.output, HW1.out.size, HW1.out.block⟩
  have HCq : Hid (Blk (w1.drewN nq) w.heap.size #[.int .u8 0, .slice none 0 0] 39) := HC1.out
  have HVq : Hid (Bytes F (w1.drewN nq) (.slice (some ⟨b, off, none⟩) bs.length cap) bs) := HV1.out.keep fun _ _ _ => rfl
  have kq : (w1.drewN nq).cell? ⟨b, off + 0, none⟩ = some (.int .u8 (x0.toNat : Int)) := k0
  clear HW1 HC1 HV1 k0 k1 k2 k3 HS
  generalize w1.drewN nq = w2 at *
  have HR := Lib.hid (read_eq bs x0 _ h HE.out.1 rfl)
  have hL := HM.out
  have HL := Lib.hid hL
  clear HN HE HM
  generalize Fr.lenOf bs = n at *
  have HB8 : Hid (Bytes F w2 (.slice (some ⟨b, off, none⟩) 8 cap) (bs.take 8)) := by
    have := HVq.out.sub 0 8 (by omega) (by omega)
    rw [List.drop_zero] at this
    exact this
  have hq : w2.drew.cell? ⟨b, off, none⟩ = some (.int .u8 (x0.toNat : Int)) := kq
  have hc8 : (8 : Int) ≤ (cap : Int) := by omega
  go_wp2_with fail
  by_cases hA : Fr.head x0 n ++ Fr.sum4 (Fr.head x0 n) = bs.take 8
  · go_region_held3 (fun w' => w'.cell? ⟨b, off, none⟩ = some (.int .u8 (x0.toNat : Int))) (first | assumption | go_keep)
      (first
      | (go_at_call 37; refine Calls.mono (rhead_any x0 n _ HL.out) ?_; rintro e w3 ⟨vh, rfl, ho, hb⟩; have HO3 := Lib.hid ho; have HB3 : Hid (Below w2.heap.size w2 w3) := below_of_drew hb; have hS3 : w3.cell? ⟨b, off, none⟩ = some (.int .u8 (x0.toNat : Int)) := (HB3.out.cell (Nat.lt_of_lt_of_le hbl HWq.out.size)).trans hq; clear ho hb)
      | (go_at_call 41; refine Calls.mono (rsame_any _ _ _ _ _ _ _ HO3.out.bytes (HB8.out.below HB3.out) (by rw [hA])) ?_; rintro e w4 ⟨rfl, nd, rfl⟩; rw [decide_eq_true hA]; have hS4 : (w3.drewN nd).cell? ⟨b, off, none⟩ = some (.int .u8 (x0.toNat : Int)) := hS3))
    have hx3 := HCq.out.below HB3.out HCq.out.lt
    have HCw : Hid (Blk (w3.drewN nd) w.heap.size #[.int .u8 0, .slice none 0 0] 39) := hx3
    clear hx3
    have HVw : Hid (Bytes F (w3.drewN nd) (.slice (some ⟨b, off, none⟩) bs.length cap) bs) := (HVq.out.below HB3.out).keep fun _ _ _ => rfl
    have HWw : Hid (Below w.heap.size w (w3.drewN nd)) := by
      have := HWq.out.trans (HB3.out.mono HWq.out.size)
      exact ⟨this.os, this.tape, this.output, this.size, this.block⟩
    clear HO3 HB3 hS3 HCq HVq HWq kq hq
    generalize w3.drewN nd = w4 at *
    rw [if_neg (by simpa using hA)] at HR
    clear hA HB8
    have c0 : w4.cell? ⟨w.heap.size, 0, none⟩ = some (.int .u8 0) := HCw.out.cell rfl
    have c1 : w4.cell? ⟨w.heap.size, 1, none⟩ = some (.slice none 0 0) := HCw.out.cell rfl
    have f0 := HCw.out.free 0
    have f1 := HCw.out.free 1
    by_cases h2 : 1048576 < n
    · rw [if_pos h2] at HR
      have h2' : (1048576 : Int) < (n : Int) := by omega
      go_wp2_with fail
      refine bodyPost_ret (results_cell_tmp2 (p := 2) (t := 3) (u := 4) rfl _ _ w.heap.size 39 #[.int .u8 0, .slice none 0 0] _ rfl ((HCw.out.set 0 _).set 1 _) Try.underlying39 rfl (by kernel_rfl)) rfl (readPost_none _ 3 _ _ ((HWw.out.setCell (by exact Nat.le_refl _) _).setCell (by exact Nat.le_refl _) _) HR.out)
    · rw [if_neg h2] at HR
      have d2 : decide ((1048576 : Int) < (n : Int)) = false := by simp; omega
      go_wp2_with fail
      refine Calls.mono (rsize_any n _ (by omega) (by omega)) ?_
      rintro e w5 ⟨rfl, rfl⟩
      rw [show max 0 (n : Int) + 12 = ((n + 12 : Nat) : Int) by omega]
      by_cases h3 : bs.length < n + 12
      · rw [if_pos h3] at HR
        have h3' : (bs.length : Int) < ((n + 12 : Nat) : Int) := by omega
        go_wp2_with fail
        refine bodyPost_ret (results_cell_tmp2 (p := 2) (t := 3) (u := 4) rfl _ _ w.heap.size 39 #[.int .u8 0, .slice none 0 0] _ rfl ((HCw.out.set 0 _).set 1 _) Try.underlying39 rfl (by kernel_rfl)) rfl (readPost_none _ 12 _ _ ((HWw.out.setCell (by exact Nat.le_refl _) _).setCell (by exact Nat.le_refl _) _) HR.out)
      · rw [if_neg h3] at HR
        have d3 : decide ((bs.length : Int) < ((n + 12 : Nat) : Int)) = false := by simp; omega
        have hBd := HVw.out.sub 8 n (by omega) (by omega)
        have HBd := Lib.hid hBd
        have HSm := Lib.hid (HVw.out.sub (8 + n) 4 (by omega) (by omega))
        clear hBd
        go_wp2_with (with_reducible refine pause_append ?_)
        rw [show 8 + n - 8 = n by omega]
        refine list_gen fun W5 hW5 => ?_
        have HO5 : Hid (Owned w5.heap.size W5 (.slice (some ⟨w5.heap.size, 0, none⟩) 0 0) []) := by
          rw [hW5]; exact World.ownsRow_lit w5 #[] 0 (Nat.le_refl _) (by simp [maxLen]) rfl
        have HB5 : Hid (Below w5.heap.size w5 W5) := by rw [hW5]; exact (Below.refl _ _).alloc (Nat.le_refl _) _
        have HBd5 := Lib.hid (HBd.out.below HB5.out)
        clear hW5
        have hbl2 : ((bs.drop 8).take n).length = n := by simp; omega
        have HBL := Lib.hid hbl2
        clear hbl2
        refine Pause.go (wpList_append_bytes _ w5.heap.size _ [] _ _ rfl _ _ rfl rfl rfl HO5.out HBd5.out (by rw [HBL.out]; simp; omega) HB5.out.size ?_)
        intro v6 w6 ho6 hg6
        rw [List.nil_append] at ho6
        obtain ⟨ga, gn, gc, rfl⟩ := ho6.isSlice
        have HO6 := Lib.hid ho6
        have HB6 : Hid (Below w5.heap.size w5 w6) := HB5.out.trans (hg6.below HB5.out.size fun k e => (World.ownsRow.lt HO5.out k e).1)
        have HSm6 := Lib.hid (HSm.out.below HB6.out)
        have hx6 := HCw.out.below HB6.out HCw.out.lt
        have HC6 := Lib.hid hx6
        have HW6 : Hid (Below w.heap.size w w6) := HWw.out.trans (HB6.out.mono HWw.out.size)
        have hS6 : w6.cell? ⟨b, off, none⟩ = some (.int .u8 (x0.toNat : Int)) := (HB6.out.cell (Nat.lt_of_lt_of_le hbl HWw.out.size)).trans hS4
        have HCl : Hid (w.heap.size < w5.heap.size) := HCw.out.lt
        clear ho6 hg6 HBd5 HB5 HO5 HBd HSm hx6 c0 c1 f0 f1 HCw HVw
        generalize hbody : (bs.drop 8).take n = body at *
        have HBod := Lib.hid hbody
        clear hbody
        go_wp2_with fail
        refine Calls.mono (rsum_any _ _ _ _ HO6.out.bytes) ?_
        rintro e w7 ⟨rfl, rfl⟩
        go_wp2_with fail
        refine Calls.mono (rmask_any _ _) ?_
        rintro e w7' ⟨rfl, rfl⟩
        go_wp2_with fail
        refine Calls.mono (rfour_any _ _ [] _ _ (Nat.le_refl _) (Owned.nil _ _) (by decide)) ?_
        rintro e w8 ⟨v8, rfl, ho8, hg8⟩
        rw [List.nil_append] at ho8
        have HO8 : Hid (Owned w7'.heap.size w8 v8 (Fr.sum4 body)) := ho8
        have HB8 : Hid (Below w7'.heap.size w7' w8) := hg8.below (Nat.le_refl _) (fun k e => by simp [Value.ownBlock] at e)
        have HSm8 := Lib.hid (HSm6.out.below HB8.out)
        have HO68 := Lib.hid (HO6.out.below HB8.out)
        have hx8 := HC6.out.below HB8.out HC6.out.lt
        have HC8 := Lib.hid hx8
        have HW8 : Hid (Below w.heap.size w w8) := HW6.out.trans (HB8.out.mono HW6.out.size)
        have hS8 : w8.cell? ⟨b, off, none⟩ = some (.int .u8 (x0.toNat : Int)) := (HB8.out.cell (Nat.lt_of_lt_of_le hbl HW6.out.size)).trans hS6
        have c0 : w8.cell? ⟨w.heap.size, 0, none⟩ = some (.int .u8 0) := HC8.out.cell rfl
        have c1 : w8.cell? ⟨w.heap.size, 1, none⟩ = some (.slice none 0 0) := HC8.out.cell rfl
        have f0 := HC8.out.free 0
        have f1 := HC8.out.free 1
        clear ho8 hg8 hx8 HSm6 HC6
        go_wp2_with fail
        refine Calls.mono (rsize_any n _ (by omega) (by omega)) ?_
        rintro e w9 ⟨rfl, rfl⟩
        rw [show max 0 (n : Int) + 12 = ((n + 12 : Nat) : Int) by omega]
        go_wp2_with fail
        rw [show n + 12 - (8 + n) = 4 by omega]
        refine Calls.mono (rsame_any _ _ _ _ _ _ _ HO8.out.bytes HSm8.out (by rw [Fr.sum4_len]; simp; omega)) ?_
        rintro e w9' ⟨rfl, nd2, rfl⟩
        have HC9 : Hid (Blk (w9.drewN nd2) w.heap.size #[.int .u8 0, .slice none 0 0] 39) := HC8.out
        have HW9 : Hid (Below w.heap.size w (w9.drewN nd2)) := ⟨HW8.out.os, HW8.out.tape, HW8.out.output, HW8.out.size, HW8.out.block⟩
        have HO9 : Hid (Owned w5.heap.size (w9.drewN nd2) (.slice ga gn gc) body) := HO68.out.keep fun _ _ _ => rfl
        by_cases hT : Fr.sum4 body = (bs.drop (8 + n)).take 4
        · rw [decide_eq_true hT]
          rw [if_neg (by simpa using hT)] at HR
          have c0' : (w9.drewN nd2).cell? ⟨w.heap.size, 0, none⟩ = some (.int .u8 0) := c0
          have c1' : (w9.drewN nd2).cell? ⟨w.heap.size, 1, none⟩ = some (.slice none 0 0) := c1
          have f0' : (w9.drewN nd2).frozen? ⟨w.heap.size, 0, none⟩ = false := f0
          have f1' : (w9.drewN nd2).frozen? ⟨w.heap.size, 1, none⟩ = false := f1
          have hS9 : (w9.drewN nd2).cell? ⟨b, off, none⟩ = some (.int .u8 (x0.toNat : Int)) := hS8
          clear c0 c1 f0 f1 hS8 hS4 hS6 HC8 HW8 HO68 HSm8 HO8 HB8 HO6
          generalize w9.drewN nd2 = w10 at *
          go_wp2_with fail
          go_region_with (go_at_call 28; refine Calls.mono (rsize_any n _ (by omega) (by omega)) ?_; rintro e w11 ⟨rfl, rfl⟩; rw [show max 0 (n : Int) + 12 = ((n + 12 : Nat) : Int) by omega])
          all_goals
            go_wp2_with fail
            refine bodyPost_ret (results_cell_tmp2 (p := 2) (t := 3) (u := 4) rfl _ _ w.heap.size 39 #[.int .u8 (x0.toNat : Int), .slice ga gn gc] _ rfl ((HC9.out.drew.set 0 _).set 1 _) Try.underlying39 rfl (by kernel_rfl)) rfl ?_
            rw [HR.out]
            have hle := HWw.out.size
            have hlt : w.heap.size < w5.heap.size := HCl.out
            refine ⟨.slice ga gn gc, rfl, ?_, (HW9.out.drew.setCell (by exact Nat.le_refl _) _).setCell (by exact Nat.le_refl _) _⟩
            refine ((HO9.out.bytesFrom).keep (w' := _) ?_).mono (fun k _ hk => Nat.le_trans hle hk)
            intro k hk hF
            have hne : k ≠ w.heap.size := by intro e; subst e; exact absurd (show w5.heap.size ≤ _ from hF) (by omega)
            show ((w10.setCell ⟨w.heap.size, 0, none⟩ (.int .u8 (x0.toNat : Int))).setCell ⟨w.heap.size, 1, none⟩ (.slice ga gn gc)).heap[k]? = w10.heap[k]?
            rw [heap_setCell_other _ _ _ _ hne, heap_setCell_other _ _ _ _ hne]
        · rw [decide_eq_false hT]
          rw [if_pos hT] at HR
          go_wp2_with fail
          refine bodyPost_ret (results_cell_tmp2 (p := 2) (t := 3) (u := 4) rfl _ _ w.heap.size 39 #[.int .u8 0, .slice none 0 0] _ rfl ((HC9.out.set 0 _).set 1 _) Try.underlying39 rfl (by kernel_rfl)) rfl (readPost_none _ 4 _ _ ((HW9.out.setCell (by exact Nat.le_refl _) _).setCell (by exact Nat.le_refl _) _) HR.out)
  · go_region_held3 (fun w' => w'.cell? ⟨b, off, none⟩ = some (.int .u8 (x0.toNat : Int))) (first | assumption | go_keep)
      (first
      | (go_at_call 37; refine Calls.mono (rhead_any x0 n _ HL.out) ?_; rintro e w3 ⟨vh, rfl, ho, hb⟩; have HO3 := Lib.hid ho; have HB3 : Hid (Below w2.heap.size w2 w3) := below_of_drew hb; have hS3 : w3.cell? ⟨b, off, none⟩ = some (.int .u8 (x0.toNat : Int)) := (HB3.out.cell (Nat.lt_of_lt_of_le hbl HWq.out.size)).trans hq; clear ho hb)
      | (go_at_call 41; refine Calls.mono (rsame_any _ _ _ _ _ _ _ HO3.out.bytes (HB8.out.below HB3.out) (by rw [List.length_append, head_len, Fr.sum4_len, List.length_take]; omega)) ?_; rintro e w4 ⟨rfl, nd, rfl⟩; rw [decide_eq_false hA]; have hS4 : (w3.drewN nd).cell? ⟨b, off, none⟩ = some (.int .u8 (x0.toNat : Int)) := hS3))
    have hx3 := HCq.out.below HB3.out HCq.out.lt
    have HCw : Hid (Blk (w3.drewN nd) w.heap.size #[.int .u8 0, .slice none 0 0] 39) := hx3
    clear hx3
    have HWw : Hid (Below w.heap.size w (w3.drewN nd)) := by
      have := HWq.out.trans (HB3.out.mono HWq.out.size)
      exact ⟨this.os, this.tape, this.output, this.size, this.block⟩
    clear HO3 HB3 hS3 HCq HVq HWq kq hq
    generalize w3.drewN nd = w4 at *
    rw [if_pos hA] at HR
    have c0 : w4.cell? ⟨w.heap.size, 0, none⟩ = some (.int .u8 0) := HCw.out.cell rfl
    have c1 : w4.cell? ⟨w.heap.size, 1, none⟩ = some (.slice none 0 0) := HCw.out.cell rfl
    have f0 := HCw.out.free 0
    have f1 := HCw.out.free 1
    go_wp2_with fail
    refine bodyPost_ret (results_cell_tmp2 (p := 2) (t := 3) (u := 4) rfl _ _ w.heap.size 39 #[.int .u8 0, .slice none 0 0] _ rfl ((HCw.out.set 0 _).set 1 _) Try.underlying39 rfl (by kernel_rfl)) rfl (readPost_none _ 4 _ _ ((HWw.out.setCell (by exact Nat.le_refl _) _).setCell (by exact Nat.le_refl _) _) HR.out)

theorem rread_any (F : Nat → Prop) (v : Value) (bs : List UInt8) (w : World) (hv : Bytes F w v bs) (hlen : bs.length ≤ 100000000) :
    Calls Try.prog 23 #[v] w (ReadPost (Fr.read bs) w) := by
  by_cases h : bs.length < 8
  · have hr : Fr.read bs = (Fr.zero, 0, 12) := by unfold Fr.read; rw [if_pos h]
    rw [hr]
    exact rread_short F v bs w hv h
  · exact rread_long F v bs w hv (by omega) hlen
end Go.Proofs.Ytkpbkhbgiijbiaa
