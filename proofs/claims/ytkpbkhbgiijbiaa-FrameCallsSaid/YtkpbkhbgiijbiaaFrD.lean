/- The contract of frame.Read. -/
import Derived.Test.YtkpbkhbgiijbiaaFrC
namespace Go.Proofs.Ytkpbkhbgiijbiaa
open Go.RowKit

theorem ofInt64_nat (a : Nat) (ha : a < 9223372036854775808) : (BitVec.ofInt 64 (a : Int)).toNat = a := by
  rw [BitVec.toNat_ofInt]; omega

theorem i64_or_nat (a b : Nat) (ha : a < 9223372036854775808) (hb : b < 9223372036854775808) : bits .or .i64 (a : Int) (b : Int) = ((a ||| b : Nat) : Int) := by
  show IntKind.i64.wrap ((BitVec.ofInt 64 (a : Int) ||| BitVec.ofInt 64 (b : Int)).toNat : Nat) = _
  rw [BitVec.toNat_or, ofInt64_nat a ha, ofInt64_nat b hb, IntKind.wrap_i64]
  have : a ||| b < 2 ^ 63 := Nat.or_lt_two_pow ha hb
  omega

theorem or_len (x1 x2 x3 : UInt8) : bits .or .i64 (bits .or .i64 (x1.toNat : Int) ((x2.toNat : Int) * (256 : Int))) ((x3.toNat : Int) * (65536 : Int)) = ((x1.toNat + 256 * x2.toNat + 65536 * x3.toNat : Nat) : Int) := by
  have h1 := x1.toNat_lt
  have h2 := x2.toNat_lt
  have h3 := x3.toNat_lt
  have e2 : (x2.toNat : Int) * (256 : Int) = ((256 * x2.toNat : Nat) : Int) := by omega
  have e3 : (x3.toNat : Int) * (65536 : Int) = ((65536 * x3.toNat : Nat) : Int) := by omega
  have j1 : x1.toNat ||| 256 * x2.toNat = x1.toNat + 256 * x2.toNat := by
    rw [Nat.or_comm, nat_join 8 _ _ (by omega) (by omega)]; omega
  have j2 : (x1.toNat + 256 * x2.toNat) ||| 65536 * x3.toNat = x1.toNat + 256 * x2.toNat + 65536 * x3.toNat := by
    rw [Nat.or_comm, nat_join 16 _ _ (by omega) (by omega)]; omega
  rw [e2, e3, i64_or_nat _ _ (by omega) (by omega), j1, i64_or_nat _ _ (by omega) (by omega), j2]

/-- What Read tells, as a value. -/
def ReadPost (r : Fr.T × Nat × Nat) (w : World) (e : Ending) (w' : World) : Prop :=
  ∃ vb, e = .returned (.tuple #[.agg #[.int .u8 (r.1.kind.toNat : Int), vb], .int .i64 (r.2.1 : Int), .int .i64 (r.2.2 : Int)]) ∧ Bytes (fun k => w.heap.size ≤ k) w' vb r.1.body ∧ Below w.heap.size w w'

theorem readPost_none (r : Fr.T × Nat × Nat) (e : Nat) (w w' : World) (h : Below w.heap.size w w') (hr : r = (Fr.zero, 0, e)) : ReadPost r w (.returned (.tuple #[.agg #[.int .u8 0, .slice none 0 0], .int .i64 0, .int .i64 (e : Int)])) w' := by
  subst hr
  exact ⟨.slice none 0 0, rfl, Bytes.nil _ _, h⟩

theorem len8 {bs : List UInt8} (h : 8 ≤ bs.length) : ∃ x0 x1 x2 x3 x4 x5 x6 x7 r, bs = x0 :: x1 :: x2 :: x3 :: x4 :: x5 :: x6 :: x7 :: r := by
  match bs, h with
  | x0 :: x1 :: x2 :: x3 :: x4 :: x5 :: x6 :: x7 :: r, _ => exact ⟨x0, x1, x2, x3, x4, x5, x6, x7, r, rfl⟩

theorem read_short (F : Nat → Prop) (v : Value) (bs : List UInt8) (w : World) (hv : Bytes F w v bs) (h : bs.length < 8) :
    Calls Try.prog 20 #[v] w (ReadPost (Fr.zero, 0, 12) w) := by
  obtain ⟨a, cap, rfl, _⟩ := Sl.ex hv
  clear hv
  go_enter Try.func20, Try.ntmps20
  go_wp2_with fail
  refine bodyPost_ret (v := .tuple #[.agg #[.int .u8 0, .slice none 0 0], .int .i64 0, .int .i64 12]) (by simp [results, Try.results20, go_sem]) rfl ?_
  exact ⟨.slice none 0 0, rfl, Bytes.nil _ _, (Below.refl _ _).alloc (Nat.le_refl _) _⟩

set_option maxRecDepth 100000 in
set_option maxHeartbeats 1000000 in
theorem read_long (F : Nat → Prop) (v : Value) (bs : List UInt8) (w : World) (hv : Bytes F w v bs) (h : 8 ≤ bs.length) :
    Calls Try.prog 20 #[v] w (ReadPost (Fr.read bs) w) := by
  obtain ⟨b, off, cap, rfl, hFb, hlt, e2, e3, e6⟩ := Sl.place hv (by rw [u8s_len]; omega)
  have hsa := fun (w' : World) => run_arrayAt (P := Try.prog) w' 61 5 8 (some ⟨b, off, none⟩) 8 cap Try.underlying61 (Nat.le_refl _)
  have HV := Lib.hid hv
  have HL := Lib.hid hlt
  obtain ⟨x0, x1, x2, x3, x4, x5, x6, x7, r, hbs⟩ := len8 h
  have c0 : w.cell? ⟨b, off, none⟩ = some (.int .u8 (x0.toNat : Int)) := e6 0 _ (by rw [hbs]; rfl)
  have c1 : w.cell? ⟨b, off + 1, none⟩ = some (.int .u8 (x1.toNat : Int)) := e6 1 _ (by rw [hbs]; rfl)
  have c2 : w.cell? ⟨b, off + 2, none⟩ = some (.int .u8 (x2.toNat : Int)) := e6 2 _ (by rw [hbs]; rfl)
  have c3 : w.cell? ⟨b, off + 3, none⟩ = some (.int .u8 (x3.toNat : Int)) := e6 3 _ (by rw [hbs]; rfl)
  have c4 : w.cell? ⟨b, off + 4, none⟩ = some (.int .u8 (x4.toNat : Int)) := e6 4 _ (by rw [hbs]; rfl)
  have c5 : w.cell? ⟨b, off + 5, none⟩ = some (.int .u8 (x5.toNat : Int)) := e6 5 _ (by rw [hbs]; rfl)
  have c6 : w.cell? ⟨b, off + 6, none⟩ = some (.int .u8 (x6.toNat : Int)) := e6 6 _ (by rw [hbs]; rfl)
  have c7 : w.cell? ⟨b, off + 7, none⟩ = some (.int .u8 (x7.toNat : Int)) := e6 7 _ (by rw [hbs]; rfl)
  have HBS := Lib.hid hbs
  clear e6 hbs hv
  have hd : decide ((bs.length : Int) < 8) = false := by simp; omega
  have hx1 : (x1.toNat : Int) < 256 := by have := x1.toNat_lt; omega
  have hx2 : (x2.toNat : Int) < 256 := by have := x2.toNat_lt; omega
  have hx3 : (x3.toNat : Int) < 256 := by have := x3.toNat_lt; omega
  go_enter Try.func20, Try.ntmps20
  go_wp2_with fail
  have hn : x1.toNat + 256 * x2.toNat + 65536 * x3.toNat = Fr.lenOf bs := by rw [HBS.out]; rfl
  rw [or_len, hn]
  have ht4 : bs.take 4 = [x0, x1, x2, x3] := by rw [HBS.out]; rfl
  have hd4 : (bs.drop 4).take 4 = [x4, x5, x6, x7] := by rw [HBS.out]; rfl
  have hn0 : bs.getD 0 0 = x0 := by rw [HBS.out]; rfl
  have HT4 := Lib.hid ht4
  have HD4 := Lib.hid hd4
  have HN0 := Lib.hid hn0
  refine wp_gen fun w1 hw1 => ?_
  have HB0 : Hid (Blk w1 w.heap.size #[.int .u8 0, .slice none 0 0] 39) := by
    rw [hw1]; exact (Blk.at_new rfl rfl).alloc _
  have HB1 : Hid (Blk w1 (w.heap.size + 1) (u8s [x0, x1, x2, x3, x4, x5, x6, x7]).toArray 61) := by
    rw [hw1]; exact Blk.at_new (by simp) rfl
  have HW1 : Hid (Below w.heap.size w w1) := by
    rw [hw1]; exact ((Below.refl _ _).alloc (Nat.le_refl _) _).alloc (by simp) _
  have HS1 : Hid (Bytes (fun k => k = w.heap.size + 1) w1 (.slice (some ⟨w.heap.size + 1, 0, none⟩) 8 8) [x0, x1, x2, x3, x4, x5, x6, x7]) := Bytes.lit _ 8 rfl HB1.out rfl (by simp [maxLen])
  have HVw : Hid (Bytes (fun k => F k ∧ k < w.heap.size) w1 (.slice (some ⟨b, off, none⟩) bs.length cap) bs) := (HV.out.mono (fun k hk hf => ⟨hf, hk⟩)).below HW1.out
  clear hw1 hd hx1 hx2 hx3 c0 c1 c2 c3 c4 c5 c6 c7 hsa hn ht4 hd4 hn0 HL hFb hlt e3 HBS HV
  generalize hN : Fr.lenOf bs = N at *
  have HN := Lib.hid hN
  clear hN
  have HA : Hid (Bytes (fun k => k = w.heap.size + 1) w1 (.slice (some ⟨w.heap.size + 1, 0, none⟩) 4 8) [x0, x1, x2, x3]) := Bytes.part [x0, x1, x2, x3, x4, x5, x6, x7] 0 4 8 _ HB1.out rfl rfl (by simp) (by omega) (by simp [maxLen])
  have HB : Hid (Bytes (fun k => k = w.heap.size + 1) w1 (.slice (some ⟨w.heap.size + 1, 4, none⟩) 4 4) [x4, x5, x6, x7]) := Bytes.part [x0, x1, x2, x3, x4, x5, x6, x7] 4 4 4 _ HB1.out rfl rfl (by simp) (by omega) (by simp [maxLen])
  have c0 : w1.cell? ⟨w.heap.size + 1, 0, none⟩ = some (.int .u8 (x0.toNat : Int)) := HB1.out.cell rfl
  go_region_with (go_at_call 35; refine Calls.mono (is_any _ _ _ [x0, x1, x2, x3] _ [x4, x5, x6, x7] _ (HA.out.keep (fun _ _ _ => rfl)) (HB.out.keep (fun _ _ _ => rfl)) rfl) ?_; rintro e w2 ⟨rfl, hb⟩; have HB2 := Lib.hid (below_of_drew hb); clear hb)
  clear c0
  have HW2 : Hid (Below w.heap.size w w2) := HW1.out.trans (HB2.out.mono HW1.out.size)
  have HC2 : Hid (Blk w2 w.heap.size #[.int .u8 0, .slice none 0 0] 39) := HB0.out.below HB2.out HB0.out.lt
  have HH2 : Hid (Blk w2 (w.heap.size + 1) (u8s [x0, x1, x2, x3, x4, x5, x6, x7]).toArray 61) := HB1.out.below HB2.out HB1.out.lt
  have HV2 : Hid (Bytes (fun k => F k ∧ k < w.heap.size) w2 (.slice (some ⟨b, off, none⟩) bs.length cap) bs) := HVw.out.below HB2.out
  have k0 : w2.cell? ⟨w.heap.size, 0, none⟩ = some (.int .u8 0) := HC2.out.cell rfl
  have k1 : w2.cell? ⟨w.heap.size, 1, none⟩ = some (.slice none 0 0) := HC2.out.cell rfl
  have f0 := HC2.out.free 0
  have f1 := HC2.out.free 1
  clear HA HB HB0 HB1 HS1 HVw HB2 HW1
  by_cases h1 : [x4, x5, x6, x7] = Fr.sum4 [x0, x1, x2, x3]
  · have d1 : decide ([x4, x5, x6, x7] = Fr.sum4 [x0, x1, x2, x3]) = true := by simp [h1]
    rw [d1]
    have H1 := Lib.hid h1
    clear h1 d1
    by_cases h2 : 1048576 < N
    · have HR : Hid (Fr.read bs = (Fr.zero, 0, 3)) := by
        unfold Fr.read
        rw [if_neg (by omega), if_neg (by rw [HT4.out, HD4.out]; exact fun h => h H1.out), if_pos (by rw [HN.out]; exact h2)]
        exact rfl
      have h2' : (1048576 : Int) < (N : Int) := by omega
      clear HT4 HD4 HN0 HN H1
      go_wp2_with fail
      refine bodyPost_ret (results_cell_tmp2 (p := 2) (t := 3) (u := 4) rfl _ _ w.heap.size 39 #[.int .u8 0, .slice none 0 0] _ rfl ((HC2.out.set 0 _).set 1 _) Try.underlying39 rfl (by kernel_rfl)) rfl (readPost_none _ 3 _ _ ((HW2.out.setCell (by exact Nat.le_refl _) _).setCell (by exact Nat.le_refl _) _) HR.out)
    · have d2 : decide ((1048576 : Int) < (N : Int)) = false := by simp; omega
      have hN2 : N ≤ 1048576 := by omega
      clear h2
      go_wp2_with fail
      refine Calls.mono (fsize_any N _ (by omega) (by omega)) ?_
      rintro e w3 ⟨rfl, rfl⟩
      rw [show max 0 (N : Int) + 12 = ((N + 12 : Nat) : Int) by omega]
      by_cases h3 : bs.length < N + 12
      · have HR : Hid (Fr.read bs = (Fr.zero, 0, 12)) := by
          unfold Fr.read
          rw [if_neg (by omega), if_neg (by rw [HT4.out, HD4.out]; exact fun h => h H1.out), if_neg (by rw [HN.out]; omega), if_pos (by rw [HN.out]; exact h3)]
          exact rfl
        clear HT4 HD4 HN0 HN H1 d2
        go_wp2_with fail
        refine bodyPost_ret (results_cell_tmp2 (p := 2) (t := 3) (u := 4) rfl _ _ w.heap.size 39 #[.int .u8 0, .slice none 0 0] _ rfl ((HC2.out.set 0 _).set 1 _) Try.underlying39 rfl (by kernel_rfl)) rfl (readPost_none _ 12 _ _ ((HW2.out.setCell (by exact Nat.le_refl _) _).setCell (by exact Nat.le_refl _) _) HR.out)
      · have d3 : decide ((bs.length : Int) < ((N + 12 : Nat) : Int)) = false := by simp; omega
        have h3' : N + 12 ≤ bs.length := by omega
        clear h3
        have HBd := Lib.hid (HV2.out.sub 8 N (by omega) (by omega))
        have HSm := Lib.hid (HV2.out.sub (8 + N) 4 (by omega) (by omega))
        go_wp2_with fail
        refine Calls.mono (fsize_any N _ (by omega) (by omega)) ?_
        rintro e w3 ⟨rfl, rfl⟩
        rw [show max 0 (N : Int) + 12 = ((N + 12 : Nat) : Int) by omega]
        go_wp2_with fail
        rw [show N + 12 - (8 + N) = 4 by omega]
        refine Calls.mono (is_any _ _ _ _ _ _ _ HBd.out HSm.out (by simp; omega)) ?_
        rintro e w3 ⟨rfl, hb3⟩
        have HW3 : Hid (Below w.heap.size w w3) := HW2.out.trans (hb3.mono HW2.out.size)
        have HC3 : Hid (Blk w3 w.heap.size #[.int .u8 0, .slice none 0 0] 39) := HC2.out.below hb3 HC2.out.lt
        have HH3 : Hid (Blk w3 (w.heap.size + 1) (u8s [x0, x1, x2, x3, x4, x5, x6, x7]).toArray 61) := HH2.out.below hb3 HH2.out.lt
        have HBd3 : Hid (Bytes (fun k => F k ∧ k < w.heap.size) w3 (.slice (some ⟨b, off + 8, none⟩) N (cap - 8)) ((bs.drop 8).take N)) := HBd.out.below hb3
        clear hb3 HBd HSm HW2 HC2 HH2 HV2 k0 k1 f0 f1 d2 d3
        by_cases h4 : (bs.drop (8 + N)).take 4 = Fr.sum4 ((bs.drop 8).take N)
        · have HR : Hid (Fr.read bs = (⟨x0, (bs.drop 8).take N⟩, N + 12, 0)) := by
            unfold Fr.read
            rw [if_neg (by omega), if_neg (by rw [HT4.out, HD4.out]; exact fun h => h H1.out), if_neg (by rw [HN.out]; omega), if_neg (by rw [HN.out]; omega), if_neg (by rw [HN.out]; exact fun h => h h4), HN.out, HN0.out]
            exact rfl
          have d4 : decide ((bs.drop (8 + N)).take 4 = Fr.sum4 ((bs.drop 8).take N)) = true := by simp [h4]
          rw [d4]
          clear HT4 HD4 HN0 HN H1 h4 d4
          have hbl : ((bs.drop 8).take N).length ≤ 1048576 := by simp; omega
          generalize (bs.drop 8).take N = body at *
          have c0 : w3.cell? ⟨w.heap.size + 1, 0, none⟩ = some (.int .u8 (x0.toNat : Int)) := HH3.out.cell rfl
          go_wp2_with fail
          go_region_with (first
            | (go_at_call 36; refine Calls.mono (clone_any (fun k => F k ∧ k < w.heap.size) _ body _ (HBd3.out.keep (fun _ _ _ => rfl)) ?_) ?_; omega; rintro e w4 ⟨vb, rfl, ho, hb⟩; obtain ⟨ga, gn, gc, rfl⟩ := Owned.isSlice ho; have HO4 := Lib.hid ho; have HB4 := Lib.hid (below_of_drew hb); have HC4 : Hid (Blk w4 w.heap.size #[.int .u8 0, .slice none 0 0] 39) := HC3.out.below HB4.out HC3.out.lt; have c04 : w4.cell? ⟨w.heap.size + 1, 0, none⟩ = some (.int .u8 (x0.toNat : Int)) := (HH3.out.below HB4.out HH3.out.lt).cell rfl; have k0 : w4.cell? ⟨w.heap.size, 0, none⟩ = some (.int .u8 0) := HC4.out.cell rfl; have k1 : w4.cell? ⟨w.heap.size, 1, none⟩ = some (.slice none 0 0) := HC4.out.cell rfl; have f0 := HC4.out.free 0; have f1 := HC4.out.free 1; clear ho hb)
            | (go_at_call 27; refine Calls.mono (fsize_any N _ (by omega) (by omega)) ?_; rintro e w5 ⟨rfl, rfl⟩; rw [show max 0 (N : Int) + 12 = ((N + 12 : Nat) : Int) by omega]))
          all_goals
            go_wp2_with fail
            refine bodyPost_ret (results_cell_tmp2 (p := 2) (t := 3) (u := 4) rfl _ _ w.heap.size 39 #[.int .u8 (x0.toNat : Int), .slice ga gn gc] _ rfl ((HC4.out.set 0 _).set 1 _) Try.underlying39 rfl (by kernel_rfl)) rfl ?_
            rw [HR.out]
            have hle := HW3.out.size
            refine ⟨.slice ga gn gc, rfl, ?_, ((HW3.out.trans (HB4.out.mono HW3.out.size)).setCell (by exact Nat.le_refl _) _).setCell (by exact Nat.le_refl _) _⟩
            refine ((HO4.out.bytesFrom).keep (w' := _) ?_).mono (fun k _ hk => Nat.le_trans hle hk)
            intro k hk hF
            have hlt := HC3.out.lt
            have hne : k ≠ w.heap.size := by intro e; subst e; exact absurd (show w3.heap.size ≤ _ from hF) (by omega)
            rw [heap_setCell_other _ _ _ _ hne, heap_setCell_other _ _ _ _ hne]
        · have HR : Hid (Fr.read bs = (Fr.zero, 0, 4)) := by
            unfold Fr.read
            rw [if_neg (by omega), if_neg (by rw [HT4.out, HD4.out]; exact fun h => h H1.out), if_neg (by rw [HN.out]; omega), if_neg (by rw [HN.out]; omega), if_pos (by rw [HN.out]; exact h4)]
            exact rfl
          have d4 : decide ((bs.drop (8 + N)).take 4 = Fr.sum4 ((bs.drop 8).take N)) = false := by simp [h4]
          rw [d4]
          have k0 : w3.cell? ⟨w.heap.size, 0, none⟩ = some (.int .u8 0) := HC3.out.cell rfl
          have k1 : w3.cell? ⟨w.heap.size, 1, none⟩ = some (.slice none 0 0) := HC3.out.cell rfl
          have f0 := HC3.out.free 0
          have f1 := HC3.out.free 1
          clear HT4 HD4 HN0 HN H1 h4 d4
          go_wp2_with fail
          refine bodyPost_ret (results_cell_tmp2 (p := 2) (t := 3) (u := 4) rfl _ _ w.heap.size 39 #[.int .u8 0, .slice none 0 0] _ rfl ((HC3.out.set 0 _).set 1 _) Try.underlying39 rfl (by kernel_rfl)) rfl (readPost_none _ 4 _ _ ((HW3.out.setCell (by exact Nat.le_refl _) _).setCell (by exact Nat.le_refl _) _) HR.out)
  · have d1 : decide ([x4, x5, x6, x7] = Fr.sum4 [x0, x1, x2, x3]) = false := by simp [h1]
    rw [d1]
    have HR : Hid (Fr.read bs = (Fr.zero, 0, 4)) := by
      unfold Fr.read
      rw [if_neg (by omega), if_pos (by rw [HT4.out, HD4.out]; exact h1)]
      exact rfl
    clear h1 d1 HT4 HD4 HN0 HN
    go_wp2_with fail
    refine bodyPost_ret (results_cell_tmp2 (p := 2) (t := 3) (u := 4) rfl _ _ w.heap.size 39 #[.int .u8 0, .slice none 0 0] _ rfl ((HC2.out.set 0 _).set 1 _) Try.underlying39 rfl (by kernel_rfl)) rfl (readPost_none _ 4 _ _ ((HW2.out.setCell (by exact Nat.le_refl _) _).setCell (by exact Nat.le_refl _) _) HR.out)

theorem read_any (F : Nat → Prop) (v : Value) (bs : List UInt8) (w : World) (hv : Bytes F w v bs) :
    Calls Try.prog 20 #[v] w (ReadPost (Fr.read bs) w) := by
  by_cases h : bs.length < 8
  · have hr : Fr.read bs = (Fr.zero, 0, 12) := by unfold Fr.read; rw [if_pos h]
    rw [hr]
    exact read_short F v bs w hv h
  · exact read_long F v bs w hv (by omega)
end Go.Proofs.Ytkpbkhbgiijbiaa
