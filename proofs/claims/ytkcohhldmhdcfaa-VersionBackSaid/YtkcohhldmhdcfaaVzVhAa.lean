/- Short numbers as bytes: wire.Number, wire.Piece. wire.Piece, version.numbers. version.Append's questions: is a drop, an add odd? -/
import Derived.Test.YtkcohhldmhdcfaaVzVgG
namespace Go.Proofs.Ytkcohhldmhdcfaa
open Go.RowKit

/-- A short number's bytes. -/
def encN (x : Nat) : List UInt8 := if h : x < 128 then [UInt8.ofNat x] else UInt8.ofNat (x % 128 + 128) :: encN (x / 128)
termination_by x
decreasing_by omega
theorem encN_small {x : Nat} (h : x < 128) : encN x = [UInt8.ofNat x] := by rw [encN, dif_pos h]
theorem encN_more {x : Nat} (h : ¬ x < 128) : encN x = UInt8.ofNat (x % 128 + 128) :: encN (x / 128) := by rw [encN, dif_neg h]
theorem encN_le : ∀ (k x : Nat), x < 128 ^ (k + 1) → (encN x).length ≤ k + 1
  | 0, x, h => by rw [encN_small (by simpa using h)]; simp
  | k + 1, x, h => by
    by_cases hx : x < 128
    · rw [encN_small hx]; simp
    · rw [encN_more hx]
      have h1 : x / 128 < 128 ^ (k + 1) := by
        rw [Nat.div_lt_iff_lt_mul (by decide)]
        rw [Nat.pow_succ] at h
        exact h
      have := encN_le k (x / 128) h1
      simp only [List.length_cons]
      omega
theorem encN_ten {x : Nat} (h : x < 18446744073709551616) : (encN x).length ≤ 10 := encN_le 9 x (Nat.lt_of_lt_of_le h (by decide))
theorem byte_or {z : Nat} (h : z < 256) : bits BinOp.or IntKind.u8 (z : Int) 128 = ((z % 128 + 128 : Nat) : Int) := by
  have : ∀ z : Fin 256, bits BinOp.or IntKind.u8 ((z.val : Nat) : Int) 128 = ((z.val % 128 + 128 : Nat) : Int) := by decide +kernel
  exact this ⟨z, h⟩
theorem byte_more (y : Nat) : bits BinOp.or IntKind.u8 ((y : Int) % 256) 128 = ((UInt8.ofNat (y % 128 + 128)).toNat : Int) := by
  have h1 : (y : Int) % 256 = ((y % 256 : Nat) : Int) := by omega
  rw [h1, byte_or (by omega)]
  have h2 : (UInt8.ofNat (y % 128 + 128)).toNat = y % 128 + 128 := by simp [UInt8.toNat_ofNat]; omega
  rw [h2]
  omega
theorem byte_id {y : Nat} (h : y < 128) : (y : Int) = ((UInt8.ofNat y).toNat : Int) := by
  have h2 : (UInt8.ofNat y).toNat = y := by simp; omega
  rw [h2]
set_option maxRecDepth 100000 in
set_option maxHeartbeats 1000000 in
theorem wnumber_any (base : Nat) (vb : Value) (bs : List UInt8) (x : Nat) (w : World) (h : Owned base w vb bs) (hx : x < 18446744073709551616) (hl : bs.length ≤ 100000000) (hb : base ≤ w.heap.size) :
    Calls Try.prog 121 #[vb, .int .u64 (x : Int)] w fun e w' => ∃ r, e = .returned r ∧ Owned base w' r (bs ++ encN x) ∧ Grew w w' vb r := by
  have HO := Lib.hid h
  clear h
  go_enter Try.func121, Try.ntmps121
  go_wp2_with fail
  go_loopw [0, 1] (fun bv xv wr => ∃ (cs : List UInt8) (y : Nat) (u : Value), u = bv ∧ xv = .int .u64 (y : Int) ∧ y ≤ x ∧ Hid (cs ++ encN y = bs ++ encN x) ∧ Hid (Owned base wr bv cs) ∧ Hid (Grew w wr vb bv)) (fun _ xv _ => (intOf xv).toNat)
  case atStart => exact ⟨bs, x, _, rfl, rfl, Nat.le_refl _, rfl, HO.out, Grew.refl _ _⟩
  case round =>
    obtain ⟨cs, y, u, rfl, rfl, hyx, HEQ, HC, HB⟩ := hrel
    have hcl : cs.length ≤ bs.length + 10 := by
      have h1 := congrArg List.length HEQ.out
      rw [List.length_append, List.length_append] at h1
      have := encN_ten hx
      omega
    clear HO
    obtain ⟨ua, un, uc, rfl⟩ := HC.out.isSlice
    by_cases hy : 128 ≤ y
    · have t1 : (128 : Int) ≤ (y : Int) := by omega
      have hen := encN_more (x := y) (by omega)
      have hbv := byte_more y
      obtain ⟨b, hb1⟩ : ∃ b, UInt8.ofNat (y % 128 + 128) = b := ⟨_, rfl⟩
      rw [hb1] at hbv hen
      have HEN := Lib.hid hen
      clear hen hb1
      go_wp2_with (with_reducible refine pause_append ?_)
      try rw [hbv]
      clear hbv
      refine list_gen fun w2 hw2 => ?_
      have hB2 : Below wr.heap.size wr w2 := by rw [hw2]; exact (Below.refl _ _).alloc (Nat.le_refl _) _
      have HS2 : Hid (Bytes (fun _ => True) w2 (.slice (some ⟨wr.heap.size, 0, none⟩) 1 1) [b]) := (Bytes.lit [b] 1 rfl (by rw [hw2]; exact (Blk.at_new rfl rfl : Blk _ _ _ _)) rfl (by decide)).mono fun _ _ _ => trivial
      have HC2 := Lib.hid (HC.out.below hB2)
      have HB2 : Hid (Grew w w2 vb (.slice ua un uc)) := HB.out.post hB2
      clear hw2 hB2
      refine Pause.go (wpList_append_bytes _ base _ cs _ [b] rfl _ _ rfl rfl rfl HC2.out HS2.out (by simp only [List.length_singleton]; omega) (Nat.le_trans hb HB2.out.grown.size) ?_)
      intro v3 w3 ho hg
      have HC3 := Lib.hid ho
      have HB3 := Lib.hid (HB2.out.trans hg)
      obtain ⟨va, vn, vc, rfl⟩ := ho.isSlice
      clear ho hg HS2 HC2 HB2
      go_wp2_with fail
      go_roundw
      · refine ⟨cs ++ [b], y / 128, _, rfl, by first | rfl | (congr 1; omega), by omega, ?_, HC3.out, HB3.out⟩
        show _ = _
        rw [List.append_assoc, ← HEQ.out, HEN.out]
        rfl
      · simp only [intOf]; omega
    · have t1 : ¬ (128 : Int) ≤ (y : Int) := by omega
      have hen := encN_small (x := y) (by omega)
      have hbv := byte_id (y := y) (by omega)
      obtain ⟨b, hb1⟩ : ∃ b, UInt8.ofNat y = b := ⟨_, rfl⟩
      rw [hb1] at hbv hen
      have HEN := Lib.hid hen
      have HBV := Lib.hid hbv
      clear hen hb1 hbv
      go_wp2_with (with_reducible refine pause_append ?_)
      refine list_gen fun w2 hw2 => ?_
      have hB2 : Below wr.heap.size wr w2 := by rw [hw2]; exact (Below.refl _ _).alloc (Nat.le_refl _) _
      have HS2 : Hid (Bytes (fun _ => True) w2 (.slice (some ⟨wr.heap.size, 0, none⟩) 1 1) [b]) := (Bytes.lit (c := #[.int .u8 (y : Int)]) [b] 1 rfl (by rw [hw2]; exact (Blk.at_new rfl rfl : Blk _ _ _ _)) (by rw [HBV.out]; rfl) (by decide)).mono fun _ _ _ => trivial
      have HC2 := Lib.hid (HC.out.below hB2)
      have HB2 : Hid (Grew w w2 vb (.slice ua un uc)) := HB.out.post hB2
      clear hw2 hB2
      refine Pause.go (wpList_append_bytes _ base _ cs _ [b] rfl _ _ rfl rfl rfl HC2.out HS2.out (by simp only [List.length_singleton]; omega) (Nat.le_trans hb HB2.out.grown.size) ?_)
      intro v3 w3 ho hg
      have HC3 : Hid (Owned base w3 v3 (bs ++ encN x)) := by show Owned _ _ _ _; rw [← HEQ.out, HEN.out]; exact ho
      have HB3 := Lib.hid (HB2.out.trans hg)
      obtain ⟨va, vn, vc, rfl⟩ := ho.isSlice
      clear ho hg HS2 HC2 HB2
      go_wp2_with fail
      go_ret
      exact ⟨_, rfl, HC3.out, HB3.out⟩
end Go.Proofs.Ytkcohhldmhdcfaa

namespace Go.Proofs.Ytkcohhldmhdcfaa
open Go.RowKit

def encNs (ns : List Nat) : List UInt8 := (ns.map encN).flatten
theorem encNs_cons (n : Nat) (ns : List Nat) : encNs (n :: ns) = encN n ++ encNs ns := by unfold encNs; simp
theorem encNs_more {ns : List Nat} {k : Nat} (hk : k < ns.length) : encNs (ns.take k) ++ encN ns[k] = encNs (ns.take (k + 1)) := by
  unfold encNs
  rw [List.take_succ_eq_append_getElem hk, List.map_append, List.flatten_append]
  simp
theorem encNs_len {ns : List Nat} (h : ∀ n ∈ ns, n < 18446744073709551616) : (encNs ns).length ≤ 10 * ns.length := by
  induction ns with
  | nil => simp [encNs]
  | cons a l ih =>
    rw [encNs_cons, List.length_append, List.length_cons]
    have h1 := encN_ten (h a (List.mem_cons_self ..))
    have h2 := ih fun n hn => h n (List.mem_cons_of_mem _ hn)
    omega
/-- A piece's bytes. -/
def encP (p : List UInt8) : List UInt8 := encN p.length ++ p
set_option maxRecDepth 100000 in
set_option maxHeartbeats 1000000 in
theorem wpiece_any (base : Nat) (F : Nat → Prop) (vb vp : Value) (bs p : List UInt8) (w : World) (h : Owned base w vb bs) (hp : Bytes F w vp p) (hF : ∀ k, F k → k < base) (hl : bs.length ≤ 90000000) (hpl : p.length ≤ 1048576) (hb : base ≤ w.heap.size) :
    Calls Try.prog 93 #[vb, vp] w fun e w' => ∃ r, e = .returned (.tuple #[r, .int .i64 0]) ∧ Owned base w' r (bs ++ encP p) ∧ Grew w w' vb r := by
  have HO := Lib.hid h
  obtain ⟨pa, pc, rfl⟩ := hp.isSlice
  have HP := Lib.hid hp
  obtain ⟨n, hn⟩ : ∃ n, p.length = n := ⟨_, rfl⟩
  have HN := Lib.hid hn
  have hw := wnumber_any base vb bs n w h (by omega) (by omega) hb
  have HW := Lib.hid hw
  have HNL : Hid ((encN n).length ≤ 10) := encN_ten (by omega)
  rw [hn] at HP ⊢
  have t1 : ¬ (1048576 : Int) < (n : Int) := by omega
  clear h hp hn hw
  go_enter Try.func93, Try.ntmps93
  go_wp2_with fail
  refine Calls.mono HW.out ?_
  rintro _ w1 ⟨r, rfl, ho, hb1⟩
  have HO1 := Lib.hid ho
  have HB1 := Lib.hid hb1
  obtain ⟨ra, rn, rc, rfl⟩ := ho.isSlice
  have HP1 : Hid (Bytes F w1 (.slice pa n pc) p) := HP.out.keep fun k hkl hk => hb1.grown.block k hkl fun e => by have := (World.ownsRow.lt HO.out k e.symm).1; have := hF k hk; omega
  clear ho hb1 HW HO HP
  go_wp2_with (with_reducible refine pause_append ?_)
  refine Pause.go (wpList_append_bytes F base _ (bs ++ encN n) _ p rfl _ _ rfl rfl rfl HO1.out HP1.out (by rw [List.length_append, HN.out]; have := HNL.out; omega) (Nat.le_trans hb HB1.out.grown.size) ?_)
  intro v3 w3 ho hg
  have HO3 : Hid (Owned base w3 v3 (bs ++ encP p)) := by show Owned _ _ _ _; unfold encP; rw [← List.append_assoc, HN.out]; exact ho
  have HB3 := Lib.hid (HB1.out.trans hg)
  obtain ⟨va, vn, vc, rfl⟩ := ho.isSlice
  clear ho hg HO1 HB1 HP1
  go_wp2_with fail
  go_ret2
  exact ⟨_, rfl, HO3.out, HB3.out⟩

/-- Numbers as the values of cells. -/
def nCells (ns : List Nat) : List Value := ns.map fun (n : Nat) => .int .u64 (n : Int)
set_option maxRecDepth 100000 in
set_option maxHeartbeats 1000000 in
theorem numbers_any (base : Nat) (vb : Value) (bs : List UInt8) (ns : List Nat) (b : Nat) (T : TypeId) (w : World) (h : Owned base w vb bs) (hblk : Blk w b (nCells ns).toArray T) (hne : vb.ownBlock ≠ some b) (hb : base ≤ w.heap.size) (hns : ∀ n ∈ ns, n < 18446744073709551616) (hl : bs.length ≤ 80000000) (hnl : ns.length ≤ 100) :
    Calls Try.prog 92 #[vb, .slice (some ⟨b, 0, none⟩) ns.length ns.length] w fun e w' => ∃ r, e = .returned r ∧ Owned base w' r (bs ++ encNs ns) ∧ Grew w w' vb r := by
  have HO := Lib.hid h
  have HBK := Lib.hid hblk
  have HNS := Lib.hid hns
  have HNE := Lib.hid hne
  obtain ⟨m, hm⟩ : ∃ m, ns.length = m := ⟨_, rfl⟩
  have HM := Lib.hid hm
  rw [hm] at hnl ⊢
  clear h hblk hns hne hm
  go_enter Try.func92, Try.ntmps92
  go_wp2_with fail
  go_loopw [0, 9] (fun bv kv wr => ∃ (k : Nat) (u : Value), u = bv ∧ kv = .int .i64 (k : Int) ∧ k ≤ m ∧ Hid (Owned base wr bv (bs ++ encNs (ns.take k))) ∧ Hid (Grew w wr vb bv)) (fun _ kv _ => m - (intOf kv).toNat)
  case atStart => exact ⟨0, _, rfl, rfl, by omega, by show Owned _ _ _ _; rw [show bs ++ encNs (ns.take 0) = bs from List.append_nil _]; exact HO.out, Grew.refl _ _⟩
  case round =>
    obtain ⟨k, u, rfl, rfl, hk, HC, HG⟩ := hrel
    obtain ⟨ua, un, uc, rfl⟩ := HC.out.isSlice
    by_cases hkm : k < m
    · have t1 : (k : Int) < (m : Int) := by omega
      have t2 : 0 ≤ (k : Int) := by omega
      have hkl : k < ns.length := by rw [HM.out]; exact hkm
      have HSZ : Hid (base ≤ wr.heap.size) := Nat.le_trans hb HG.out.grown.size
      have HLK : Hid ((bs ++ encNs (ns.take k)).length ≤ 100000000) := by
        show _ ≤ _
        have h1 := encNs_len (ns := ns.take k) fun n hn => HNS.out n (List.mem_of_mem_take hn)
        rw [List.length_append]
        rw [List.length_take] at h1
        omega
      have hc0 : wr.cell? ⟨b, k, none⟩ = some (.int .u64 ((ns[k] : Nat) : Int)) := by
        have h1 : Blk wr b (nCells ns).toArray T := HBK.out.same (HG.out.grown.block b HBK.out.lt fun e => HNE.out e.symm)
        exact h1.cell (by simp [nCells, hkl])
      have hlt := HNS.out _ (List.getElem_mem hkl)
      have HMO := Lib.hid (encNs_more hkl)
      obtain ⟨x, hx⟩ : ∃ x, ns[k] = x := ⟨_, rfl⟩
      rw [hx] at hc0 hlt HMO
      have HW := Lib.hid (wnumber_any base _ _ x wr HC.out hlt HLK.out HSZ.out)
      clear hx hkl
      go_wp2_with fail
      clear hc0
      refine Calls.mono HW.out ?_
      rintro _ w1 ⟨r, rfl, ho, hg⟩
      have HC1 : Hid (Owned base w1 r (bs ++ encNs (ns.take (k + 1)))) := by show Owned _ _ _ _; rw [← HMO.out, ← List.append_assoc]; exact ho
      have HG1 := Lib.hid (HG.out.trans hg)
      obtain ⟨ra, rn, rc, rfl⟩ := ho.isSlice
      clear ho hg HW HC HG
      go_wp2_with fail
      go_roundw
      · exact ⟨k + 1, _, rfl, by go_num, by omega, HC1.out, HG1.out⟩
      · simp only [intOf]; omega
    · have t1 : ¬ (k : Int) < (m : Int) := by omega
      obtain rfl : k = m := by omega
      have HCE : Hid (Owned base wr (.slice ua un uc) (bs ++ encNs ns)) := by
        have h1 := HC.out
        rw [List.take_of_length_le (by rw [HM.out]; exact Nat.le_refl _)] at h1
        exact h1
      clear HC
      go_wp2_with fail
      go_ret
      exact ⟨_, rfl, HCE.out, HG.out⟩
end Go.Proofs.Ytkcohhldmhdcfaa

namespace Go.Proofs.Ytkcohhldmhdcfaa
open Go.RowKit

def badD (d : Int × Int) : Bool := decide (d.1 < 0)
def badA (a : Int × Fil) : Bool := decide (a.1 < 0) || decide (a.2.size < 0) || decide (a.2.ents < 0) || decide (1048576 < a.2.least.length) || decide (1048576 < a.2.most.length)
set_option maxRecDepth 100000 in
theorem badD_any (d : Int × Int) (w : World) :
    Calls Try.prog 89 #[.agg #[.int .i64 d.1, .int .u64 d.2]] w fun e w' => e = .returned (.bool (badD d)) ∧ Below w.heap.size w w' := by
  have HE : Hid (badD d = decide (d.1 < 0)) := rfl
  go_enter Try.func89, Try.ntmps89
  go_wp2_with fail
  go_ret
  exact ⟨ret_bool HE.out.symm, (Below.refl _ _).alloc (Nat.le_refl _) _⟩
set_option maxRecDepth 100000 in
set_option maxHeartbeats 2000000 in
theorem badA_any (F G : Nat → Prop) (a : Int × Fil) (vl vm : Value) (w : World) (h1 : Bytes F w vl a.2.least) (h2 : Bytes G w vm a.2.most) :
    Calls Try.prog 91 #[.agg (addCells a.1 a.2 vl vm).toArray] w fun e w' => e = .returned (.bool (badA a)) ∧ Below w.heap.size w w' := by
  obtain ⟨lev, f⟩ := a
  obtain ⟨la, lc, rfl⟩ := h1.isSlice
  obtain ⟨ma, mc, rfl⟩ := h2.isSlice
  have HBA : Hid (badA (lev, f) = (decide (lev < 0) || decide (f.size < 0) || decide (f.ents < 0) || decide (1048576 < f.least.length) || decide (1048576 < f.most.length))) := rfl
  clear h1 h2
  obtain ⟨n1, hn1⟩ : ∃ n, f.least.length = n := ⟨_, rfl⟩
  obtain ⟨n2, hn2⟩ : ∃ n, f.most.length = n := ⟨_, rfl⟩
  show Calls Try.prog 91 #[.agg (addCells lev f (.slice la f.least.length lc) (.slice ma f.most.length mc)).toArray] w _
  rw [hn1, hn2] at HBA ⊢
  clear hn1 hn2
  unfold addCells filCells
  go_enter Try.func91, Try.ntmps91
  go_upto_region 2 with fail
  refine wp_gen fun w1 hw1 => ?_
  have HB : Hid (Below w.heap.size w w1) := by rw [hw1]; exact below_two _ _ _
  have HX : Hid (Blk w1 w.heap.size (addCells lev f (.slice la n1 lc) (.slice ma n2 mc)).toArray 104) := by rw [hw1]; exact (Blk.at_new rfl rfl).alloc _
  have HY : Hid (Blk w1 (w.heap.size + 1) (filCells f (.slice la n1 lc) (.slice ma n2 mc)).toArray 42) := by rw [hw1]; exact blk_two _ _ _ _
  clear hw1
  obtain ⟨x0, x1, x2, x3, x4, x5, x6⟩ := C7.blk (a := (lev, f)) HX.out
  obtain ⟨d0, d1, d2, d3, d4, d5⟩ := C6.blk HY.out
  have x0 : w1.cell? ⟨w.heap.size, 0, none⟩ = some (.int .i64 lev) := x0
  by_cases c0 : lev < 0
  · have HF : Hid (badA (lev, f) = true) := by show _ = _; rw [HBA.out, decide_eq_true c0]; rfl
    go_wp2_with fail
    go_ret
    exact ⟨ret_bool HF.out.symm, HB.out⟩
  by_cases c1 : f.size < 0
  · have HF : Hid (badA (lev, f) = true) := by show _ = _; rw [HBA.out, decide_eq_true c1]; simp
    go_wp2_with fail
    go_ret
    exact ⟨ret_bool HF.out.symm, HB.out⟩
  by_cases c2 : f.ents < 0
  · have HF : Hid (badA (lev, f) = true) := by show _ = _; rw [HBA.out, decide_eq_true c2]; simp
    go_wp2_with fail
    go_ret
    exact ⟨ret_bool HF.out.symm, HB.out⟩
  by_cases c3 : 1048576 < n1
  · have HF : Hid (badA (lev, f) = true) := by show _ = _; rw [HBA.out, decide_eq_true c3]; simp
    have c3' : (1048576 : Int) < (n1 : Int) := by omega
    go_wp2_with fail
    go_ret
    exact ⟨ret_bool HF.out.symm, HB.out⟩
  have c3' : ¬ (1048576 : Int) < (n1 : Int) := by omega
  by_cases c4 : 1048576 < n2
  · have HF : Hid (badA (lev, f) = true) := by show _ = _; rw [HBA.out, decide_eq_true c4]; simp
    have c4' : (1048576 : Int) < (n2 : Int) := by omega
    go_wp2_with fail
    go_ret
    exact ⟨ret_bool HF.out.symm, HB.out⟩
  have c4' : ¬ (1048576 : Int) < (n2 : Int) := by omega
  have HF : Hid (badA (lev, f) = false) := by show _ = _; rw [HBA.out, decide_eq_false c0, decide_eq_false c1, decide_eq_false c2, decide_eq_false c3, decide_eq_false c4]; rfl
  go_wp2_with fail
  go_ret
  exact ⟨ret_bool HF.out.symm, HB.out⟩

set_option maxRecDepth 100000 in
set_option maxHeartbeats 2000000 in
theorem badDIdx_any (F : Nat → Prop) (v : Value) (l : List (Int × Int)) (w : World) (h : Rw dropK F w v l) (hfew : l.length ≤ 1000000) :
    Calls Try.prog 119 #[v, .func (.func 89) #[] #[]] w fun e w' => ∃ x : Int, e = .returned (.int .i64 x) ∧ decide (0 ≤ x) = l.any badD ∧ Below w.heap.size w w' := by
  obtain ⟨xa, ca, rfl⟩ := h.isSlice
  have HA : Hid (Rw dropK (· < w.heap.size) w (.slice xa l.length ca) l) := h.mono fun k hk _ => hk
  have hbd : ∀ (args : Array Value) (w : World), (callFunc 89 args).run Try.prog w = .ok (.enter 89 args) w := fun _ _ => by kernel_rfl
  clear h
  obtain ⟨n, hn⟩ : ∃ n, l.length = n := ⟨_, rfl⟩
  have HN := Lib.hid hn
  rw [hn] at HA hfew ⊢
  clear hn
  go_enter Try.func119, Try.ntmps119
  go_wp2_with fail
  go_loopw [8] (fun iv wr => ∃ (j : Nat), iv = .int .i64 (j : Int) ∧ j ≤ n ∧ Hid (∀ i (hi : i < l.length), i < j → badD l[i] = false) ∧ Hid (Below w.heap.size w wr)) (fun iv _ => n - (intOf iv).toNat)
  case atStart => exact ⟨0, rfl, by omega, (fun i _ hi => absurd hi (by omega)), Below.refl _ _⟩
  case round =>
    obtain ⟨j, rfl, hj, HO, HW⟩ := hrel
    by_cases hlt : j < n
    · have t1 : (j : Int) < (n : Int) := by omega
      have t3 : 0 ≤ (j : Int) := by omega
      have hl1 : j < l.length := by rw [HN.out]; omega
      have HNX : Hid (badD l[j] = false → ∀ i (hi : i < l.length), i < j + 1 → badD l[i] = false) := fun hb i hi hij => by
        by_cases e : i = j
        · subst e; exact hb
        · exact HO.out i hi (by omega)
      have HYS : Hid (badD l[j] = true → l.any badD = true) := fun hb => List.any_eq_true.2 ⟨_, List.getElem_mem hl1, hb⟩
      rw [dat_eq hl1] at HNX HYS
      obtain ⟨ba, oa, capa, ea, hba, _, hca⟩ := drops_at HA.out (by omega)
      obtain ⟨_, _, c0, c1⟩ := hca j hl1
      rw [HN.out] at ea
      injection ea with e1 e2 e3
      subst e1 e3
      have c0 := (HW.out.cell (p := ⟨ba, oa + j * 2, none⟩) hba).trans c0
      have c1 := (HW.out.cell (p := ⟨ba, oa + j * 2 + 1, none⟩) hba).trans c1
      obtain ⟨d, hd⟩ : ∃ d, dat l j = d := ⟨_, rfl⟩
      rw [hd] at c0 c1 HNX HYS
      clear e2 hca hl1 hd hba
      go_wp2_with fail
      clear hbd c0 c1
      refine Calls.mono (badD_any d _) ?_
      rintro _ w2 ⟨rfl, hb⟩
      have HW2 : Hid (Below w.heap.size w w2) := HW.out.trans (hb.mono HW.out.size)
      clear hb HW
      obtain ⟨r, hr⟩ : ∃ r, badD d = r := ⟨_, rfl⟩
      rw [hr] at HNX HYS ⊢
      clear hr
      cases r with
      | false =>
        have HO2 := Lib.hid (HNX.out rfl)
        go_wp2_with fail
        go_roundw
        · exact ⟨j + 1, by go_num, by omega, HO2.out, HW2.out⟩
        · simp only [intOf]; omega
      | true =>
        have HF : Hid (decide (0 ≤ (j : Int)) = l.any badD) := by show _ = _; rw [HYS.out rfl, decide_eq_true t3]
        go_wp2_with fail
        go_ret
        exact ⟨(j : Int), rfl, HF.out, HW2.out⟩
    · have t1 : ¬ (j : Int) < (n : Int) := by omega
      have HF : Hid (decide (0 ≤ (-1 : Int)) = l.any badD) := by
        show _ = _
        have : l.any badD = false := List.any_eq_false.2 fun x hx => by
          obtain ⟨i, hi, rfl⟩ := List.mem_iff_getElem.1 hx
          rw [HO.out i hi (by have := HN.out; omega)]
          decide
        rw [this]
        decide
      go_wp2_with fail
      go_ret
      exact ⟨-1, rfl, HF.out, HW.out⟩
set_option maxRecDepth 100000 in
theorem badDHas_any (F : Nat → Prop) (v : Value) (l : List (Int × Int)) (w : World) (h : Rw dropK F w v l) (hfew : l.length ≤ 1000000) :
    Calls Try.prog 88 #[v, .func (.func 89) #[] #[]] w fun e w' => e = .returned (.bool (l.any badD)) ∧ Below w.heap.size w w' := by
  have HI := Lib.hid (badDIdx_any F v l w h hfew)
  obtain ⟨xa, ca, rfl⟩ := h.isSlice
  clear h
  obtain ⟨n, hn⟩ : ∃ n, l.length = n := ⟨_, rfl⟩
  rw [hn] at HI ⊢
  clear hn hfew
  go_enter Try.func88, Try.ntmps88
  go_wp2_with fail
  refine Calls.mono HI.out ?_
  rintro _ w2 ⟨x, rfl, hx, hb⟩
  have HX := Lib.hid hx
  have HB := Lib.hid hb
  clear hx hb HI
  go_wp2_with fail
  go_ret
  exact ⟨ret_bool HX.out, HB.out⟩

set_option maxRecDepth 100000 in
set_option maxHeartbeats 2000000 in
theorem badAIdx_any (F : Nat → Prop) (v : Value) (l : List (Int × Fil)) (w : World) (h : Rw addK F w v l) (hfew : l.length ≤ 1000000) :
    Calls Try.prog 120 #[v, .func (.func 91) #[] #[]] w fun e w' => ∃ x : Int, e = .returned (.int .i64 x) ∧ decide (0 ≤ x) = l.any badA ∧ Below w.heap.size w w' := by
  obtain ⟨xa, ca, rfl⟩ := h.isSlice
  have HA : Hid (Rw addK (· < w.heap.size) w (.slice xa l.length ca) l) := h.mono fun k hk _ => hk
  have hbd : ∀ (args : Array Value) (w : World), (callFunc 91 args).run Try.prog w = .ok (.enter 91 args) w := fun _ _ => by kernel_rfl
  clear h
  obtain ⟨n, hn⟩ : ∃ n, l.length = n := ⟨_, rfl⟩
  have HN := Lib.hid hn
  rw [hn] at HA hfew ⊢
  clear hn
  go_enter Try.func120, Try.ntmps120
  go_wp2_with fail
  go_loopw [8] (fun iv wr => ∃ (j : Nat), iv = .int .i64 (j : Int) ∧ j ≤ n ∧ Hid (∀ i (hi : i < l.length), i < j → badA l[i] = false) ∧ Hid (Below w.heap.size w wr)) (fun iv _ => n - (intOf iv).toNat)
  case atStart => exact ⟨0, rfl, by omega, (fun i _ hi => absurd hi (by omega)), Below.refl _ _⟩
  case round =>
    obtain ⟨j, rfl, hj, HO, HW⟩ := hrel
    by_cases hlt : j < n
    · have t1 : (j : Int) < (n : Int) := by omega
      have t3 : 0 ≤ (j : Int) := by omega
      have hl1 : j < l.length := by rw [HN.out]; omega
      have HNX : Hid (badA l[j] = false → ∀ i (hi : i < l.length), i < j + 1 → badA l[i] = false) := fun hb i hi hij => by
        by_cases e : i = j
        · subst e; exact hb
        · exact HO.out i hi (by omega)
      have HYS : Hid (badA l[j] = true → l.any badA = true) := fun hb => List.any_eq_true.2 ⟨_, List.getElem_mem hl1, hb⟩
      rw [adat_eq hl1] at HNX HYS
      obtain ⟨ba, oa, capa, ea, hba, _, hca⟩ := adds_at HA.out (by omega)
      obtain ⟨vl, vm, _, g1, g2, _, hc7⟩ := hca j hl1
      rw [HN.out] at ea
      injection ea with e1 e2 e3
      subst e1 e3
      obtain ⟨a, haa⟩ : ∃ a, adat l j = a := ⟨_, rfl⟩
      rw [haa] at g1 g2 hc7 HNX HYS
      obtain ⟨lev, f⟩ := a
      obtain ⟨la, lc, rfl⟩ := g1.isSlice
      obtain ⟨ma, mc, rfl⟩ := g2.isSlice
      have HG1 : Hid (Bytes (· < w.heap.size) wr _ f.least) := g1.below HW.out
      have HG2 : Hid (Bytes (· < w.heap.size) wr _ f.most) := g2.below HW.out
      obtain ⟨d0, d1, d2, d3, d4, d5, d6⟩ := hc7.keep HW.out hba
      have d0 : wr.cell? ⟨ba, oa + j * 7, none⟩ = some (.int .i64 lev) := d0
      have d1 : wr.cell? ⟨ba, oa + j * 7 + 1, none⟩ = some (.int .u64 f.num) := d1
      have d2 : wr.cell? ⟨ba, oa + j * 7 + 2, none⟩ = some (.int .i64 f.size) := d2
      have d3 : wr.cell? ⟨ba, oa + j * 7 + 3, none⟩ = some (.slice la f.least.length lc) := d3
      have d4 : wr.cell? ⟨ba, oa + j * 7 + 4, none⟩ = some (.slice ma f.most.length mc) := d4
      have d5 : wr.cell? ⟨ba, oa + j * 7 + 5, none⟩ = some (.int .i64 f.ents) := d5
      have d6 : wr.cell? ⟨ba, oa + j * 7 + 6, none⟩ = some (.int .u64 f.mseq) := d6
      clear e2 hca hl1 haa hba hc7 g1 g2
      go_wp2_with fail
      clear hbd d0 d1 d2 d3 d4 d5 d6
      refine Calls.mono (badA_any _ _ (lev, f) _ _ _ HG1.out HG2.out) ?_
      rintro _ w2 ⟨rfl, hb⟩
      obtain ⟨d, hd⟩ : ∃ d, (lev, f) = d := ⟨_, rfl⟩
      rw [hd] at HNX HYS ⊢
      have HW2 : Hid (Below w.heap.size w w2) := HW.out.trans (hb.mono HW.out.size)
      clear hb HW
      obtain ⟨r, hr⟩ : ∃ r, badA d = r := ⟨_, rfl⟩
      rw [hr] at HNX HYS ⊢
      clear hr
      cases r with
      | false =>
        have HO2 := Lib.hid (HNX.out rfl)
        go_wp2_with fail
        go_roundw
        · exact ⟨j + 1, by go_num, by omega, HO2.out, HW2.out⟩
        · simp only [intOf]; omega
      | true =>
        have HF : Hid (decide (0 ≤ (j : Int)) = l.any badA) := by show _ = _; rw [HYS.out rfl, decide_eq_true t3]
        go_wp2_with fail
        go_ret
        exact ⟨(j : Int), rfl, HF.out, HW2.out⟩
    · have t1 : ¬ (j : Int) < (n : Int) := by omega
      have HF : Hid (decide (0 ≤ (-1 : Int)) = l.any badA) := by
        show _ = _
        have : l.any badA = false := List.any_eq_false.2 fun x hx => by
          obtain ⟨i, hi, rfl⟩ := List.mem_iff_getElem.1 hx
          rw [HO.out i hi (by have := HN.out; omega)]
          decide
        rw [this]
        decide
      go_wp2_with fail
      go_ret
      exact ⟨-1, rfl, HF.out, HW.out⟩
set_option maxRecDepth 100000 in
theorem badAHas_any (F : Nat → Prop) (v : Value) (l : List (Int × Fil)) (w : World) (h : Rw addK F w v l) (hfew : l.length ≤ 1000000) :
    Calls Try.prog 90 #[v, .func (.func 91) #[] #[]] w fun e w' => e = .returned (.bool (l.any badA)) ∧ Below w.heap.size w w' := by
  have HI := Lib.hid (badAIdx_any F v l w h hfew)
  obtain ⟨xa, ca, rfl⟩ := h.isSlice
  clear h
  obtain ⟨n, hn⟩ : ∃ n, l.length = n := ⟨_, rfl⟩
  rw [hn] at HI ⊢
  clear hn hfew
  go_enter Try.func90, Try.ntmps90
  go_wp2_with fail
  refine Calls.mono HI.out ?_
  rintro _ w2 ⟨x, rfl, hx, hb⟩
  have HX := Lib.hid hx
  have HB := Lib.hid hb
  clear hx hb HI
  go_wp2_with fail
  go_ret
  exact ⟨ret_bool HX.out, HB.out⟩
end Go.Proofs.Ytkcohhldmhdcfaa
