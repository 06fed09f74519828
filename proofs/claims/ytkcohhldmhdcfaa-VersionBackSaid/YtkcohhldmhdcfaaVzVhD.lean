/- version.Append onto nothing. -/
import Derived.Test.YtkcohhldmhdcfaaVzVhAa
namespace Go.Proofs.Ytkcohhldmhdcfaa
open Go.RowKit

def encD (d : Int × Int) : List UInt8 := encNs [d.1.toNat, d.2.toNat]
def encA (a : Int × Fil) : List UInt8 := encNs [a.1.toNat, a.2.num.toNat, a.2.size.toNat, a.2.ents.toNat, a.2.mseq.toNat] ++ encP a.2.least ++ encP a.2.most
def encDs (l : List (Int × Int)) : List UInt8 := (l.map encD).flatten
def encAs (l : List (Int × Fil)) : List UInt8 := (l.map encA).flatten
def headE (e : Edi) : List UInt8 := encNs [e.next.toNat, e.seq.toNat, e.log.toNat, e.drops.length]
/-- An edit's bytes. -/
def encE (e : Edi) : List UInt8 := headE e ++ encDs e.drops ++ encNs [e.adds.length] ++ encAs e.adds
/-- 0: an edit can be put into bytes. -/
def appC (e : Edi) : Int := if (e.drops.any badD || e.adds.any badA) = true then 2 else if 10000 < e.drops.length ∨ 10000 < e.adds.length then 3 else 0
def AppPost (e : Edi) (w : World) (x : Ending) (w' : World) : Prop :=
  (appC e ≠ 0 → x = .returned (.tuple #[.slice none 0 0, .int .i64 (appC e)])) ∧ (appC e = 0 → ∃ r, x = .returned (.tuple #[r, .int .i64 0]) ∧ Owned w.heap.size w' r (encE e)) ∧ Below w.heap.size w w'
theorem appPost_bad {e : Edi} {w w' : World} {c : Int} (h : appC e = c) (hc : c ≠ 0) (hb : Below w.heap.size w w') : AppPost e w (.returned (.tuple #[.slice none 0 0, .int .i64 c])) w' := by
  subst h
  exact ⟨fun _ => rfl, fun h => absurd h hc, hb⟩
theorem appPost_ok {e : Edi} {w w' : World} {r : Value} (h : appC e = 0) (ho : Owned w.heap.size w' r (encE e)) (hb : Below w.heap.size w w') : AppPost e w (.returned (.tuple #[r, .int .i64 0])) w' :=
  ⟨fun hn => absurd h hn, fun _ => ⟨r, rfl, ho⟩, hb⟩
theorem encDs_more {l : List (Int × Int)} {k : Nat} (hk : k < l.length) : encDs (l.take k) ++ encD (dat l k) = encDs (l.take (k + 1)) := by
  unfold encDs
  rw [List.take_succ_eq_append_getElem hk, List.map_append, List.flatten_append, dat_eq hk]
  simp
theorem encAs_more {l : List (Int × Fil)} {k : Nat} (hk : k < l.length) : encAs (l.take k) ++ encA (adat l k) = encAs (l.take (k + 1)) := by
  unfold encAs
  rw [List.take_succ_eq_append_getElem hk, List.map_append, List.flatten_append, adat_eq hk]
  simp
theorem encD_len {d : Int × Int} (h1 : i64In d.1) (h2 : u64In d.2) : (encD d).length ≤ 20 := by
  refine encNs_len (ns := [d.1.toNat, d.2.toNat]) fun n hn => ?_
  have := h1.2
  have := h2.2
  simp only [List.mem_cons, List.not_mem_nil, or_false] at hn
  rcases hn with rfl | rfl <;> omega
theorem encDs_len {l : List (Int × Int)} (h : ∀ d ∈ l, i64In d.1 ∧ u64In d.2) : (encDs l).length ≤ 20 * l.length := by
  induction l with
  | nil => simp [encDs]
  | cons a l ih =>
    have h1 := encD_len (h a (List.mem_cons_self ..)).1 (h a (List.mem_cons_self ..)).2
    have h2 := ih fun d hd => h d (List.mem_cons_of_mem _ hd)
    have : encDs (a :: l) = encD a ++ encDs l := by unfold encDs; simp
    rw [this, List.length_append, List.length_cons]
    omega
theorem encA_len {a : Int × Fil} (h1 : i64In a.1) (h2 : a.2.wf) (h3 : a.2.least.length ≤ 10000 ∧ a.2.most.length ≤ 10000) : (encA a).length ≤ 20070 := by
  have g1 : (encNs [a.1.toNat, a.2.num.toNat, a.2.size.toNat, a.2.ents.toNat, a.2.mseq.toNat]).length ≤ 50 := by
    refine encNs_len (ns := [a.1.toNat, a.2.num.toNat, a.2.size.toNat, a.2.ents.toNat, a.2.mseq.toNat]) fun n hn => ?_
    have := h1.2
    have := h2.1.2
    have := h2.2.1.2
    have := h2.2.2.1.2
    have := h2.2.2.2.2
    simp only [List.mem_cons, List.not_mem_nil, or_false] at hn
    rcases hn with rfl | rfl | rfl | rfl | rfl <;> omega
  have g2 := encN_ten (x := a.2.least.length) (by omega)
  have g3 := encN_ten (x := a.2.most.length) (by omega)
  unfold encA encP
  simp only [List.length_append]
  omega
theorem encAs_len {l : List (Int × Fil)} (h : ∀ a ∈ l, i64In a.1 ∧ a.2.wf ∧ a.2.least.length ≤ 10000 ∧ a.2.most.length ≤ 10000) : (encAs l).length ≤ 20070 * l.length := by
  induction l with
  | nil => simp [encAs]
  | cons a l ih =>
    have h0 := h a (List.mem_cons_self ..)
    have h1 := encA_len h0.1 h0.2.1 h0.2.2
    have h2 := ih fun d hd => h d (List.mem_cons_of_mem _ hd)
    have : encAs (a :: l) = encA a ++ encAs l := by unfold encAs; simp
    rw [this, List.length_append, List.length_cons]
    omega
theorem Rw.dwf {F : Nat → Prop} {w : World} {v : Value} {l : List (Int × Int)} (h : Rw dropK F w v l) : ∀ d ∈ l, i64In d.1 ∧ u64In d.2 := by
  intro d hd
  obtain ⟨i, hi, rfl⟩ := List.mem_iff_getElem.1 hd
  obtain ⟨_, _, _, _, _, _, hc⟩ := drops_at h (by omega)
  rw [dat_eq hi]
  exact ⟨(hc i hi).1, (hc i hi).2.1⟩
theorem Rw.awf {F : Nat → Prop} {w : World} {v : Value} {l : List (Int × Fil)} (h : Rw addK F w v l) : ∀ a ∈ l, i64In a.1 ∧ a.2.wf := by
  intro a ha
  obtain ⟨i, hi, rfl⟩ := List.mem_iff_getElem.1 ha
  obtain ⟨_, _, _, _, _, _, hc⟩ := adds_at h (by omega)
  rw [adat_eq hi]
  obtain ⟨_, _, h1, _, _, h2, _⟩ := hc i hi
  exact ⟨h1, h2⟩

set_option maxRecDepth 100000 in
set_option maxHeartbeats 4000000 in
theorem append_any (G : Nat → Prop) (e : Edi) (dv av : Value) (w : World) (he : EdiAt G w e dv av) (hd : e.drops.length ≤ 3000) (ha : e.adds.length ≤ 3000) (hk : ∀ a ∈ e.adds, a.2.least.length ≤ 10000 ∧ a.2.most.length ≤ 10000) :
    Calls Try.prog 48 #[.slice none 0 0, .agg (ediCells e dv av).toArray] w (AppPost e w) := by
  have HE : Hid (EdiAt (fun k => k < w.heap.size) w e dv av) := he.mono fun k hk _ => hk
  have HKY := Lib.hid hk
  have HDW := Lib.hid he.drops.dwf
  have HAW := Lib.hid he.adds.awf
  have HAP : Hid (appC e = if (e.drops.any badD || e.adds.any badA) = true then 2 else if 10000 < e.drops.length ∨ 10000 < e.adds.length then 3 else 0) := rfl
  have HU : Hid (u64In e.next ∧ u64In e.seq ∧ u64In e.log) := ⟨he.next, he.seq, he.log⟩
  have HHD := Lib.hid (fun w' (hb : Below w.heap.size w w') => badDHas_any G dv e.drops w' (he.drops.below hb) (by omega))
  have HHA := Lib.hid (fun w' (hb : Below w.heap.size w w') => badAHas_any G av e.adds w' (he.adds.below hb) (by omega))
  obtain ⟨da, dc, rfl⟩ := he.drops.isSlice
  obtain ⟨aa, ac, rfl⟩ := he.adds.isSlice
  obtain ⟨nd, hnd⟩ : ∃ n, e.drops.length = n := ⟨_, rfl⟩
  obtain ⟨na, hna⟩ : ∃ n, e.adds.length = n := ⟨_, rfl⟩
  have HND := Lib.hid hnd
  have HNA := Lib.hid hna
  rw [hnd, hna] at HE HAP ⊢
  rw [hnd] at HHD hd
  rw [hna] at HHA ha
  clear he hk hnd hna
  unfold ediCells
  go_enter Try.func48, Try.ntmps48
  go_upto_region 1 with fail
  refine wp_gen fun w1 hw1 => ?_
  have HX1 : Hid (Blk w1 w.heap.size (ediCells e (.slice da nd dc) (.slice aa na ac)).toArray 57) := by rw [hw1]; exact Blk.at_new rfl rfl
  have HW1 : Hid (Below w.heap.size w w1) := by rw [hw1]; exact (Below.refl _ _).alloc (Nat.le_refl _) _
  clear hw1
  obtain ⟨eb, heb⟩ : ∃ b, w.heap.size = b := ⟨_, rfl⟩
  have HEB := Lib.hid heb
  rw [heb] at HX1 ⊢
  clear heb
  have x0 : w1.cell? ⟨eb, 0, none⟩ = some (.slice da nd dc) := HX1.out.cell rfl
  go_wp2_with fail
  clear x0
  refine Calls.mono (HHD.out _ HW1.out) ?_
  rintro _ w2 ⟨rfl, hb⟩
  have HX2 := Lib.hid (HX1.out.below hb HX1.out.lt)
  have HW2 : Hid (Below w.heap.size w w2) := HW1.out.trans (hb.mono HW1.out.size)
  clear hb HX1 HW1 HHD
  obtain ⟨bd, hbd⟩ : ∃ b, e.drops.any badD = b := ⟨_, rfl⟩
  have HBD := Lib.hid hbd
  rw [hbd] at HAP ⊢
  clear hbd
  cases bd with
  | true =>
    have HF : Hid (appC e = 2) := by show _ = _; rw [HAP.out]; rfl
    go_wp2_with fail
    go_ret2
    exact appPost_bad HF.out (by decide) HW2.out
  | false =>
  have x1 : w2.cell? ⟨eb, 1, none⟩ = some (.slice aa na ac) := HX2.out.cell rfl
  go_wp2_with fail
  clear x1
  refine Calls.mono (HHA.out _ HW2.out) ?_
  rintro _ w3 ⟨rfl, hb⟩
  have HX3 := Lib.hid (HX2.out.below hb HX2.out.lt)
  have HW3 : Hid (Below w.heap.size w w3) := HW2.out.trans (hb.mono HW2.out.size)
  clear hb HX2 HW2 HHA
  obtain ⟨bd, hbd⟩ : ∃ b, e.adds.any badA = b := ⟨_, rfl⟩
  have HBA := Lib.hid hbd
  rw [hbd] at HAP ⊢
  clear hbd
  cases bd with
  | true =>
    have HF : Hid (appC e = 2) := by show _ = _; rw [HAP.out]; rfl
    go_wp2_with fail
    go_ret2
    exact appPost_bad HF.out (by decide) HW3.out
  | false =>
  have HF : Hid (appC e = 0) := by show _ = _; rw [HAP.out, if_neg (by decide), if_neg (by omega)]
  have t1 : ¬ (10000 : Int) < (nd : Int) := by omega
  have t2 : ¬ (10000 : Int) < (na : Int) := by omega
  obtain ⟨x0, x1, x2, x3, x4⟩ := (⟨HX3.out.cell rfl, HX3.out.cell rfl, HX3.out.cell rfl, HX3.out.cell rfl, HX3.out.cell rfl⟩ : w3.cell? ⟨eb, 0, none⟩ = some (.slice da nd dc) ∧ w3.cell? ⟨eb, 1, none⟩ = some (.slice aa na ac) ∧ w3.cell? ⟨eb, 2, none⟩ = some (.int .u64 e.next) ∧ w3.cell? ⟨eb, 3, none⟩ = some (.int .u64 e.seq) ∧ w3.cell? ⟨eb, 4, none⟩ = some (.int .u64 e.log))
  go_wp2_with fail
  clear x0 x1 x2 x3 x4 t1 t2
  refine calls_gen fun w4 hw4 => ?_
  have hb4 : Below w3.heap.size w3 w4 := by rw [hw4]; exact (Below.refl _ _).alloc (Nat.le_refl _) _
  have HK4 : Hid (Blk w4 w3.heap.size (nCells [e.next.toNat, e.seq.toNat, e.log.toNat, nd]).toArray 23) := by
    rw [hw4]
    refine Blk.at_new rfl ?_
    have h1 := HU.out.1.1
    have h2 := HU.out.2.1.1
    have h3 := HU.out.2.2.1
    simp only [nCells, List.map_cons, List.map_nil, Int.toNat_of_nonneg h1, Int.toNat_of_nonneg h2, Int.toNat_of_nonneg h3]
  have HX4 := Lib.hid (HX3.out.below hb4 HX3.out.lt)
  have HW4 : Hid (Below w.heap.size w w4) := HW3.out.trans (hb4.mono HW3.out.size)
  have HEL : Hid (eb < w4.heap.size) := HX4.out.lt
  have HWS : Hid (w.heap.size ≤ w4.heap.size) := HW4.out.size
  clear hw4 hb4 HX3 HW3
  have HNN : Hid (∀ n ∈ [e.next.toNat, e.seq.toNat, e.log.toNat, nd], n < 18446744073709551616) := fun n hn => by
    have h1 := HU.out.1.2
    have h2 := HU.out.2.1.2
    have h3 := HU.out.2.2.2
    simp only [List.mem_cons, List.not_mem_nil, or_false] at hn
    rcases hn with rfl | rfl | rfl | rfl <;> omega
  refine Calls.mono (numbers_any w4.heap.size (.slice none 0 0) [] [e.next.toNat, e.seq.toNat, e.log.toNat, nd] w3.heap.size _ w4 (Owned.nil _ _) HK4.out (by intro h; cases h) (Nat.le_refl _) HNN.out (by decide) (by show 4 ≤ 100; decide)) ?_
  rintro _ w5 ⟨r, rfl, ho, hg⟩
  have HO5 : Hid (Owned w4.heap.size w5 r (headE e)) := by show Owned _ _ _ _; unfold headE; rw [HND.out]; exact ho
  have HB5 : Hid (Below w4.heap.size w4 w5) := hg.below (Nat.le_refl _) (fun j e0 => by cases e0)
  obtain ⟨ra, rn, rc, rfl⟩ := ho.isSlice
  have HHL : Hid ((headE e).length ≤ 40) := encNs_len (ns := [e.next.toNat, e.seq.toNat, e.log.toNat, e.drops.length]) (by rw [HND.out]; exact HNN.out)
  clear ho hg HNN HK4
  obtain ⟨B, hB⟩ : ∃ x, w4.heap.size = x := ⟨_, rfl⟩
  have HBB := Lib.hid hB
  rw [hB] at HO5 HEL HWS
  have HB5 : Hid (Below B w4 w5) := by rw [← hB]; exact HB5.out
  clear hB
  have x0 : w5.cell? ⟨eb, 0, none⟩ = some (.slice da nd dc) := (HX4.out.below HB5.out HEL.out).cell rfl
  go_wp2_with fail
  clear x0
  go_loopw [0, 49] (fun bv kv wr => ∃ (k : Nat) (u : Value), u = bv ∧ kv = .int .i64 (k : Int) ∧ k ≤ nd ∧ Hid (Owned B wr bv (headE e ++ encDs (e.drops.take k))) ∧ Hid (Below B w4 wr)) (fun _ kv _ => nd - (intOf kv).toNat)
  case atStart => exact ⟨0, _, rfl, rfl, by omega, by show Owned _ _ _ _; rw [show headE e ++ encDs (e.drops.take 0) = headE e from List.append_nil _]; exact HO5.out, HB5.out⟩
  case round =>
    obtain ⟨k, u, rfl, rfl, hk, HO, HB⟩ := hrel
    clear HO5 HB5
    obtain ⟨ra, rn, rc, rfl⟩ := HO.out.isSlice
    by_cases hkn : k < nd
    · have t1 : (k : Int) < (nd : Int) := by omega
      have t2 : 0 ≤ (k : Int) := by omega
      have hkl : k < e.drops.length := by rw [HND.out]; exact hkn
      obtain ⟨bd, od, capd, ed, hF, _, hcd⟩ := drops_at HE.out.drops (by omega)
      obtain ⟨h1, h2, c0, c1⟩ := hcd k hkl
      rw [HND.out] at ed
      injection ed with e1 e2 e3
      subst e1 e3
      have hbnd : badD (dat e.drops k) = false := by
        have h1 := List.any_eq_false.1 HBD.out (dat e.drops k) (by rw [← dat_eq hkl]; exact List.getElem_mem hkl)
        simpa using h1
      have HMO := Lib.hid (encDs_more hkl)
      have HDL := Lib.hid (encDs_len (l := e.drops.take k) fun d hd => HDW.out d (List.mem_of_mem_take hd))
      have hcell : ∀ j, wr.cell? ⟨bd, j, none⟩ = w.cell? ⟨bd, j, none⟩ := fun j => (HB.out.cell (p := ⟨bd, j, none⟩) (by have := HWS.out; show bd < B; omega)).trans (HW4.out.cell (p := ⟨bd, j, none⟩) hF)
      rw [← hcell] at c0 c1
      obtain ⟨p1, hp1⟩ : ∃ n : Nat, (dat e.drops k).1 = (n : Int) := ⟨(dat e.drops k).1.toNat, by unfold badD at hbnd; simp at hbnd; omega⟩
      obtain ⟨p2, hp2⟩ : ∃ n : Nat, (dat e.drops k).2 = (n : Int) := ⟨(dat e.drops k).2.toNat, by have := h2.1; omega⟩
      have HD : Hid (encD (dat e.drops k) = encNs [p1, p2]) := by show _ = _; unfold encD; rw [hp1, hp2, Int.toNat_natCast, Int.toNat_natCast]
      have hl1 : p1 ≤ 9223372036854775807 := by have := h1.2; omega
      have hl2 : p2 < 18446744073709551616 := by have := h2.2; omega
      rw [hp1] at c0
      rw [hp2] at c1
      clear e2 hcd hbnd hcell hp1 hp2 h1 h2 hF hkl
      go_upto_region 10 with fail
      clear c0 c1
      refine wp_gen fun w6 hw6 => ?_
      have hb6 : Below wr.heap.size wr w6 := by rw [hw6]; exact (Below.refl _ _).alloc (Nat.le_refl _) _
      have HDB : Hid (Blk w6 wr.heap.size #[.int .i64 (p1 : Int), .int .u64 (p2 : Int)] 100) := by rw [hw6]; exact Blk.at_new rfl rfl
      have HO6 := Lib.hid (HO.out.below hb6)
      have HB6 : Hid (Below B w4 w6) := HB.out.trans (hb6.mono (by rw [← HBB.out]; exact HB.out.size))
      clear hw6 hb6 HO HB
      generalize wr.heap.size = db at *
      have c0 : w6.cell? ⟨db, 0, none⟩ = some (.int .i64 (p1 : Int)) := HDB.out.cell rfl
      have c1 : w6.cell? ⟨db, 1, none⟩ = some (.int .u64 (p2 : Int)) := HDB.out.cell rfl
      go_wp2_with fail
      clear c0 c1
      refine calls_gen fun w7 hw7 => ?_
      have hb7 : Below w6.heap.size w6 w7 := by rw [hw7]; exact (Below.refl _ _).alloc (Nat.le_refl _) _
      have HK7 : Hid (Blk w7 w6.heap.size (nCells [p1, p2]).toArray 23) := by rw [hw7]; exact Blk.at_new rfl rfl
      have HO7 := Lib.hid (HO6.out.below hb7)
      have HB7 : Hid (Below B w4 w7) := HB6.out.trans (hb7.mono (by rw [← HBB.out]; exact HB6.out.size))
      have HOW : Hid ((Value.slice ra rn rc).ownBlock ≠ some w6.heap.size) := fun e0 => by have := (World.ownsRow.lt HO6.out _ e0).2; omega
      clear hw7 hb7 HO6 HB6
      have HNN : Hid (∀ n ∈ [p1, p2], n < 18446744073709551616) := fun n hn => by
        simp only [List.mem_cons, List.not_mem_nil, or_false] at hn
        rcases hn with rfl | rfl <;> omega
      have HLN : Hid ((headE e ++ encDs (e.drops.take k)).length ≤ 80000000) := by
        show _ ≤ _
        have h1 := HHL.out
        have h2 := HDL.out
        rw [List.length_take] at h2
        rw [List.length_append]
        omega
      refine Calls.mono (numbers_any B _ _ [p1, p2] w6.heap.size _ w7 HO7.out HK7.out HOW.out (by rw [← HBB.out]; exact HB7.out.size) HNN.out HLN.out (by show 2 ≤ 100; decide)) ?_
      rintro _ w8 ⟨r, rfl, ho, hg⟩
      have HO8 : Hid (Owned B w8 r (headE e ++ encDs (e.drops.take (k + 1)))) := by show Owned _ _ _ _; rw [← HMO.out, HD.out, ← List.append_assoc]; exact ho
      have HB8 : Hid (Below B w4 w8) := HB7.out.trans (hg.below (by rw [← HBB.out]; exact HB7.out.size) fun j e0 => (World.ownsRow.lt HO7.out j e0).1)
      obtain ⟨va, vn, vc, rfl⟩ := ho.isSlice
      clear ho hg HO7 HB7 HK7 HNN HLN HOW
      go_wp2_with fail
      go_roundw
      · exact ⟨k + 1, _, rfl, by go_num, by omega, HO8.out, HB8.out⟩
      · simp only [intOf]; omega
    · have t1 : ¬ (k : Int) < (nd : Int) := by omega
      obtain rfl : k = nd := by omega
      have HOE : Hid (Owned B wr (.slice ra rn rc) (headE e ++ encDs e.drops)) := by
        have h1 := HO.out
        rw [List.take_of_length_le (by rw [HND.out]; exact Nat.le_refl _)] at h1
        exact h1
      have HDL : Hid ((encDs e.drops).length ≤ 60000) := by
        have h1 := encDs_len HDW.out
        rw [HND.out] at h1
        show _ ≤ _
        omega
      clear HO
      have x1 : wr.cell? ⟨eb, 1, none⟩ = some (.slice aa na ac) := (HX4.out.below HB.out HEL.out).cell rfl
      go_wp2_with fail
      clear x1 t1
      refine calls_gen fun w6 hw6 => ?_
      have hb6 : Below wr.heap.size wr w6 := by rw [hw6]; exact (Below.refl _ _).alloc (Nat.le_refl _) _
      have HK6 : Hid (Blk w6 wr.heap.size (nCells [na]).toArray 23) := by rw [hw6]; exact Blk.at_new rfl rfl
      have HO6 := Lib.hid (HOE.out.below hb6)
      have HB6 : Hid (Below B w4 w6) := HB.out.trans (hb6.mono (by rw [← HBB.out]; exact HB.out.size))
      have HOW : Hid ((Value.slice ra rn rc).ownBlock ≠ some wr.heap.size) := fun e0 => by have := (World.ownsRow.lt HOE.out _ e0).2; omega
      clear hw6 hb6 HOE HB
      have HNN : Hid (∀ n ∈ [na], n < 18446744073709551616) := fun n hn => by
        simp only [List.mem_cons, List.not_mem_nil, or_false] at hn
        subst hn
        omega
      have HLN : Hid ((headE e ++ encDs e.drops).length ≤ 60040) := by
        show _ ≤ _
        have h1 := HHL.out
        have h2 := HDL.out
        rw [List.length_append]
        omega
      refine Calls.mono (numbers_any B _ _ [na] wr.heap.size _ w6 HO6.out HK6.out HOW.out (by rw [← HBB.out]; exact HB6.out.size) HNN.out (Nat.le_trans HLN.out (by decide)) (by show 1 ≤ 100; decide)) ?_
      rintro _ w7 ⟨r, rfl, ho, hg⟩
      obtain ⟨PRE, hPRE⟩ : ∃ x, headE e ++ encDs e.drops ++ encNs [na] = x := ⟨_, rfl⟩
      have HPRE : Hid (encE e = PRE ++ encAs e.adds) := by show _ = _; unfold encE; rw [HNA.out, hPRE]
      have HPL : Hid (PRE.length ≤ 60050) := by
        show _ ≤ _
        have h1 := HLN.out
        have h2 := encNs_len HNN.out
        rw [← hPRE, List.length_append]
        have : ([na] : List Nat).length = 1 := rfl
        omega
      rw [hPRE] at ho
      have HO7 := Lib.hid ho
      have HB7 : Hid (Below B w4 w7) := HB6.out.trans (hg.below (by rw [← HBB.out]; exact HB6.out.size) fun j e0 => (World.ownsRow.lt HO6.out j e0).1)
      obtain ⟨va, vn, vc, rfl⟩ := ho.isSlice
      clear ho hg HO6 HB6 HK6 HNN HLN HOW HDL HHL hPRE
      have x1 : w7.cell? ⟨eb, 1, none⟩ = some (.slice aa na ac) := (HX4.out.below HB7.out HEL.out).cell rfl
      go_wp2_with fail
      clear x1
      go_loopw [0, 72] (fun bv kv wr => ∃ (q : Nat) (u : Value), u = bv ∧ kv = .int .i64 (q : Int) ∧ q ≤ na ∧ Hid (Owned B wr bv (PRE ++ encAs (e.adds.take q))) ∧ Hid (Below B w4 wr)) (fun _ kv _ => na - (intOf kv).toNat)
      case atStart => exact ⟨0, _, rfl, rfl, by omega, by show Owned _ _ _ _; rw [show PRE ++ encAs (e.adds.take 0) = PRE from List.append_nil _]; exact HO7.out, HB7.out⟩
      case round =>
        obtain ⟨q, u, rfl, rfl, hq, HO, HB⟩ := hrel
        clear HO7 HB7
        obtain ⟨ra, rn, rc, rfl⟩ := HO.out.isSlice
        by_cases hqn : q < na
        · have t1 : (q : Int) < (na : Int) := by omega
          have t2 : 0 ≤ (q : Int) := by omega
          have hql : q < e.adds.length := by rw [HNA.out]; exact hqn
          obtain ⟨bd, od, capd, ed, hF, _, hcd⟩ := adds_at HE.out.adds (by omega)
          obtain ⟨vl, vm, h1, g1, g2, hwf, hc7⟩ := hcd q hql
          rw [HNA.out] at ed
          injection ed with e1 e2 e3
          subst e1 e3
          have hbad : badA (adat e.adds q) = false := by
            have h1 := List.any_eq_false.1 HBA.out (adat e.adds q) (adat_mem hql)
            simpa using h1
          have HMO := Lib.hid (encAs_more hql)
          have HKL := Lib.hid (HKY.out _ (adat_mem hql))
          have HAL := Lib.hid (encAs_len (l := e.adds.take q) fun a ha => ⟨(HAW.out a (List.mem_of_mem_take ha)).1, (HAW.out a (List.mem_of_mem_take ha)).2, HKY.out a (List.mem_of_mem_take ha)⟩)
          have hcell : ∀ j, wr.cell? ⟨bd, j, none⟩ = w.cell? ⟨bd, j, none⟩ := fun j => (HB.out.cell (p := ⟨bd, j, none⟩) (by have := HWS.out; show bd < B; omega)).trans (HW4.out.cell (p := ⟨bd, j, none⟩) hF)
          obtain ⟨a, haa⟩ : ∃ a, adat e.adds q = a := ⟨_, rfl⟩
          rw [haa] at h1 g1 g2 hwf hc7 hbad HMO HKL
          obtain ⟨lev, f⟩ := a
          obtain ⟨la, lc, rfl⟩ := g1.isSlice
          obtain ⟨ma, mc, rfl⟩ := g2.isSlice
          have HG1 : Hid (Bytes (fun k => k < w.heap.size) wr _ f.least) := (g1.below HW4.out).keep fun k _ hk => HB.out.block k (by have := HWS.out; omega)
          have HG2 : Hid (Bytes (fun k => k < w.heap.size) wr _ f.most) := (g2.below HW4.out).keep fun k _ hk => HB.out.block k (by have := HWS.out; omega)
          obtain ⟨d0, d1, d2, d3, d4, d5, d6⟩ := hc7
          rw [← hcell] at d0 d1 d2 d3 d4 d5 d6
          obtain ⟨fn, fs, fl, fm, fe, fq⟩ := f
          have h1 : i64In lev := h1
          have hwf : u64In fn ∧ i64In fs ∧ i64In fe ∧ u64In fq := hwf
          have hbad : (decide (lev < 0) || decide (fs < 0) || decide (fe < 0) || decide (1048576 < fl.length) || decide (1048576 < fm.length)) = false := hbad
          simp only [Bool.or_eq_false_iff, decide_eq_false_iff_not] at hbad
          obtain ⟨⟨⟨⟨k0, k1⟩, k2⟩, k3⟩, k4⟩ := hbad
          have w0 : lev ≤ 9223372036854775807 := h1.2
          have w1 : 0 ≤ fn := hwf.1.1
          have w2 : fn < 18446744073709551616 := hwf.1.2
          have w3 : fs ≤ 9223372036854775807 := hwf.2.1.2
          have w4 : fe ≤ 9223372036854775807 := hwf.2.2.1.2
          have w5 : 0 ≤ fq := hwf.2.2.2.1
          have w6 : fq < 18446744073709551616 := hwf.2.2.2.2
          obtain ⟨p1, rfl⟩ : ∃ n : Nat, lev = (n : Int) := ⟨lev.toNat, by omega⟩
          obtain ⟨p2, rfl⟩ : ∃ n : Nat, fn = (n : Int) := ⟨fn.toNat, by omega⟩
          obtain ⟨p3, rfl⟩ : ∃ n : Nat, fs = (n : Int) := ⟨fs.toNat, by omega⟩
          obtain ⟨p4, rfl⟩ : ∃ n : Nat, fe = (n : Int) := ⟨fe.toNat, by omega⟩
          obtain ⟨p5, rfl⟩ : ∃ n : Nat, fq = (n : Int) := ⟨fq.toNat, by omega⟩
          have HD : Hid (encA ((p1 : Int), ⟨(p2 : Int), (p3 : Int), fl, fm, (p4 : Int), (p5 : Int)⟩) = encNs [p1, p2, p3, p4, p5] ++ encP fl ++ encP fm) := by show _ = _; unfold encA; simp only [Int.toNat_natCast]
          have l1 : p1 ≤ 9223372036854775807 := by omega
          have l2 : p2 < 18446744073709551616 := by omega
          have l3 : p3 ≤ 9223372036854775807 := by omega
          have l4 : p4 ≤ 9223372036854775807 := by omega
          have l5 : p5 < 18446744073709551616 := by omega
          have d0 : wr.cell? ⟨bd, od + q * 7, none⟩ = some (.int .i64 (p1 : Int)) := d0
          have d1 : wr.cell? ⟨bd, od + q * 7 + 1, none⟩ = some (.int .u64 (p2 : Int)) := d1
          have d2 : wr.cell? ⟨bd, od + q * 7 + 2, none⟩ = some (.int .i64 (p3 : Int)) := d2
          have d3 : wr.cell? ⟨bd, od + q * 7 + 3, none⟩ = some (.slice la fl.length lc) := d3
          have d4 : wr.cell? ⟨bd, od + q * 7 + 4, none⟩ = some (.slice ma fm.length mc) := d4
          have d5 : wr.cell? ⟨bd, od + q * 7 + 5, none⟩ = some (.int .i64 (p4 : Int)) := d5
          have d6 : wr.cell? ⟨bd, od + q * 7 + 6, none⟩ = some (.int .u64 (p5 : Int)) := d6
          have HPL2 : Hid (fl.length ≤ 1048576 ∧ fm.length ≤ 1048576) := ⟨by omega, by omega⟩
          have HKL : Hid (fl.length ≤ 10000 ∧ fm.length ≤ 10000) := HKL.out
          clear e2 hcd hcell haa g1 g2 hwf h1 hF hql k0 k1 k2 k3 k4 w0 w1 w2 w3 w4 w5 w6
          go_upto_region 17 with fail
          clear d0 d1 d2 d3 d4 d5 d6
          refine wp_gen fun w8 hw8 => ?_
          have hb8 : Below wr.heap.size wr w8 := by rw [hw8]; exact below_two _ _ _
          have HA8 : Hid (Blk w8 wr.heap.size (addCells (p1 : Int) ⟨(p2 : Int), (p3 : Int), fl, fm, (p4 : Int), (p5 : Int)⟩ (.slice la fl.length lc) (.slice ma fm.length mc)).toArray 104) := by rw [hw8]; exact (Blk.at_new rfl rfl).alloc _
          have HF8 : Hid (Blk w8 (wr.heap.size + 1) (filCells ⟨(p2 : Int), (p3 : Int), fl, fm, (p4 : Int), (p5 : Int)⟩ (.slice la fl.length lc) (.slice ma fm.length mc)).toArray 42) := by rw [hw8]; exact blk_two _ _ _ _
          have HO8 := Lib.hid (HO.out.below hb8)
          have HG18 := Lib.hid (HG1.out.below hb8)
          have HG28 := Lib.hid (HG2.out.below hb8)
          have HBS : Hid (B ≤ wr.heap.size) := by show _ ≤ _; rw [← HBB.out]; exact HB.out.size
          have HB8 : Hid (Below B w4 w8) := HB.out.trans (hb8.mono HBS.out)
          have HOW : Hid (∀ j, (Value.slice ra rn rc).ownBlock = some j → j < wr.heap.size) := fun j e0 => (World.ownsRow.lt HO.out _ e0).2
          clear hw8 hb8 HO HB HG1 HG2
          obtain ⟨ab, hab⟩ : ∃ x, wr.heap.size = x := ⟨_, rfl⟩
          obtain ⟨fb, hfb⟩ : ∃ x, wr.heap.size + 1 = x := ⟨_, rfl⟩
          have HAF : Hid (ab < fb) := by show _ < _; omega
          rw [hfb] at HF8 ⊢
          rw [hab] at HA8 HBS HOW ⊢
          clear hab hfb
          have x0 : w8.cell? ⟨ab, 0, none⟩ = some (.int .i64 (p1 : Int)) := HA8.out.cell rfl
          have d0 : w8.cell? ⟨fb, 0, none⟩ = some (.int .u64 (p2 : Int)) := HF8.out.cell rfl
          have d1 : w8.cell? ⟨fb, 1, none⟩ = some (.int .i64 (p3 : Int)) := HF8.out.cell rfl
          have d4 : w8.cell? ⟨fb, 4, none⟩ = some (.int .i64 (p4 : Int)) := HF8.out.cell rfl
          have d5 : w8.cell? ⟨fb, 5, none⟩ = some (.int .u64 (p5 : Int)) := HF8.out.cell rfl
          go_wp2_with fail
          clear x0 d0 d1 d4 d5
          refine calls_gen fun w9 hw9 => ?_
          have hb9 : Below w8.heap.size w8 w9 := by rw [hw9]; exact (Below.refl _ _).alloc (Nat.le_refl _) _
          have HK9 : Hid (Blk w9 w8.heap.size (nCells [p1, p2, p3, p4, p5]).toArray 23) := by rw [hw9]; exact Blk.at_new rfl rfl
          have HO9 := Lib.hid (HO8.out.below hb9)
          have HF9 := Lib.hid (HF8.out.below hb9 HF8.out.lt)
          have HG19 := Lib.hid (HG18.out.below hb9)
          have HG29 := Lib.hid (HG28.out.below hb9)
          have HB8S : Hid (B ≤ w8.heap.size) := by show _ ≤ _; rw [← HBB.out]; exact HB8.out.size
          have HB9 : Hid (Below B w4 w9) := HB8.out.trans (hb9.mono HB8S.out)
          have HB9S : Hid (B ≤ w9.heap.size) := by show _ ≤ _; rw [← HBB.out]; exact HB9.out.size
          have HOW9 : Hid ((Value.slice ra rn rc).ownBlock ≠ some w8.heap.size) := fun e0 => by have := HOW.out _ e0; have := HA8.out.lt; omega
          clear hw9 hb9 HO8 HB8 HF8 HG18 HG28 HA8
          have HNN : Hid (∀ n ∈ [p1, p2, p3, p4, p5], n < 18446744073709551616) := fun n hn => by
            simp only [List.mem_cons, List.not_mem_nil, or_false] at hn
            rcases hn with rfl | rfl | rfl | rfl | rfl <;> omega
          have HN50 : Hid ((encNs [p1, p2, p3, p4, p5]).length ≤ 50) := encNs_len HNN.out
          have HLN : Hid ((PRE ++ encAs (e.adds.take q)).length ≤ 70000000) := by
            show _ ≤ _
            have h1 := HPL.out
            have h2 := HAL.out
            rw [List.length_take] at h2
            rw [List.length_append]
            omega
          refine Calls.mono (numbers_any B _ _ [p1, p2, p3, p4, p5] w8.heap.size _ w9 HO9.out HK9.out HOW9.out HB9S.out HNN.out (Nat.le_trans HLN.out (by decide)) (by show 5 ≤ 100; decide)) ?_
          rintro _ w10 ⟨r, rfl, ho, hg⟩
          have HO10 := Lib.hid ho
          have HB10 : Hid (Below B w4 w10) := HB9.out.trans (hg.below HB9S.out fun j e0 => (World.ownsRow.lt HO9.out j e0).1)
          have HB10S : Hid (B ≤ w10.heap.size) := by show _ ≤ _; rw [← HBB.out]; exact HB10.out.size
          have HF10 := Lib.hid (HF9.out.same (hg.grown.block fb HF9.out.lt fun e0 => by have := HOW.out fb e0.symm; have := HAF.out; omega))
          have HG110 : Hid (Bytes (fun k => k < w.heap.size) w10 _ fl) := HG19.out.keep fun k hkl hk => hg.grown.block k hkl fun e0 => by have := (World.ownsRow.lt HO9.out k e0.symm).1; have := HWS.out; omega
          have HG210 : Hid (Bytes (fun k => k < w.heap.size) w10 _ fm) := HG29.out.keep fun k hkl hk => hg.grown.block k hkl fun e0 => by have := (World.ownsRow.lt HO9.out k e0.symm).1; have := HWS.out; omega
          have HOW10 : Hid (∀ va vn vc, r = .slice va vn vc → (Value.slice va vn vc).ownBlock ≠ some fb) := fun va vn vc hr e0 => by
            subst hr
            rcases hg.own fb e0 with h1 | h1
            · have := HOW.out fb h1; have := HAF.out; omega
            · have := HF9.out.lt; omega
          obtain ⟨va, vn, vc, rfl⟩ := ho.isSlice
          have HOW10 := Lib.hid (HOW10.out _ _ _ rfl)
          clear ho hg HO9 HB9 HK9 HNN HOW9 HG19 HG29 HF9 HOW
          have d2 : w10.cell? ⟨fb, 2, none⟩ = some (.slice la fl.length lc) := HF10.out.cell rfl
          go_wp2_with fail
          clear d2
          have HL10 : Hid ((PRE ++ encAs (e.adds.take q) ++ encNs [p1, p2, p3, p4, p5]).length ≤ 70000050) := by show _ ≤ _; rw [List.length_append]; have := HLN.out; have := HN50.out; omega
          refine Calls.mono (wpiece_any B (fun k => k < w.heap.size) _ _ _ fl w10 HO10.out HG110.out (fun k hk => Nat.lt_of_lt_of_le hk HWS.out) (Nat.le_trans HL10.out (by decide)) HPL2.out.1 HB10S.out) ?_
          rintro _ w11 ⟨r, rfl, ho, hg⟩
          have HO11 := Lib.hid ho
          have HB11 : Hid (Below B w4 w11) := HB10.out.trans (hg.below HB10S.out fun j e0 => (World.ownsRow.lt HO10.out j e0).1)
          have HB11S : Hid (B ≤ w11.heap.size) := by show _ ≤ _; rw [← HBB.out]; exact HB11.out.size
          have HF11 := Lib.hid (HF10.out.same (hg.grown.block fb HF10.out.lt fun e0 => HOW10.out e0.symm))
          have HG211 : Hid (Bytes (fun k => k < w.heap.size) w11 _ fm) := HG210.out.keep fun k hkl hk => hg.grown.block k hkl fun e0 => by have := (World.ownsRow.lt HO10.out k e0.symm).1; have := HWS.out; omega
          obtain ⟨va, vn, vc, rfl⟩ := ho.isSlice
          clear ho hg HO10 HB10 HF10 HG110 HG210 HOW10
          have d3 : w11.cell? ⟨fb, 3, none⟩ = some (.slice ma fm.length mc) := HF11.out.cell rfl
          go_wp2_with fail
          clear d3
          have HL11 : Hid ((PRE ++ encAs (e.adds.take q) ++ encNs [p1, p2, p3, p4, p5] ++ encP fl).length ≤ 70010060) := by
            show _ ≤ _
            have h1 := encN_ten (x := fl.length) (by have := HKL.out.1; omega)
            have h2 := HL10.out
            have h3 := HKL.out.1
            have h4 : (encP fl).length = (encN fl.length).length + fl.length := by unfold encP; rw [List.length_append]
            rw [List.length_append]
            omega
          refine Calls.mono (wpiece_any B (fun k => k < w.heap.size) _ _ _ fm w11 HO11.out HG211.out (fun k hk => Nat.lt_of_lt_of_le hk HWS.out) (Nat.le_trans HL11.out (by decide)) HPL2.out.2 HB11S.out) ?_
          rintro _ w12 ⟨r, rfl, ho, hg⟩
          have HO12 : Hid (Owned B w12 r (PRE ++ encAs (e.adds.take (q + 1)))) := by
            show Owned _ _ _ _
            rw [← HMO.out, HD.out]
            have h1 := ho
            simp only [List.append_assoc] at h1 ⊢
            exact h1
          have HB12 : Hid (Below B w4 w12) := HB11.out.trans (hg.below HB11S.out fun j e0 => (World.ownsRow.lt HO11.out j e0).1)
          obtain ⟨va, vn, vc, rfl⟩ := ho.isSlice
          clear ho hg HO11 HB11 HF11 HG211
          go_wp2_with fail
          go_roundw
          · exact ⟨q + 1, _, rfl, by go_num, by omega, HO12.out, HB12.out⟩
          · simp only [intOf]; omega
        · have t1 : ¬ (q : Int) < (na : Int) := by omega
          obtain rfl : q = na := by omega
          have HOE : Hid (Owned B wr (.slice ra rn rc) (encE e)) := by
            have h1 := HO.out
            rw [List.take_of_length_le (by rw [HNA.out]; exact Nat.le_refl _), ← HPRE.out] at h1
            exact h1
          have HBE : Hid (Below w.heap.size w wr) := HW4.out.trans (HB.out.mono HWS.out)
          clear HO
          go_wp2_with fail
          go_ret2
          exact appPost_ok HF.out (HOE.out.base HWS.out) HBE.out
end Go.Proofs.Ytkcohhldmhdcfaa
