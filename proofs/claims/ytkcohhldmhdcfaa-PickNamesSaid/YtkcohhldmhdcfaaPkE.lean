/- Chapter 14: gathered. -/
import Derived.Test.YtkcohhldmhdcfaaPkD
namespace Go.Proofs.Ytkcohhldmhdcfaa
open Go.RowKit

theorem leastTo_le (l : List Fil) : ∀ k i, i < k → Ent.bcmp (leastTo l k) (fat l i).least ≤ 0
  | 0, _, h => by omega
  | k + 1, i, h => by
    have hs : Ent.bcmp (fat l k).least (fat l k).least ≤ 0 := by rw [bcmp_self]; decide
    rw [leastTo]
    by_cases hc : k = 0 ∨ Ent.bcmp (fat l k).least (leastTo l k) < 0
    · rw [if_pos hc]
      by_cases hi : i = k
      · subst hi; exact hs
      · rcases hc with hc | hc
        · omega
        · exact isCmp_bcmp.tr _ _ _ (by omega) (leastTo_le l k i (by omega))
    · rw [if_neg hc]
      by_cases hi : i = k
      · subst hi
        have h1 : ¬ Ent.bcmp (fat l i).least (leastTo l i) < 0 := fun e => hc (.inr e)
        rw [isCmp_bcmp.anti (fat l i).least (leastTo l i)]
        omega
      · exact leastTo_le l k i (by omega)
theorem mostTo_ge (l : List Fil) : ∀ k i, i < k → Ent.bcmp (fat l i).most (mostTo l k) ≤ 0
  | 0, _, h => by omega
  | k + 1, i, h => by
    have hs : Ent.bcmp (fat l k).most (fat l k).most ≤ 0 := by rw [bcmp_self]; decide
    rw [mostTo]
    by_cases hc : k = 0 ∨ 0 < Ent.bcmp (fat l k).most (mostTo l k)
    · rw [if_pos hc]
      by_cases hi : i = k
      · subst hi; exact hs
      · rcases hc with hc | hc
        · omega
        · exact isCmp_bcmp.tr _ _ _ (mostTo_ge l k i (by omega)) (by rw [isCmp_bcmp.anti (fat l k).most (mostTo l k)]; omega)
    · rw [if_neg hc]
      by_cases hi : i = k
      · subst hi
        have h1 : ¬ 0 < Ent.bcmp (fat l i).most (mostTo l i) := fun e => hc (.inr e)
        omega
      · exact mostTo_ge l k i (by omega)
theorem mem_fat {l : List Fil} {f : Fil} (h : f ∈ l) : ∃ i, i < l.length ∧ fat l i = f := by
  obtain ⟨i, hi, e⟩ := List.getElem_of_mem h
  exact ⟨i, hi, by rw [← fat_eq hi]; exact e⟩
/-- Each file overlaps the keys from the least to the greatest. -/
theorem lap_own {l : List Fil} {f : Fil} (h : f ∈ l) (hf : f.Fine) : lapB (leastOf l) (mostOf l) f = true := by
  obtain ⟨i, hi, rfl⟩ := mem_fat h
  have h1 := leastTo_le l l.length i hi
  have h2 := mostTo_ge l l.length i hi
  have h3 := hf.order
  have h4 := isCmp_bcmp.tr _ _ _ h1 h3
  have h5 := isCmp_bcmp.tr _ _ _ h3 h2
  unfold lapB leastOf mostOf
  rw [isCmp_bcmp.anti (leastTo l l.length) (fat l i).most]
  simp only [decide_eq_true h5, Bool.or_true, Bool.and_true, decide_eq_true_eq]
  omega
/-- The files of a level that overlap some. -/
def tops (L out : List Fil) : List Fil := L.filter (lapB (leastOf out) (mostOf out))
def gath (L : List Fil) : Nat → List Fil → List Fil
  | 0, out => out
  | n + 1, out => if (tops L out).length = out.length then out else gath L n (tops L out)
def gathL (L : List Fil) : List Fil := gath L L.length (L.take 1)
structure GI (L out : List Fil) : Prop where
  sub : out.Sublist L
  pos : 0 < out.length
theorem GI.tops {L out : List Fil} (h : GI L out) (hf : ∀ f ∈ L, f.Fine) : out.Sublist (tops L out) := by
  have h1 : out.filter (lapB (leastOf out) (mostOf out)) = out := List.filter_eq_self.2 fun f hm => lap_own hm (hf f (h.sub.subset hm))
  have h2 := h.sub.filter (lapB (leastOf out) (mostOf out))
  rw [h1] at h2
  exact h2
theorem GI.next {L out : List Fil} (h : GI L out) (hf : ∀ f ∈ L, f.Fine) : GI L (Go.Proofs.Ytkcohhldmhdcfaa.tops L out) := ⟨List.filter_sublist, Nat.lt_of_lt_of_le h.pos (h.tops hf).length_le⟩
theorem GI.same {L out : List Fil} (h : GI L out) (hf : ∀ f ∈ L, f.Fine) (he : (Go.Proofs.Ytkcohhldmhdcfaa.tops L out).length = out.length) : Go.Proofs.Ytkcohhldmhdcfaa.tops L out = out := ((h.tops hf).eq_of_length he.symm).symm
/-- What a round of the loop knows. -/
structure GR (L out : List Fil) : Prop where
  gi : GI L out
  fuel : ∃ n, gath L n out = gathL L ∧ L.length ≤ out.length + n
theorem GR.start {L : List Fil} (h : 0 < L.length) : GR L (L.take 1) := ⟨⟨List.take_sublist _ _, by rw [List.length_take]; omega⟩, L.length, rfl, by omega⟩
theorem GR.done {L out : List Fil} (h : GR L out) (he : (tops L out).length = out.length) : out = gathL L := by
  obtain ⟨n, e, _⟩ := h.fuel
  rw [← e]
  cases n with
  | zero => rfl
  | succ n => rw [gath, if_pos he]
theorem GR.more {L out : List Fil} (h : GR L out) (hf : ∀ f ∈ L, f.Fine) (he : ¬ (tops L out).length = out.length) : GR L (tops L out) ∧ out.length < (tops L out).length ∧ (tops L out).length ≤ L.length := by
  obtain ⟨n, e, hl⟩ := h.fuel
  have h1 := (h.gi.tops hf).length_le
  have h2 : (tops L out).length ≤ L.length := List.length_filter_le _ _
  refine ⟨⟨h.gi.next hf, ?_⟩, by omega, h2⟩
  cases n with
  | zero => omega
  | succ n => exact ⟨n, by rw [← e, gath, if_neg he], by omega⟩
theorem lapB_none (f : Fil) : lapB [] [] f = true := by
  unfold lapB
  have : Ent.bcmp f.most [] = 0 ∨ Ent.bcmp f.most [] = 1 := by
    unfold Ent.bcmp
    have : Op.bytesLess f.most [] = false := by cases f.most <;> rfl
    rw [this]
    simp only [Bool.false_eq_true, if_false]
    split
    · exact .inr rfl
    · exact .inl rfl
  rcases this with h | h <;> rw [h] <;> rfl
theorem filter_all (L : List Fil) : L.filter (lapB [] []) = L := List.filter_eq_self.2 fun f _ => lapB_none f
def lenOfV : Value → Nat
  | .slice _ n _ => n
  | _ => 0

set_option maxRecDepth 100000 in
set_option maxHeartbeats 4000000 in
theorem gathered_any (F : Nat → Prop) (v : Ver) (lv : Value) (w : World) (h : Rw (rowK filK) F w lv v.levels) (hw : v.wf) (hck : chkW v = 0) (hne : 0 < (lat v.levels 0).length) :
    Calls Try.prog 55 #[.agg (verCells v lv).toArray] w fun e w' => ∃ r, e = .returned r ∧ Rw filK (fun k => w.heap.size ≤ k) w' r (gathL (lat v.levels 0)) ∧ Below w.heap.size w w' := by
  have h5 := (good_small hck).1
  have hcn := (chkW_good hck).2.2
  have HFI : Hid (∀ f ∈ lat v.levels 0, f.Fine) := (chkW_good hck).2.1.fine 0 (by omega)
  have HOV : Hid (∀ ls ms, overB v 0 ls ms = (lat v.levels 0).filter (lapB ls ms)) := fun ls ms => by unfold overB; rw [if_pos ⟨hck, by omega, by omega⟩]; rfl
  have HLL : Hid ((lat v.levels 0).length ≤ 10000) := Nat.le_trans (lev_le_cnt (by omega)) hcn
  have HCO := Lib.hid (fun w' (hb : Below w.heap.size w w') (ls ms : List UInt8) (q1 q2 : Value) (L M : Nat → Prop) (g1 : Bytes L w' q1 ls) (g2 : Bytes M w' q2 ms) => overlap_any F L M v lv 0 ls ms q1 q2 w' (h.below hb) hw (by omega) ⟨by decide, by decide⟩ g1 g2)
  obtain ⟨xa, ca, rfl⟩ := h.isSlice
  rw [h5] at HCO ⊢
  have HNE := Lib.hid hne
  clear h hw hck h5 hcn hne
  obtain ⟨L, hL⟩ : ∃ l, lat v.levels 0 = l := ⟨_, rfl⟩
  rw [hL] at HFI HOV HLL HNE ⊢
  clear hL
  unfold verCells at HCO ⊢
  go_enter Try.func55, Try.ntmps55
  go_upto_region 1 with fail
  refine wp_gen fun w1 hw1 => ?_
  have HX1 : Hid (Blk w1 w.heap.size (verCells v (.slice xa 5 ca)).toArray 25) := by rw [hw1]; exact Blk.at_new rfl rfl
  have HW1 : Hid (Below w.heap.size w w1) := by rw [hw1]; exact (Below.refl _ _).alloc (Nat.le_refl _) _
  clear hw1
  obtain ⟨xb, hxb⟩ : ∃ b, w.heap.size = b := ⟨_, rfl⟩
  rw [hxb] at HX1 ⊢
  clear hxb
  have x0 : w1.cell? ⟨xb, 0, none⟩ = some (.slice xa 5 ca) := HX1.out.cell rfl
  have x1 : w1.cell? ⟨xb, 1, none⟩ = some (.int .u64 v.next) := HX1.out.cell rfl
  have x2 : w1.cell? ⟨xb, 2, none⟩ = some (.int .u64 v.seq) := HX1.out.cell rfl
  have x3 : w1.cell? ⟨xb, 3, none⟩ = some (.int .u64 v.log) := HX1.out.cell rfl
  refine wp_scope_straight ?_
  go_wp2_with fail
  clear x0 x1 x2 x3
  refine Calls.mono (HCO.out _ HW1.out [] [] _ _ Any Any (Bytes.nil _ _) (Bytes.nil _ _)) ?_
  rintro _ w2 ⟨r0, rfl, hr, hb⟩
  rw [HOV.out, filter_all] at hr
  obtain ⟨v1, hv1, hr1⟩ := hr.slice_h (P := Try.prog) (t := 33) (by kernel_rfl) (by kernel_rfl) 1 HNE.out
  have hv1 : ∀ w', (Instr.slice 33 r0 none (some (.int .i64 1)) none).run Try.prog w' = .ok v1 w' := hv1
  obtain ⟨ra, rc, rfl⟩ := hr1.isSlice
  have HR2 : Hid (Rw filK (fun k => w.heap.size ≤ k) w2 (.slice ra (L.take 1).length rc) (L.take 1)) := hr1.mono fun k _ hk => Nat.le_trans HW1.out.size hk
  have HW2 : Hid (Below w1.heap.size w1 w2) := hb
  obtain ⟨q0, c0, rfl⟩ := hr.isSlice
  have hl1 : (L.take 1).length = 1 := by rw [List.length_take]; have := HNE.out; omega
  rw [hl1] at hv1 HR2
  clear hr hr1 hb
  go_wp2_with fail
  clear hv1
  refine wp_label ?_
  go_wp2_with fail
  go_loopw [3] (fun ov wr => ∃ (out : List Fil) (a : Option Addr) (c : Nat), ov = .slice a out.length c ∧ Hid (GR L out) ∧ Hid (Rw filK (fun k => w.heap.size ≤ k) wr (.slice a out.length c) out) ∧ Hid (Below w1.heap.size w1 wr)) (fun ov _ => L.length - lenOfV ov)
  case atStart => exact ⟨L.take 1, ra, rc, by rw [hl1], GR.start HNE.out, by rw [hl1]; exact HR2.out, HW2.out⟩
  case round =>
    obtain ⟨out, a, c, rfl, HG, HO, HB⟩ := hrel
    clear HR2 HW2 hl1
    have HTO : Hid (tops L out = L.filter (lapB (leastOf out) (mostOf out))) := rfl
    have hol : out.length ≤ 10000 := Nat.le_trans HG.out.gi.sub.length_le HLL.out
    obtain ⟨n, hn⟩ : ∃ n, out.length = n := ⟨_, rfl⟩
    have HON := Lib.hid hn
    rw [hn] at HO hol ⊢
    clear hn
    go_wp2_with fail
    refine Calls.mono (bounds_any _ (.slice a n c) out wr HO.out (by rw [HON.out]; omega)) ?_
    rintro _ w3 ⟨r1, r2, rfl, hb1, hb2, hb⟩
    obtain ⟨a1, c1, rfl⟩ := hb1.isSlice
    obtain ⟨a2, c2, rfl⟩ := hb2.isSlice
    have HB3 : Hid (Below w1.heap.size w1 w3) := HB.out.trans (hb.mono HB.out.size)
    have HO3 := Lib.hid (HO.out.below hb)
    have HL3 := Lib.hid hb1
    have HM3 := Lib.hid hb2
    obtain ⟨ls, hls⟩ : ∃ x, leastOf out = x := ⟨_, rfl⟩
    obtain ⟨ms, hms⟩ : ∃ x, mostOf out = x := ⟨_, rfl⟩
    rw [hls] at HL3 HTO ⊢
    rw [hms] at HM3 HTO ⊢
    clear hb hb1 hb2 HO HB hls hms
    have HX3 := Lib.hid (HX1.out.below HB3.out HX1.out.lt)
    have x0 : w3.cell? ⟨xb, 0, none⟩ = some (.slice xa 5 ca) := HX3.out.cell rfl
    have x1 : w3.cell? ⟨xb, 1, none⟩ = some (.int .u64 v.next) := HX3.out.cell rfl
    have x2 : w3.cell? ⟨xb, 2, none⟩ = some (.int .u64 v.seq) := HX3.out.cell rfl
    have x3 : w3.cell? ⟨xb, 3, none⟩ = some (.int .u64 v.log) := HX3.out.cell rfl
    go_wp2_with fail
    clear x0 x1 x2 x3
    refine Calls.mono (HCO.out _ (HW1.out.trans (HB3.out.mono HW1.out.size)) ls ms _ _ _ _ HL3.out HM3.out) ?_
    rintro _ w4 ⟨r4, rfl, hr4, hb⟩
    rw [HOV.out, ← HTO.out] at hr4
    obtain ⟨a4, c4, rfl⟩ := hr4.isSlice
    have HB4 : Hid (Below w1.heap.size w1 w4) := HB3.out.trans (hb.mono HB3.out.size)
    have HO4 := Lib.hid (HO3.out.below hb)
    have HL4 := Lib.hid (HL3.out.below hb)
    have HM4 := Lib.hid (HM3.out.below hb)
    have HR4 := Lib.hid hr4
    obtain ⟨more, hmore⟩ : ∃ x, tops L out = x := ⟨_, rfl⟩
    have HMO := Lib.hid hmore
    rw [hmore] at HR4 HTO ⊢
    obtain ⟨m, hm⟩ : ∃ x, more.length = x := ⟨_, rfl⟩
    have HMN := Lib.hid hm
    rw [hm] at HR4 ⊢
    clear hr4 hb hmore hm HO3 HL3 HM3 HX3 HB3
    go_wp2_with fail
    go_loopw [3, 21] (fun ov kv wr => ∃ (k : Nat), ov = .slice a n c ∧ kv = .int .i64 (k : Int) ∧ k ≤ m ∧ Hid (∀ j, j < k → j < n ∧ (fat out j).num = (fat more j).num) ∧ Hid (Below w4.heap.size w4 wr)) (fun _ kv _ => m - (intOf kv).toNat)
    case atStart => exact ⟨0, rfl, rfl, by omega, fun j hj => absurd hj (by omega), Below.refl _ _⟩
    case round =>
      obtain ⟨k, rfl, rfl, hk, HS, HB5⟩ := hrel
      have HWD : Hid (∀ n, Below w.heap.size w (wr.drewN n)) := fun n => below_dn (HW1.out.trans ((HB4.out.trans (HB5.out.mono HB4.out.size)).mono HW1.out.size)) n
      clear HWD
      by_cases hkm : k < m
      · have t6 : (k : Int) < (m : Int) := by omega
        have t7 : 0 ≤ (k : Int) := by omega
        have hkl : k < more.length := by rw [HMN.out]; exact hkm
        obtain ⟨bf, of, capf, ef, _, hbf, hcf⟩ := fils_at HR4.out (by omega)
        obtain ⟨vl, vm, hvl, hvm, _, hc6⟩ := hcf k hkl
        injection ef with e1 e2 e3
        subst e1 e3
        clear e2 hcf
        obtain ⟨f, hf⟩ : ∃ f, fat more k = f := ⟨_, rfl⟩
        have HF := Lib.hid hf
        rw [hf] at hvl hvm hc6
        obtain ⟨fa, fc, rfl⟩ := hvl.isSlice
        obtain ⟨ga2, gc2, rfl⟩ := hvm.isSlice
        obtain ⟨c0, c1, c2, c3, c4, c5⟩ := hc6.keep HB5.out hbf
        clear hvl hvm hf hc6 hkl
        go_upto_region 6 with fail
        clear c0 c1 c2 c3 c4 c5
        refine wp_gen fun w6 hw6 => ?_
        have HE6 : Hid (Blk w6 wr.heap.size (filCells f (.slice fa f.least.length fc) (.slice ga2 f.most.length gc2)).toArray 42) := by rw [hw6]; exact Blk.at_new rfl rfl
        have HB6 : Hid (Below w4.heap.size w4 w6) := by rw [hw6]; exact HB5.out.alloc HB5.out.size _
        clear hw6
        have c0 : w6.cell? ⟨wr.heap.size, 0, none⟩ = some (.int .u64 f.num) := HE6.out.cell rfl
        clear HE6 HB5
        generalize wr.heap.size = fb at *
        have HWD : Hid (∀ n, Below w.heap.size w (w6.drewN n)) := fun n => below_dn (HW1.out.trans ((HB4.out.trans (HB6.out.mono HB4.out.size)).mono HW1.out.size)) n
        by_cases hkn : k < n
        · have t8 : (k : Int) < (n : Int) := by omega
          have t9 : ¬ (n : Int) ≤ (k : Int) := by omega
          have hko : k < out.length := by rw [HON.out]; exact hkn
          obtain ⟨bo, oo, capo, eo, _, hbo, hco⟩ := fils_at HO4.out (by omega)
          obtain ⟨_, _, _, _, _, ho6⟩ := hco k hko
          injection eo with e1 e2 e3
          subst e1 e3
          clear e2 hco
          obtain ⟨p, hp⟩ : ∃ p, fat out k = p := ⟨_, rfl⟩
          have HP := Lib.hid hp
          rw [hp] at ho6
          obtain ⟨d0, -⟩ := ho6.keep HB6.out hbo
          clear ho6 hp hko
          by_cases heq : p.num = f.num
          · have hs : Hid (∀ j, j < k + 1 → j < n ∧ (fat out j).num = (fat more j).num) := fun j hj => by
              by_cases hjk : j = k
              · subst hjk; exact ⟨hkn, by rw [HP.out, HF.out]; exact heq⟩
              · exact HS.out j (by omega)
            go_wp2_with fail
            go_quiet (fail)
            all_goals
              go_wp2_with fail
              go_roundw
              · exact ⟨k + 1, rfl, by go_num, by omega, hs.out, by first | exact HB6.out | exact below_dn HB6.out _⟩
              · simp only [intOf]; omega
          · have HD : Hid (¬ m = n) := fun e => by
              have h1 := HG.out.gi.same HFI.out (by rw [HMO.out, HMN.out, HON.out]; exact e)
              rw [HMO.out] at h1
              rw [← HP.out, ← HF.out, h1] at heq
              exact heq rfl
            have heq2 : (p.num == f.num) = false := by simpa using heq
            have heq3 : (p.num != f.num) = true := by simpa using heq
            have HGM := Lib.hid (HG.out.more HFI.out (by rw [HMO.out, HMN.out, HON.out]; exact HD.out))
            go_wp2_with fail
            go_quiet (fail)
            all_goals
              have HX7 := Lib.hid (HX1.out.below (HB4.out.trans (HB6.out.mono HB4.out.size)) HX1.out.lt)
              have x0 : w6.cell? ⟨xb, 0, none⟩ = some (.slice xa 5 ca) := HX7.out.cell rfl
              have x1 : w6.cell? ⟨xb, 1, none⟩ = some (.int .u64 v.next) := HX7.out.cell rfl
              have x2 : w6.cell? ⟨xb, 2, none⟩ = some (.int .u64 v.seq) := HX7.out.cell rfl
              have x3 : w6.cell? ⟨xb, 3, none⟩ = some (.int .u64 v.log) := HX7.out.cell rfl
              go_wp2_with fail
              clear x0 x1 x2 x3
              refine Calls.mono (HCO.out _ (by first | exact HWD.out 0 | exact HWD.out _) ls ms _ _ _ _ (HL4.out.below (by first | exact HB6.out | exact below_dn HB6.out _)) (HM4.out.below (by first | exact HB6.out | exact below_dn HB6.out _))) ?_
              rintro _ w8 ⟨r8, rfl, hr8, hb⟩
              rw [HOV.out, ← HTO.out] at hr8
              obtain ⟨a8, c8, rfl⟩ := hr8.isSlice
              have HB8 : Hid (Below w1.heap.size w1 w8) := (HB4.out.trans (show Below w1.heap.size w4 _ from by first | exact HB6.out.mono HB4.out.size | exact below_dn (HB6.out.mono HB4.out.size) _)).trans (hb.mono (Nat.le_trans HB4.out.size HB6.out.size))
              have HR8 : Hid (Rw filK (fun k => w.heap.size ≤ k) w8 (.slice a8 more.length c8) more) := hr8.mono fun j _ hj => Nat.le_trans (Nat.le_trans HW1.out.size (Nat.le_trans HB4.out.size HB6.out.size)) hj
              clear hr8 hb
              go_wp2_with fail
              go_roundw
              · exact ⟨more, a8, c8, rfl, by rw [← HMO.out]; exact HGM.out.1, HR8.out, HB8.out⟩
              · have h1 := HGM.out.2
                rw [HMO.out, HON.out] at h1
                simp only [lenOfV]
                omega
        · have t8 : ¬ (k : Int) < (n : Int) := by omega
          have t9 : (n : Int) ≤ (k : Int) := by omega
          have HD : Hid (¬ m = n) := by show ¬ _; omega
          have HGM := Lib.hid (HG.out.more HFI.out (by rw [HMO.out, HMN.out, HON.out]; exact HD.out))
          go_wp2_with fail
          go_quiet (fail)
          all_goals
            have HX7 := Lib.hid (HX1.out.below (HB4.out.trans (HB6.out.mono HB4.out.size)) HX1.out.lt)
            have x0 : w6.cell? ⟨xb, 0, none⟩ = some (.slice xa 5 ca) := HX7.out.cell rfl
            have x1 : w6.cell? ⟨xb, 1, none⟩ = some (.int .u64 v.next) := HX7.out.cell rfl
            have x2 : w6.cell? ⟨xb, 2, none⟩ = some (.int .u64 v.seq) := HX7.out.cell rfl
            have x3 : w6.cell? ⟨xb, 3, none⟩ = some (.int .u64 v.log) := HX7.out.cell rfl
            go_wp2_with fail
            clear x0 x1 x2 x3
            refine Calls.mono (HCO.out _ (by first | exact HWD.out 0 | exact HWD.out _) ls ms _ _ _ _ (HL4.out.below (by first | exact HB6.out | exact below_dn HB6.out _)) (HM4.out.below (by first | exact HB6.out | exact below_dn HB6.out _))) ?_
            rintro _ w8 ⟨r8, rfl, hr8, hb⟩
            rw [HOV.out, ← HTO.out] at hr8
            obtain ⟨a8, c8, rfl⟩ := hr8.isSlice
            have HB8 : Hid (Below w1.heap.size w1 w8) := (HB4.out.trans (show Below w1.heap.size w4 _ from by first | exact HB6.out.mono HB4.out.size | exact below_dn (HB6.out.mono HB4.out.size) _)).trans (hb.mono (Nat.le_trans HB4.out.size HB6.out.size))
            have HR8 : Hid (Rw filK (fun k => w.heap.size ≤ k) w8 (.slice a8 more.length c8) more) := hr8.mono fun j _ hj => Nat.le_trans (Nat.le_trans HW1.out.size (Nat.le_trans HB4.out.size HB6.out.size)) hj
            clear hr8 hb
            go_wp2_with fail
            go_roundw
            · exact ⟨more, a8, c8, rfl, by rw [← HMO.out]; exact HGM.out.1, HR8.out, HB8.out⟩
            · have h1 := HGM.out.2
              rw [HMO.out, HON.out] at h1
              simp only [lenOfV]
              omega
      · have t6 : ¬ (k : Int) < (m : Int) := by omega
        have hkm' : k = m := by omega
        subst hkm'
        have HQ : Hid (out = gathL L) := HG.out.done (by
          have h1 := (HG.out.gi.tops HFI.out).length_le
          rw [HMO.out, HMN.out, HON.out] at *
          by_cases h0 : k = 0
          · omega
          · have := (HS.out (k - 1) (by omega)).1
            omega)
        have HO5 : Hid (Rw filK (fun k => w.heap.size ≤ k) wr (.slice a n c) (gathL L)) := by show Rw _ _ _ _ _; rw [← HQ.out]; exact HO4.out.below HB5.out
        have HW5 : Hid (Below w.heap.size w wr) := HW1.out.trans ((HB4.out.trans (HB5.out.mono HB4.out.size)).mono HW1.out.size)
        go_wp2_with fail
        go_ret
        exact ⟨_, rfl, HO5.out, HW5.out⟩
end Go.Proofs.Ytkcohhldmhdcfaa
