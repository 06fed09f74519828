/- The law SkipScript: its walk. -/
import Derived.Test.YtdjjkdhhjdafmaaScT
import Derived.Test.YtdjjkdhhjdafmaaSkAct
import Derived.Test.YtdjjkdhhjdafmaaSkAll
import Derived.Test.YtdjjkdhhjdafmaaSkLives
namespace Go.Proofs.Ytdjjkdhhjdafmaa
open Go.RowKit

/-- The cells that a round's insertions read. -/
theorem sc_cells {n6 n7 z : Nat} {w8 w' : World} {a : SAct} {kv vv va ok ov : Value} {T T' : TypeId} (h7 : Blk w8 n7 (entCells a.e ok ov).toArray T) (h6 : Blk w8 n6 (sactCells a kv vv va).toArray T') (hz : n6 ≤ n7 ∧ n6 < z ∧ n7 < z)
    (hs : ∀ g, n6 ≤ g → g < z → w'.heap[g]? = w8.heap[g]?) :
    (w'.cell? ⟨n7, 0, none⟩ = some ok ∧ w'.cell? ⟨n7, 1, none⟩ = some (.int .u64 a.e.seq) ∧ w'.cell? ⟨n7, 2, none⟩ = some (.int .i64 a.e.kind) ∧ w'.cell? ⟨n7, 3, none⟩ = some ov) ∧
      (w'.cell? ⟨n6, 0, none⟩ = some kv ∧ w'.cell? ⟨n6, 1, none⟩ = some (.int .u64 a.e.seq) ∧ w'.cell? ⟨n6, 2, none⟩ = some (.int .i64 a.e.kind) ∧ w'.cell? ⟨n6, 3, none⟩ = some vv ∧ w'.cell? ⟨n6, 4, none⟩ = some (.int .i64 a.height)) := by
  have g7 := h7.same (hs n7 hz.1 hz.2.2)
  have g6 := h6.same (hs n6 (Nat.le_refl _) hz.2.1)
  exact ⟨⟨g7.cell rfl, g7.cell rfl, g7.cell rfl, g7.cell rfl⟩, g6.cell rfl, g6.cell rfl, g6.cell rfl, g6.cell rfl, g6.cell rfl⟩

set_option maxRecDepth 100000 in
set_option maxHeartbeats 8000000 in
theorem skipScript_any (w : World) (vl : Value) (l : List SAct) (hl : Rw sactK (· < w.heap.size) w vl l) (hq : ∀ a ∈ l, SAct.near a) :
    Calls Try.prog 5 #[vl] w fun x w' => x = .returned (.bool true) ∧ Below w.heap.size w w' := by
  obtain ⟨la, lc, rfl⟩ := hl.isSlice
  have HL := Lib.hid hl
  have HQ : Hid (∀ a ∈ l, a.e.key.length ≤ 140737488355328 ∧ a.e.value.length ≤ 140737488355328 ∧ a.key.length ≤ 140737488355328) := fun a ha => by
    have := hq a ha
    simp only [SAct.near, Ent.near, reachBytes] at this
    omega
  have hll := hl.len
  simp only [maxLen] at hll
  clear hl hq
  go_enter Try.func5, Try.ntmps5
  go_wp2_with fail
  refine Calls.mono (skLives_any w) ?_
  rintro _ w1 ⟨rfl, hb1⟩
  have HW1 := Lib.hid hb1
  clear hb1
  go_wp2_with fail
  refine Calls.mono (small7_any _ (.slice la l.length lc) l w1 (HL.out.low HW1.out) HQ.out) ?_
  rintro _ w2 ⟨sb, rfl, hsb, hn2⟩
  have HW2 : Hid (Below w.heap.size w w2) := HW1.out.trans ((below_drewN hn2).mono HW1.out.size)
  clear hn2 HW1
  cases sb with
  | false =>
    go_wp2_with fail
    go_ret
    exact ⟨rfl, HW2.out⟩
  | true =>
    have HSB := Lib.hid (hsb rfl)
    have hl120 := (hsb rfl).1
    clear hsb
    go_wp2_with fail
    refine Calls.mono (skNew_e w2) ?_
    rintro _ w3 ⟨b, hd, rfl, hs3, hb3, he3⟩
    have HS3 := Lib.hid hs3
    have HB3 := Lib.hid hb3
    have HE3 := Lib.hid he3
    clear hs3 hb3 he3
    go_wp2_with fail
    refine Calls.mono (rfNew_any w3) ?_
    rintro _ w4 ⟨rfl, hr4, hb4⟩
    have HD0 : Hid (Du w2.heap.size (fun k => w4.heap.size ≤ k) (fun _ => False) b w3.heap.size hd [] [] [] w4) := Du.start HS3.out HE3.out HB3.out hr4 hb4
    have HW4 : Hid (Below w.heap.size w w4) := (HW2.out.trans (HB3.out.mono HW2.out.size)).trans (hb4.mono (Nat.le_trans HW2.out.size HB3.out.size))
    have HBB : Hid (w.heap.size ≤ w2.heap.size) := HW2.out.size
    clear hr4 hb4 HS3 HB3 HE3 HW2
    generalize w3.heap.size = rb at *
    go_wp2_with fail
    go_loopw [5] (fun iv wr => ∃ (j : Nat) (ts : List Tw) (p q : Nat → Prop), iv = .int .i64 (j : Int) ∧ j ≤ l.length ∧ Hid (Du w2.heap.size p q b rb hd ts (ents ts) (highs ts) wr) ∧ Hid (Fine ts) ∧ ts.length ≤ j ∧ Hid (Below w.heap.size w wr)) (fun iv _ => l.length - (intOf iv).toNat)
    case atStart => exact ⟨0, [], _, _, rfl, by omega, HD0, (fun _ h => by cases h), by simp, HW4⟩
    case round =>
      clear HD0 HW4
      obtain ⟨j, ts, p, q, rfl, hj, HD, HF, htl, HB⟩ := hrel
      by_cases hlt : j < l.length
      · have hjl : (j : Int) < (l.length : Int) := by omega
        obtain ⟨bl, ol, cl, e1, hbl, hcs⟩ := sacts_at (HL.out.low HB.out) (by omega)
        injection e1 with e1 _ e3
        subst e1 e3
        obtain ⟨vk, vv, va, hk, hv, ha, hh, c0, c1, c2, c3, c4, c5, c6, c7⟩ := hcs j hlt
        obtain ⟨ka, kc, rfl⟩ := hk.isSlice
        obtain ⟨va', vc, rfl⟩ := hv.isSlice
        obtain ⟨aa, ac, rfl⟩ := ha.isSlice
        have HK := Lib.hid hk
        have HV := Lib.hid hv
        have HA := Lib.hid ha
        have HQJ := Lib.hid (HQ.out l[j] (List.getElem_mem hlt))
        have HHJ := Lib.hid hh
        clear hcs hk hv ha hbl hh
        generalize l[j] = a at *
        go_upto_region 10 with fail
        refine wp_gen fun w5 hw5 => ?_
        have HB5 : Hid (Below wr.heap.size wr w5) := by rw [hw5]; exact (Below.refl _ _).alloc (Nat.le_refl _) _
        have HT5 : Hid (Blk w5 wr.heap.size (sactCells a (.slice ka a.e.key.length kc) (.slice va' a.e.value.length vc) (.slice aa a.key.length ac)).toArray 52) := by rw [hw5]; exact Blk.at_new rfl rfl
        clear hw5 c0 c1 c2 c3 c4 c5 c6 c7
        have k0 : w5.cell? ⟨wr.heap.size, 0, none⟩ = some (.slice ka a.e.key.length kc) := HT5.out.cell rfl
        have k1 : w5.cell? ⟨wr.heap.size, 1, none⟩ = some (.int .u64 a.e.seq) := HT5.out.cell rfl
        have k2 : w5.cell? ⟨wr.heap.size, 2, none⟩ = some (.int .i64 a.e.kind) := HT5.out.cell rfl
        have k3 : w5.cell? ⟨wr.heap.size, 3, none⟩ = some (.slice va' a.e.value.length vc) := HT5.out.cell rfl
        go_wp2_with fail
        refine calls_gen fun w6 hw6 => ?_
        have HB6 : Hid (Below w5.heap.size w5 w6) := by rw [hw6]; exact (Below.refl _ _).alloc (Nat.le_refl _) _
        have HE6 : Hid (Blk w6 w5.heap.size (entCells a.e (.slice ka a.e.key.length kc) (.slice va' a.e.value.length vc)).toArray 34) := by rw [hw6]; exact Blk.at_new rfl rfl
        have HB56 : Hid (Below wr.heap.size wr w6) := HB5.out.trans (HB6.out.mono HB5.out.size)
        clear hw6 k0 k1 k2 k3
        refine Calls.mono (ownEntries_any (fun _ => True) _ [a.e] w6 (rw_one HE6.out ⟨_, _, rfl, (HK.out.below HB56.out).mono fun _ _ _ => trivial, (HV.out.below HB56.out).mono fun _ _ _ => trivial⟩ trivial) (by simp) (by simpa using ⟨HQJ.out.1, HQJ.out.2.1⟩)) ?_
        rintro _ w7 ⟨v7, rfl, hr7, hb7⟩
        obtain ⟨eb, eo, ec, vk7, vv7, rfl, _, _, ⟨base, ho, hof⟩, hv7, c0, c1, c2, c3⟩ := own_one hr7
        obtain ⟨oka, okc, rfl⟩ := ho.bytes.isSlice
        obtain ⟨ova, ovc, rfl⟩ := hv7.isSlice
        have HB7 : Hid (Below wr.heap.size wr w7) := HB56.out.trans (hb7.mono HB56.out.size)
        have HT7 : Hid (Blk w7 wr.heap.size (sactCells a (.slice ka a.e.key.length kc) (.slice va' a.e.value.length vc) (.slice aa a.key.length ac)).toArray 52) := by
          have h1 := HT5.out.below HB6.out HT5.out.lt
          exact h1.below hb7 h1.lt
        have HO7 := Lib.hid ho
        have HOF8 : Hid (∀ k, (Value.slice oka a.e.key.length okc).ownBlock = some k → wr.heap.size < k ∧ k < w7.heap.size) := fun k e => ⟨Nat.lt_of_lt_of_le (Nat.lt_of_lt_of_le HT5.out.lt HB6.out.size) (hof k e), (World.ownsRow.lt ho k e).2⟩
        have HV7 : Hid (Bytes (fun k => wr.heap.size ≤ k) w7 (.slice ova a.e.value.length ovc) a.e.value) := hv7.mono fun k _ h => Nat.le_trans HB56.out.size h
        clear hr7 hb7 ho hof hv7 HB5 HB6 HE6 HB56 HT5
        go_upto_if 51 with fail
        refine wp_gen fun w8 hw8 => ?_
        have HX8 : Hid (Below w7.heap.size w7 w8) := by rw [hw8]; exact (Below.refl _ _).alloc (Nat.le_refl _) _
        have HE8 : Hid (Blk w8 w7.heap.size (entCells a.e (.slice oka a.e.key.length okc) (.slice ova a.e.value.length ovc)).toArray 34) := by rw [hw8]; exact Blk.at_new rfl rfl
        clear hw8 c0 c1 c2 c3
        have HT8 : Hid (Blk w8 wr.heap.size (sactCells a (.slice ka a.e.key.length kc) (.slice va' a.e.value.length vc) (.slice aa a.key.length ac)).toArray 52) := HT7.out.below HX8.out HT7.out.lt
        have HB8 : Hid (Below wr.heap.size wr w8) := HB7.out.trans (HX8.out.mono HB7.out.size)
        have HO8 : Hid (Owned base w8 (.slice oka a.e.key.length okc) a.e.key) := HO7.out.below HX8.out
        have HV8 : Hid (Bytes (fun k => wr.heap.size ≤ k) w8 (.slice ova a.e.value.length ovc) a.e.value) := HV7.out.below HX8.out
        have HZ8 : Hid (wr.heap.size ≤ w7.heap.size ∧ wr.heap.size < w8.heap.size ∧ w7.heap.size < w8.heap.size) := ⟨Nat.le_of_lt HT7.out.lt, HT8.out.lt, HE8.out.lt⟩
        have hts : ts.length < 1000000 := by omega
        have hkl : a.e.key.length ≤ 140737488355328 := HQJ.out.1
        have HI1 : Hid (∀ W', Below w8.heap.size w8 W' → W'.heap.size = w8.heap.size → Calls Try.prog 11 #[.pointer (some ⟨b, 0, none⟩), .agg (entCells a.e (.slice oka a.e.key.length okc) (.slice ova a.e.value.length ovc)).toArray, .int .i64 a.height] W' fun x x1 =>
            ∃ (c : Nat) (ts' : List Tw), x = .returned (.int .i64 (c : Int)) ∧ InsSays a.e a.height ts c ts' ∧ Mid w.heap.size wr.heap.size w8.heap.size w2.heap.size b rb (fresh p wr.heap.size w8.heap.size) q hd ts ts' w w8 x1) := fun W' h1 h2 =>
          sc_ins1 HD.out HB8.out HB.out HBB.out hts _ _ a.e _ _ a.height HO8.out.bytes HV8.out h1 h2
        have HI2 : Hid (∀ (c : Nat) (ts' : List Tw) (x1 W' : World), InsSays a.e a.height ts c ts' → Mid w.heap.size wr.heap.size w8.heap.size w2.heap.size b rb (fresh p wr.heap.size w8.heap.size) q hd ts ts' w w8 x1 → Below x1.heap.size x1 W' → Calls Try.prog 26 #[.pointer (some ⟨rb, 0, none⟩), .agg (entCells a.e (.slice ka a.e.key.length kc) (.slice va' a.e.value.length vc)).toArray, .int .i64 a.height] W' fun x x2 =>
            x = .returned (.int .i64 (c : Int)) ∧ (∃ q', Aft w.heap.size wr.heap.size w8.heap.size w2.heap.size b rb (fresh p wr.heap.size w8.heap.size) q' hd ts' w x2) ∧ ∀ g, wr.heap.size ≤ g → g < w8.heap.size → x2.heap[g]? = w8.heap[g]?) := fun c ts' x1 W' h1 h2 h3 =>
          sc_ins2 HD.out HBB.out hts h1 h2 _ _ HB.out HK.out HV.out h3
        clear HT7 HB7 HO7 HV7 HX8 HQJ HB8 HV8
        generalize fresh p wr.heap.size w8.heap.size = P at *
        generalize wr.heap.size = n6 at *
        generalize w7.heap.size = n7 at *
        go_cut [51] from 40 to 50 (fun s wx => s = .bool false ∧ ∃ (c : Nat) (ts' : List Tw) (q' : Nat → Prop), Hid (InsSays a.e a.height ts c ts') ∧ Hid (Aft w.heap.size n6 w8.heap.size w2.heap.size b rb P q' hd ts' w wx) ∧ Hid (∀ g, n6 ≤ g → g < w8.heap.size → wx.heap[g]? = w8.heap[g]?))
        case first =>
          go_region_held3 (fun w' => (w'.cell? ⟨n7, 0, none⟩ = some (.slice oka a.e.key.length okc) ∧ w'.cell? ⟨n7, 1, none⟩ = some (.int .u64 a.e.seq) ∧ w'.cell? ⟨n7, 2, none⟩ = some (.int .i64 a.e.kind) ∧ w'.cell? ⟨n7, 3, none⟩ = some (.slice ova a.e.value.length ovc)) ∧ (w'.cell? ⟨n6, 0, none⟩ = some (.slice ka a.e.key.length kc) ∧ w'.cell? ⟨n6, 1, none⟩ = some (.int .u64 a.e.seq) ∧ w'.cell? ⟨n6, 2, none⟩ = some (.int .i64 a.e.kind) ∧ w'.cell? ⟨n6, 3, none⟩ = some (.slice va' a.e.value.length vc) ∧ w'.cell? ⟨n6, 4, none⟩ = some (.int .i64 a.height)))
            (first | exact sc_cells HE8.out HT8.out HZ8.out (fun _ _ _ => rfl) | exact sc_cells HE8.out HT8.out HZ8.out hm1.same | exact sc_cells HE8.out HT8.out HZ8.out hs2)
            (first
              | (go_at_call 11; refine Calls.mono (HI1.out _ (below_drew (Below.refl _ _)) rfl) ?_; rintro _ x1 ⟨c, ts', rfl, hi1, hm1⟩; skip)
              | (go_at_call 26; refine Calls.mono (HI2.out c ts' x1 _ hi1 hm1 (Below.refl _ _)) ?_; rintro _ x2 ⟨rfl, ⟨q', ha2⟩, hs2⟩; skip))
          all_goals
            go_wp2_with fail
            go_meet
            exact ⟨rfl, c, ts', q', hi1, ha2, hs2⟩
        case rest =>
          obtain ⟨rfl, c, ts', q', HI, HAF, HSM⟩ := hcut
          have HT : Hid (Blk wc n6 (sactCells a (.slice ka a.e.key.length kc) (.slice va' a.e.value.length vc) (.slice aa a.key.length ac)).toArray 52) := HT8.out.same (HSM.out n6 (Nat.le_refl _) HZ8.out.2.1)
          have HE : Hid (Blk wc n7 (entCells a.e (.slice oka a.e.key.length okc) (.slice ova a.e.value.length ovc)).toArray 34) := HE8.out.same (HSM.out n7 HZ8.out.1 HZ8.out.2.2)
          have HO : Hid (Owned base wc (.slice oka a.e.key.length okc) a.e.key) := HO8.out.keep fun k _ e => HSM.out k (Nat.le_of_lt (HOF8.out k e).1) (Nat.lt_trans (HOF8.out k e).2 HZ8.out.2.2)
          have HAw : Hid (Bytes (· < w.heap.size) w (.slice aa a.key.length ac) a.key) := HA.out.keep fun k _ hF => (HB.out.block k hF).symm
          have HFN := Lib.hid (HF.out.ins HI.out)
          have htl' : ts'.length ≤ j + 1 := by have := HI.out.len; omega
          clear HI HSM HT8 HE8 HO8 HA HK HV HD HB HF HI1 HI2 htl hts
          go_wp2_with fail
          go_loopw [8] (fun kv wz => ∃ (k : Nat) (bs : List UInt8), kv = .int .i64 (k : Int) ∧ k ≤ a.e.key.length ∧ Hid (bs.length = a.e.key.length) ∧ Hid (Aft w.heap.size n6 w8.heap.size w2.heap.size b rb P q' hd ts' w wz) ∧ Hid (Blk wz n6 (sactCells a (.slice ka a.e.key.length kc) (.slice va' a.e.value.length vc) (.slice aa a.key.length ac)).toArray 52) ∧ Hid (Blk wz n7 (entCells a.e (.slice oka a.e.key.length okc) (.slice ova a.e.value.length ovc)).toArray 34) ∧ Hid (Owned base wz (.slice oka a.e.key.length okc) bs)) (fun kv _ => a.e.key.length - (intOf kv).toNat)
          case atStart => exact ⟨0, a.e.key, rfl, by omega, rfl, HAF, HT, HE, HO⟩
          case round =>
            obtain ⟨k, bs, rfl, hk, HBS, HAF, HT, HE, HO⟩ := hrel
            have c0 : wr.cell? ⟨n7, 0, none⟩ = some (.slice oka a.e.key.length okc) := HE.out.cell rfl
            by_cases hlt : k < a.e.key.length
            · have hjl : (k : Int) < (a.e.key.length : Int) := by omega
              obtain ⟨g, cap, e1, _, _, _⟩ := HO.out.place (by rw [HBS.out]; omega)
              injection e1 with e1 e2 e3
              subst e1 e3
              clear e2
              have k0 := HO.out.cell k (by rw [HBS.out]; exact hlt)
              have kf := HO.out.free k
              have HG : Hid (n6 < g ∧ g < n7) := HOF8.out g rfl
              have hb0 : 0 ≤ (k : Int) := by omega
              go_wp2_with fail
              go_roundw
              · exact ⟨k + 1, bs.set k 0, by go_num, by omega, by rw [List.length_set]; exact HBS.out, HAF.out.wipe (S := fun x => x = g) ((Wrote.of_below (Below.refl _ _)).setCell _ _ (.inl rfl)) (fun x hx => by have h1 := HG.out; have h2 := HZ8.out; omega), HT.out.set_other _ _ (by have h1 := HG.out; show g ≠ n6; omega), HE.out.set_other _ _ (by have h1 := HG.out; show g ≠ n7; omega), HO.out.set k 0⟩
              · simp only [intOf]; omega
            · have hjl : ¬ (k : Int) < (a.e.key.length : Int) := by omega
              go_upto_region 17 with fail
              clear HE HO HBS hjl hlt c0 hk hkl
              have HAx := Lib.hid (HAw.out.low HAF.out.low)
              obtain ⟨X, C, hg1, hg2⟩ := HAF.out.du.gets HAx.out a.at_
              obtain ⟨Y, D, hs1, hs2⟩ := HAF.out.du.seeks HAx.out a.at_
              obtain ⟨nn, S, H, T, ra, rc, hrb, hn1, hn2, hn3, hn4, hn5, hn6, hn7⟩ := HAF.out.du.nums HAx.out a.at_
              obtain ⟨xs, ys, ya, yc, hro, hf1, hf2, hal⟩ := HAF.out.du.rows HFN.out (by omega) HAx.out a.n
              have Hg1 := Lib.hid hg1
              have Hg2 := Lib.hid hg2
              have Hs1 := Lib.hid hs1
              have Hs2 := Lib.hid hs2
              have Hrb := Lib.hid hrb
              have Hn1 := Lib.hid hn1
              have Hn2 := Lib.hid hn2
              have Hn3 := Lib.hid hn3
              have Hn4 := Lib.hid hn4
              have Hn5 := Lib.hid hn5
              have Hn6 := Lib.hid hn6
              have Hn7 := Lib.hid hn7
              have Hro := Lib.hid hro
              have Hf1 := Lib.hid hf1
              have Hf2 := Lib.hid hf2
              have Hal := Lib.hid hal
              clear hg1 hg2 hs1 hs2 hrb hn1 hn2 hn3 hn4 hn5 hn6 hn7 hro hf1 hf2 hal HAx
              have HB0 : Hid (Below wr.heap.size wr wr) := Below.refl _ _
              have HT0 : Hid (Blk wr n6 (sactCells a (.slice ka a.e.key.length kc) (.slice va' a.e.value.length vc) (.slice aa a.key.length ac)).toArray 52) := HT.out
              clear HT
              have c2 : wr.cell? ⟨n6, 5, none⟩ = some (.slice aa a.key.length ac) := HT0.out.cell rfl
              have c3 : wr.cell? ⟨n6, 6, none⟩ = some (.int .u64 a.at_) := HT0.out.cell rfl
              go_wp2_with fail
              refine Calls.mono (Hg1.out _ HB0.out) ?_
              clear c2 c3
              rintro _ y1 ⟨a11, a21, m11, m21, rfl, hb1, hb2, hb3⟩
              have HK1 := Lib.hid hb1
              have HK2 := Lib.hid hb2
              have HBy : Hid (Below wr.heap.size wr y1) := HB0.out.trans (hb3.mono HB0.out.size)
              have HTy := Lib.hid (HT0.out.below' hb3)
              clear hb1 hb2 hb3 HT0 HB0
              unfold entCells
              go_upto_region 18 with fail
              refine wp_gen fun x1 hx => ?_
              have HR11 : Hid (Res x1 y1.heap.size X a11 a21 m11 m21) := by rw [hx]; exact Res.new HK1.out HK2.out
              have hb3 : Below y1.heap.size y1 x1 := by rw [hx]; exact (Below.refl _ _).alloc (Nat.le_refl _) _
              have HT1 := Lib.hid (HTy.out.below' hb3)
              have HB1 : Hid (Below wr.heap.size wr x1) := HBy.out.trans (hb3.mono HBy.out.size)
              clear hx hb3 HK1 HK2 HBy HTy
              generalize y1.heap.size = z1 at *
              have c2 : x1.cell? ⟨n6, 5, none⟩ = some (.slice aa a.key.length ac) := HT1.out.cell rfl
              have c3 : x1.cell? ⟨n6, 6, none⟩ = some (.int .u64 a.at_) := HT1.out.cell rfl
              go_wp2_with fail
              refine Calls.mono (Hg2.out _ HB1.out) ?_
              clear c2 c3
              rintro _ y2 ⟨a12, a22, m12, m22, rfl, hb1, hb2, hb3⟩
              have HK1 := Lib.hid hb1
              have HK2 := Lib.hid hb2
              have HBy : Hid (Below wr.heap.size wr y2) := HB1.out.trans (hb3.mono HB1.out.size)
              have HTy := Lib.hid (HT1.out.below' hb3)
              have HQ1 := Lib.hid (HR11.out.below hb3)
              clear hb1 hb2 hb3 HT1 HB1
              unfold entCells
              go_upto_region 19 with fail
              refine wp_gen fun x2 hx => ?_
              have HR22 : Hid (Res x2 y2.heap.size X a12 a22 m12 m22) := by rw [hx]; exact Res.new HK1.out HK2.out
              have hb3 : Below y2.heap.size y2 x2 := by rw [hx]; exact (Below.refl _ _).alloc (Nat.le_refl _) _
              have HT2 := Lib.hid (HTy.out.below' hb3)
              have HB2 : Hid (Below wr.heap.size wr x2) := HBy.out.trans (hb3.mono HBy.out.size)
              have HR12 := Lib.hid (HQ1.out.below hb3)
              clear hx hb3 HK1 HK2 HBy HTy HQ1 HR11
              generalize y2.heap.size = z2 at *
              have c2 : x2.cell? ⟨n6, 5, none⟩ = some (.slice aa a.key.length ac) := HT2.out.cell rfl
              have c3 : x2.cell? ⟨n6, 6, none⟩ = some (.int .u64 a.at_) := HT2.out.cell rfl
              go_wp2_with fail
              refine Calls.mono (Hs1.out _ HB2.out) ?_
              clear c2 c3
              rintro _ y3 ⟨a13, a23, m13, m23, rfl, hb1, hb2, hb3⟩
              have HK1 := Lib.hid hb1
              have HK2 := Lib.hid hb2
              have HBy : Hid (Below wr.heap.size wr y3) := HB2.out.trans (hb3.mono HB2.out.size)
              have HTy := Lib.hid (HT2.out.below' hb3)
              have HQ1 := Lib.hid (HR12.out.below hb3)
              have HQ2 := Lib.hid (HR22.out.below hb3)
              clear hb1 hb2 hb3 HT2 HB2
              unfold entCells
              go_upto_region 20 with fail
              refine wp_gen fun x3 hx => ?_
              have HR33 : Hid (Res x3 y3.heap.size Y a13 a23 m13 m23) := by rw [hx]; exact Res.new HK1.out HK2.out
              have hb3 : Below y3.heap.size y3 x3 := by rw [hx]; exact (Below.refl _ _).alloc (Nat.le_refl _) _
              have HT3 := Lib.hid (HTy.out.below' hb3)
              have HB3 : Hid (Below wr.heap.size wr x3) := HBy.out.trans (hb3.mono HBy.out.size)
              have HR13 := Lib.hid (HQ1.out.below hb3)
              have HR23 := Lib.hid (HQ2.out.below hb3)
              clear hx hb3 HK1 HK2 HBy HTy HQ1 HR12 HQ2 HR22
              generalize y3.heap.size = z3 at *
              have c2 : x3.cell? ⟨n6, 5, none⟩ = some (.slice aa a.key.length ac) := HT3.out.cell rfl
              have c3 : x3.cell? ⟨n6, 6, none⟩ = some (.int .u64 a.at_) := HT3.out.cell rfl
              go_wp2_with fail
              refine Calls.mono (Hs2.out _ HB3.out) ?_
              clear c2 c3
              rintro _ y4 ⟨a14, a24, m14, m24, rfl, hb1, hb2, hb3⟩
              have HK1 := Lib.hid hb1
              have HK2 := Lib.hid hb2
              have HBy : Hid (Below wr.heap.size wr y4) := HB3.out.trans (hb3.mono HB3.out.size)
              have HTy := Lib.hid (HT3.out.below' hb3)
              have HQ1 := Lib.hid (HR13.out.below hb3)
              have HQ2 := Lib.hid (HR23.out.below hb3)
              have HQ3 := Lib.hid (HR33.out.below hb3)
              clear hb1 hb2 hb3 HT3 HB3
              unfold entCells
              go_upto_if 168 with fail
              refine wp_gen fun x4 hx => ?_
              have HR44 : Hid (Res x4 y4.heap.size Y a14 a24 m14 m24) := by rw [hx]; exact Res.new HK1.out HK2.out
              have hb3 : Below y4.heap.size y4 x4 := by rw [hx]; exact (Below.refl _ _).alloc (Nat.le_refl _) _
              have HT4 := Lib.hid (HTy.out.below' hb3)
              have HB4 : Hid (Below wr.heap.size wr x4) := HBy.out.trans (hb3.mono HBy.out.size)
              have HR14 := Lib.hid (HQ1.out.below hb3)
              have HR24 := Lib.hid (HQ2.out.below hb3)
              have HR34 := Lib.hid (HQ3.out.below hb3)
              clear hx hb3 HK1 HK2 HBy HTy HQ1 HR13 HQ2 HR23 HQ3 HR33
              generalize y4.heap.size = z4 at *
              have HE1 : Hid (∀ W', Below x4.heap.size x4 W' → Calls Try.prog 18 #[(.agg #[.slice a11 X.key.length m11, .int .u64 X.seq, .int .i64 X.kind, .slice a21 X.value.length m21]), (.agg #[.slice a12 X.key.length m12, .int .u64 X.seq, .int .i64 X.kind, .slice a22 X.value.length m22])] W' fun e w' => e = .returned (.bool true) ∧ Below W'.heap.size W' w') := fun W' hb => res_same HR14.out HR24.out hb
              have HE2 : Hid (∀ W', Below x4.heap.size x4 W' → Calls Try.prog 18 #[(.agg #[.slice a13 Y.key.length m13, .int .u64 Y.seq, .int .i64 Y.kind, .slice a23 Y.value.length m23]), (.agg #[.slice a14 Y.key.length m14, .int .u64 Y.seq, .int .i64 Y.kind, .slice a24 Y.value.length m24])] W' fun e w' => e = .returned (.bool true) ∧ Below W'.heap.size W' w') := fun W' hb => res_same HR34.out HR44.out hb
              have HUP : Hid (∀ W', Below x4.heap.size x4 W' → Below wr.heap.size wr W') := fun W' hb => HB4.out.trans (hb.mono HB4.out.size)
              have HSS : Hid (∀ w', Below x4.heap.size x4 w' → ((w'.cell? ⟨z1, 0, none⟩ = some (.slice a11 X.key.length m11) ∧ w'.cell? ⟨z1, 1, none⟩ = some (.int .u64 X.seq) ∧ w'.cell? ⟨z1, 2, none⟩ = some (.int .i64 X.kind) ∧ w'.cell? ⟨z1, 3, none⟩ = some (.slice a21 X.value.length m21)) ∧ (w'.cell? ⟨z2, 0, none⟩ = some (.slice a12 X.key.length m12) ∧ w'.cell? ⟨z2, 1, none⟩ = some (.int .u64 X.seq) ∧ w'.cell? ⟨z2, 2, none⟩ = some (.int .i64 X.kind) ∧ w'.cell? ⟨z2, 3, none⟩ = some (.slice a22 X.value.length m22)) ∧ (w'.cell? ⟨z3, 0, none⟩ = some (.slice a13 Y.key.length m13) ∧ w'.cell? ⟨z3, 1, none⟩ = some (.int .u64 Y.seq) ∧ w'.cell? ⟨z3, 2, none⟩ = some (.int .i64 Y.kind) ∧ w'.cell? ⟨z3, 3, none⟩ = some (.slice a23 Y.value.length m23)) ∧ (w'.cell? ⟨z4, 0, none⟩ = some (.slice a14 Y.key.length m14) ∧ w'.cell? ⟨z4, 1, none⟩ = some (.int .u64 Y.seq) ∧ w'.cell? ⟨z4, 2, none⟩ = some (.int .i64 Y.kind) ∧ w'.cell? ⟨z4, 3, none⟩ = some (.slice a24 Y.value.length m24))) ∧ (w'.cell? ⟨n6, 5, none⟩ = some (.slice aa a.key.length ac) ∧ w'.cell? ⟨n6, 6, none⟩ = some (.int .u64 a.at_)) ∧ w'.cell? ⟨rb, 0, none⟩ = some (.slice ra nn rc)) := fun w' hb => ⟨⟨(HR14.out.below hb).cells, (HR24.out.below hb).cells, (HR34.out.below hb).cells, (HR44.out.below hb).cells⟩, ⟨(HT4.out.below' hb).cell rfl, (HT4.out.below' hb).cell rfl⟩, cell_below Hrb.out (HUP.out _ hb)⟩
              clear HR14 HR24 HR34 HR44
              go_cut [168] from 99 to 167 (fun s wx => s = .bool false ∧ Hid (Below x4.heap.size x4 wx))
              case first =>
                simp only [List.append_eq, List.cons_append, List.nil_append]
                have hbw : Below x4.heap.size x4 x4.drew := below_drew (Below.refl _ _)
                go_region_held3 (fun w' => ((w'.cell? ⟨z1, 0, none⟩ = some (.slice a11 X.key.length m11) ∧ w'.cell? ⟨z1, 1, none⟩ = some (.int .u64 X.seq) ∧ w'.cell? ⟨z1, 2, none⟩ = some (.int .i64 X.kind) ∧ w'.cell? ⟨z1, 3, none⟩ = some (.slice a21 X.value.length m21)) ∧ (w'.cell? ⟨z2, 0, none⟩ = some (.slice a12 X.key.length m12) ∧ w'.cell? ⟨z2, 1, none⟩ = some (.int .u64 X.seq) ∧ w'.cell? ⟨z2, 2, none⟩ = some (.int .i64 X.kind) ∧ w'.cell? ⟨z2, 3, none⟩ = some (.slice a22 X.value.length m22)) ∧ (w'.cell? ⟨z3, 0, none⟩ = some (.slice a13 Y.key.length m13) ∧ w'.cell? ⟨z3, 1, none⟩ = some (.int .u64 Y.seq) ∧ w'.cell? ⟨z3, 2, none⟩ = some (.int .i64 Y.kind) ∧ w'.cell? ⟨z3, 3, none⟩ = some (.slice a23 Y.value.length m23)) ∧ (w'.cell? ⟨z4, 0, none⟩ = some (.slice a14 Y.key.length m14) ∧ w'.cell? ⟨z4, 1, none⟩ = some (.int .u64 Y.seq) ∧ w'.cell? ⟨z4, 2, none⟩ = some (.int .i64 Y.kind) ∧ w'.cell? ⟨z4, 3, none⟩ = some (.slice a24 Y.value.length m24))) ∧ (w'.cell? ⟨n6, 5, none⟩ = some (.slice aa a.key.length ac) ∧ w'.cell? ⟨n6, 6, none⟩ = some (.int .u64 a.at_)) ∧ w'.cell? ⟨rb, 0, none⟩ = some (.slice ra nn rc))
                  (first | exact HSS.out _ hbw | exact HSS.out _ (Below.refl _ _))
                  (first
                    | (go_at_call 18; with_reducible refine Calls.mono (HE1.out _ hbw) ?_; rintro _ v1 ⟨rfl, hbx⟩; replace hbw := hbw.trans (hbx.mono hbw.size); clear hbx; skip)
                    | (go_at_call 18; with_reducible refine Calls.mono (HE2.out _ hbw) ?_; rintro _ v1 ⟨rfl, hbx⟩; replace hbw := hbw.trans (hbx.mono hbw.size); clear hbx; skip)
                    | (go_at_call 22; with_reducible refine Calls.mono (Hn1.out _ (HUP.out _ hbw)) ?_; rintro _ v1 hsn; obtain ⟨rfl, hbx⟩ := SayN.says hsn; replace hbw := hbw.trans (hbx.mono hbw.size); clear hbx hsn; skip)
                    | (go_at_call 14; with_reducible refine Calls.mono (Hn2.out _ (HUP.out _ hbw)) ?_; rintro _ v1 hsn; obtain ⟨rfl, hbx⟩ := SayN.says hsn; replace hbw := hbw.trans (hbx.mono hbw.size); clear hbx hsn; skip)
                    | (go_at_call 29; with_reducible refine Calls.mono (Hn3.out _ (HUP.out _ hbw)) ?_; rintro _ v1 hsn; obtain ⟨rfl, hbx⟩ := SayN.says hsn; replace hbw := hbw.trans (hbx.mono hbw.size); clear hbx hsn; skip)
                    | (go_at_call 30; with_reducible refine Calls.mono (Hn4.out _ (HUP.out _ hbw)) ?_; rintro _ v1 hsn; obtain ⟨rfl, hbx⟩ := SayN.says hsn; replace hbw := hbw.trans (hbx.mono hbw.size); clear hbx hsn; skip)
                    | (go_at_call 31; with_reducible refine Calls.mono (Hn5.out _ (HUP.out _ hbw)) ?_; rintro _ v1 hsn; obtain ⟨rfl, hbx⟩ := SayN.says hsn; replace hbw := hbw.trans (hbx.mono hbw.size); clear hbx hsn; skip)
                    | (go_at_call 19; with_reducible refine Calls.mono (Hn6.out _ (HUP.out _ hbw)) ?_; rintro _ v1 hsn; obtain ⟨rfl, hbx⟩ := SayN.says hsn; replace hbw := hbw.trans (hbx.mono hbw.size); clear hbx hsn; skip)
                    | (go_at_call 32; with_reducible refine Calls.mono (Hn7.out _ (HUP.out _ hbw)) ?_; rintro _ v1 hsn; obtain ⟨rfl, hbx⟩ := SayN.says hsn; replace hbw := hbw.trans (hbx.mono hbw.size); clear hbx hsn; skip))
                all_goals
                  go_wp2_with fail
                  go_meet
                  exact ⟨rfl, hbw⟩
              case rest =>
                obtain ⟨rfl, HB5⟩ := hcut
                have HBC : Hid (Below wr.heap.size wr wc) := HUP.out _ HB5.out
                have HSC : Hid (∀ w', Below wc.heap.size wc w' → (w'.cell? ⟨n6, 5, none⟩ = some (.slice aa a.key.length ac) ∧ w'.cell? ⟨n6, 7, none⟩ = some (.int .i64 a.n)) ∧ w'.cell? ⟨rb, 0, none⟩ = some (.slice ya ys.length yc)) := fun w' hb =>
                  ⟨⟨((HT4.out.below' HB5.out).below' hb).cell rfl, ((HT4.out.below' HB5.out).below' hb).cell rfl⟩, (Hro.out w' (HBC.out.trans (hb.mono HBC.out.size))).1⟩
                have HUC : Hid (∀ W', Below wc.heap.size wc W' → Below wr.heap.size wr W') := fun W' hb => HBC.out.trans (hb.mono HBC.out.size)
                clear HE1 HE2 HUP HSS Hn1 Hn2 Hn3 Hn4 Hn5 Hn6 Hn7 Hrb HT4 HB4 HB5
                go_upto_if 192 with fail
                go_cut [192] from 169 to 191 (fun s wx => s = .bool false ∧ Hid (Below wc.heap.size wc wx))
                case first =>
                  have hbw : Below wc.heap.size wc wc.drew := below_drew (Below.refl _ _)
                  go_region_held3 (fun w' => (w'.cell? ⟨n6, 5, none⟩ = some (.slice aa a.key.length ac) ∧ w'.cell? ⟨n6, 7, none⟩ = some (.int .i64 a.n)) ∧ w'.cell? ⟨rb, 0, none⟩ = some (.slice ya ys.length yc))
                    (first | exact HSC.out _ hbw | exact HSC.out _ (Below.refl _ _))
                    (first
                      | (go_at_call 33; with_reducible refine Calls.mono (Hf1.out _ (HUC.out _ hbw)) ?_; rintro _ v1 hse; obtain ⟨b1, d1, rfl, ⟨F1, hr1⟩, hbx⟩ := SayE.says hse; replace hbw := hbw.trans (hbx.mono hbw.size); clear hbx hse; skip)
                      | (go_at_call 34; with_reducible refine Calls.mono (Hf2.out _ (HUC.out _ hbw)) ?_; rintro _ v2 hse; obtain ⟨b2, d2, rfl, ⟨F2, hr2⟩, hbx⟩ := SayE.says hse; replace hbw := hbw.trans (hbx.mono hbw.size); replace hr1 := hr1.below hbx; clear hbx hse; skip)
                      | (go_at_call 13; refine Calls.mono (kentries_same _ _ _ _ xs _ hr1 hr2) ?_; rintro _ v3 ⟨rfl, hbx⟩; replace hbw := hbw.trans (hbx.mono hbw.size); clear hbx hr1 hr2; skip)
                      | (go_at_call 12; with_reducible refine Calls.mono (Hal.out _ (HUC.out _ hbw)) ?_; rintro _ v4 hse; obtain ⟨b3, d3, rfl, ⟨F3, hr3⟩, hbx⟩ := SayE.says hse; replace hbw := hbw.trans (hbx.mono hbw.size); obtain ⟨F4, hr4⟩ := (Hro.out _ (HUC.out _ hbw)).2; clear hbx hse; skip)
                      | (go_at_call 13; refine Calls.mono (kentries_same _ _ _ _ ys _ hr3 hr4) ?_; rintro _ v5 ⟨rfl, hbx⟩; replace hbw := hbw.trans (hbx.mono hbw.size); clear hbx hr3 hr4; skip))
                  all_goals
                    go_wp2_with fail
                    go_meet
                    exact ⟨rfl, hbw⟩
                case rest =>
                  obtain ⟨rfl, HB6⟩ := hcut
                  clear Hf1 Hf2 Hal Hro HSC
                  have HB7 : Hid (Below wr.heap.size wr wc) := HUC.out _ HB6.out
                  clear HUC HBC HB6
                  go_wp2_with fail
                  go_roundw
                  · exact ⟨j + 1, ts', P, q', by go_num, by omega, (HAF.out.below HB7.out).du, HFN, by omega, (HAF.out.below HB7.out).low⟩
                  · simp only [intOf]; omega
      · have hjl : ¬ (j : Int) < (l.length : Int) := by omega
        go_wp2_with fail
        go_ret
        exact ⟨rfl, HB.out⟩
end Go.Proofs.Ytdjjkdhhjdafmaa
