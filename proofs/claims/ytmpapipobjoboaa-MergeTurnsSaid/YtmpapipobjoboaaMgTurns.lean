/- The law MergeTurns: its walk. -/
import Derived.Test.YtmpapipobjoboaaMgCalls
import Derived.Test.YtmpapipobjoboaaOpenW
import Derived.Test.YtmpapipobjoboaaMgNil
namespace Go.Proofs.Ytmpapipobjoboaa
open Go.RowKit

/-- Rows of one's own (in blocks from A on, below B; their list in block go), while they are written over. -/
structure Zer (A B go : Nat) (rs : List (List Ent)) (w0 wr : World) : Prop where
  wrote : Wrote (fun k => A ≤ k ∧ k < B ∧ k ≠ go) w0 wr
  rows : ∀ i (hi : i < rs.length), ∃ a c, wr.cell? ⟨go, i, none⟩ = some (.slice a rs[i].length c) ∧ (0 < rs[i].length → ∃ g cs, a = some ⟨g, 0, none⟩ ∧ Blk wr g cs 29 ∧ rs[i].length * 4 ≤ cs.size ∧ A ≤ g ∧ g < B ∧ g ≠ go)
  lt : 0 < rs.length → go < wr.heap.size

theorem zer_of {A B : Nat} {w : World} {v : Value} {rs : List (List Ent)} (h : ROwnF orowK (fun k => A ≤ k) A 31 w v rs) (hB : w.heap.size ≤ B) : ∃ go, (0 < rs.length → ∃ cap, v = .slice (some ⟨go, 0, none⟩) rs.length cap) ∧ Zer A B go rs w w := by
  obtain ⟨cs, h1, h2⟩ := h
  have hcl := h2.len
  obtain ⟨h0, ⟨rfl, hn⟩ | ⟨go, cap, cur, rfl, hb, hg, hnc, hcm, hs, htk⟩⟩ := id h1
  · exact ⟨0, fun e => by omega, Wrote.of_below (Below.refl _ _), fun i hi => by omega, fun e => by omega⟩
  · have hlt : go < w.heap.size := (World.ownsRow.lt h1 go rfl).2
    refine ⟨go, fun _ => ⟨cap, rfl⟩, Wrote.of_below (Below.refl _ _), fun i hi => ?_, fun _ => hlt⟩
    obtain ⟨u, hu, base, hr, hF⟩ := h2.get i hi
    obtain ⟨a, c, rfl⟩ := hr.isSlice
    refine ⟨a, c, ?_, fun hne => ?_⟩
    · have hsz : orowK.sz = 1 := rfl
      rw [hsz] at hu hcl
      have hc0 := congrArg (fun z => z[0]?) hu
      simp at hc0
      rw [World.ownsRow.cellAt h1 i (by rw [hsz]; omega)]
      exact hc0
    · obtain ⟨cs', k1, k2⟩ := hr
      obtain ⟨_, ⟨_, hz⟩ | ⟨g, cap', cur', e1, _, hg', hn', _, hs', _⟩⟩ := k1
      · omega
      · injection e1 with e1 _ e3
        subst e1
        have hl := (Sl.of_owns ⟨by assumption, .inr ⟨g, c, cur', rfl, by assumption, hg', by omega, by omega, by rw [hs', e3], by assumption⟩⟩ : Sl _ w ownK.sz (.slice (some ⟨g, 0, none⟩) rs[i].length c) rs[i].length cs')
        obtain ⟨g1, g2⟩ := hF g rfl
        have hgl : g < w.heap.size := Blk.lt hg'
        exact ⟨g, cur', rfl, hg', by rw [hs']; exact Nat.mul_le_mul_right _ hn', g1, by omega, fun e => g2 (by rw [e]; rfl)⟩

theorem Zer.store {A B go : Nat} {rs : List (List Ent)} {w0 wr : World} (h : Zer A B go rs w0 wr) {g : Nat} {cs cs' : Array Value} (hg : Blk wr g cs 29) (hs : cs'.size = cs.size) (h1 : A ≤ g ∧ g < B ∧ g ≠ go) : Zer A B go rs w0 (wr.setRow g cs') := by
  refine ⟨h.wrote.setRow (.inl h1) _, fun i hi => ?_, fun e => by simpa [World.setRow] using h.lt e⟩
  obtain ⟨a, c, k1, k2⟩ := h.rows i hi
  refine ⟨a, c, ?_, fun hne => ?_⟩
  · rw [World.cell?_of_block (w := wr) (setRow_other wr g go _ (Ne.symm h1.2.2))]
    exact k1
  · obtain ⟨g', cs2, e1, e2, e3, e4⟩ := k2 hne
    by_cases hgg : g' = g
    · subst hgg
      have h5 : cs2 = cs := by
        unfold Blk at e2 hg
        rw [e2] at hg
        injection hg with hg
        injection hg
      exact ⟨g', cs', e1, e2.row _, by rw [hs, ← h5]; exact e3, e4⟩
    · exact ⟨g', cs2, e1, e2.row_other g _ hgg, e3, e4⟩

theorem Zer.move {A B go : Nat} {rs : List (List Ent)} {w w' : World} (h : Zer A B go rs w w) (hb : Below w.heap.size w w') : Zer A B go rs w' w' := by
  refine ⟨Wrote.of_below (Below.refl _ _), fun i hi => ?_, fun e => Nat.lt_of_lt_of_le (h.lt e) hb.size⟩
  obtain ⟨a, c, k1, k2⟩ := h.rows i hi
  refine ⟨a, c, (hb.cell (p := ⟨go, i, none⟩) (h.lt (Nat.zero_lt_of_lt hi))).trans k1, fun hne => ?_⟩
  obtain ⟨g, cs, e1, e2, e3⟩ := k2 hne
  exact ⟨g, cs, e1, e2.below hb e2.lt, e3⟩

theorem Mg.keep {B N m : Nat} {g : Option Nat} {w w' : World} {l : List Hd} {out : List Ent} (h : Mg B N m g w l out) (hm : B ≤ m) (hk : ∀ k, B ≤ k → k < N → w'.heap[k]? = w.heap[k]?) : Mg B N m g w' l out := by
  obtain ⟨⟨v, hv, hg⟩, h2, h3, h4, h5, h6⟩ := h
  refine ⟨⟨v, ⟨hv.blk.same (hk m hm h2.1), hv.own.keep fun k _ e => ?_, hv.ne, hv.nm⟩, hg⟩, h2, h3, h4, h5, h6⟩
  rcases e with e | e
  · exact hk k (hv.own.lt k e).1 (h2.2 k (by rw [← hg]; exact e))
  · exact hk k (Nat.le_of_lt e.1.1) e.1.2

/-- A merger that tells some entries, or one that is not there and tells none. -/
def MgP (B N : Nat) (g : Option Nat) (p : Option Addr) (w : World) (out : List Ent) : Prop := (∃ l, p = some ⟨B, 0, none⟩ ∧ Mg B N B g w l out) ∨ (p = none ∧ out = [])
theorem MgP.bare {B N : Nat} {g : Option Nat} {p : Option Addr} {w : World} (h : MgP B N g p w []) : Bare w (.pointer p) := by
  rcases h with ⟨l, rfl, h⟩ | ⟨rfl, _⟩
  · exact h.bare
  · exact .inl rfl
theorem MgP.keep {B N : Nat} {g : Option Nat} {p : Option Addr} {w w' : World} {out : List Ent} (h : MgP B N g p w out) (hk : ∀ k, B ≤ k → k < N → w'.heap[k]? = w.heap[k]?) : MgP B N g p w' out := by
  rcases h with ⟨l, e, h⟩ | h
  · exact .inl ⟨l, e, h.keep (Nat.le_refl _) hk⟩
  · exact .inr h
theorem MgP.cons {B N : Nat} {g : Option Nat} {p : Option Addr} {w : World} {e : Ent} {out : List Ent} (h : MgP B N g p w (e :: out)) : p = some ⟨B, 0, none⟩ ∧ ∃ l, Mg B N B g w l (e :: out) := by
  rcases h with ⟨l, e, h⟩ | ⟨_, h⟩
  · exact ⟨e, l, h⟩
  · cases h

theorem mleft_any {B N m : Nat} {g : Option Nat} {w : World} {l : List Hd} {out : List Ent} (h : Mg B N m g w l out) (hol : out.length ≤ 1000000) :
    Calls Try.prog 22 #[.pointer (some ⟨m, 0, none⟩)] w fun x w' => x = .returned (.int .i64 (out.length : Int)) ∧ Below w.heap.size w w' := by
  obtain ⟨⟨v, hv, hg⟩, h2, h3, h4, h5, h6⟩ := h
  exact left_any hv h3 h4 h5 h6 hol

theorem NewPost.mgp {F : Nat → Prop} {rs : List (List Ent)} {w w' : World} {x : Ending} (h : NewPost F rs w x w') : ∃ p g, x = .returned (.tuple #[.pointer p, .int .i64 (chkR rs)]) ∧ Below w.heap.size w w' ∧ (chkR rs = 0 → p = some ⟨w.heap.size, 0, none⟩) ∧ (chkR rs ≠ 0 → p = none) ∧ (∀ k, g = some k → w.heap.size ≤ k) ∧ w.heap.size ≤ w'.heap.size ∧ MgP w.heap.size w'.heap.size g p w' (refAll rs) := by
  obtain ⟨p, h1, h2, h3, h4⟩ := h
  by_cases hc : chkR rs = 0
  · obtain ⟨rfl, v, l, g1, g2, g3, g4, g5⟩ := h4 hc
    refine ⟨_, v.ownBlock, h1, h2, fun _ => rfl, fun e => absurd hc e, fun k e => (g1.own.lt k e).1, h2.size, .inl ⟨l, rfl, ?_⟩⟩
    have he : refAll rs = allOf rs := by unfold refAll; rw [if_pos hc]
    rw [he]
    exact Mg.of_new g1 (Nat.le_refl _) g2 g3 g4 g5
  · have := h3 hc
    subst this
    exact ⟨none, none, h1, h2, fun e => absurd e hc, fun _ => rfl, (fun k e => by cases e), h2.size, .inr ⟨rfl, by unfold refAll; rw [if_neg hc]⟩⟩

set_option maxRecDepth 100000 in
set_option maxHeartbeats 8000000 in
theorem mergeTurns_any (W : World) (vr vp : Value) (rs : List (List Ent)) (ps : List Int) (hr : Rw (rowK entK) (· < W.heap.size) W vr rs) (hn : Near rs) (hp : Rw izK (· < W.heap.size) W vp ps) :
    Calls Try.prog 4 #[vr, vp] W fun e w' => e = .returned (.bool true) ∧ Below W.heap.size W w' := by
  obtain ⟨ra, rc, rfl⟩ := hr.isSlice
  obtain ⟨pa, pc, rfl⟩ := hp.isSlice
  have HR := Lib.hid hr
  have HNE := Lib.hid hn
  have HP := Lib.hid hp
  have hpl := hp.len
  simp only [maxLen] at hpl
  clear hr hn hp
  obtain ⟨n, hm⟩ : ∃ m, rs.length = m := ⟨_, rfl⟩
  have HM := Lib.hid hm
  rw [hm] at HR
  rw [hm]
  clear hm
  obtain ⟨np, hnp⟩ : ∃ m, ps.length = m := ⟨_, rfl⟩
  have HNP := Lib.hid hnp
  rw [hnp] at HP hpl
  rw [hnp]
  clear hnp
  go_enter Try.func4, Try.ntmps4
  go_wp2_with fail
  refine Calls.mono (mlives_any _) ?_
  rintro _ w1 ⟨rfl, hb⟩
  have HW1 := Lib.hid hb
  have HR1 := Lib.hid (HR.out.below hb)
  clear hb
  go_wp2_with fail
  refine Calls.mono (small11_any _ _ rs _ HR1.out HNE.out) ?_
  rintro _ w2 ⟨b, rfl, hsm, hd⟩
  have HW2 : Hid (Below W.heap.size W w2) := HW1.out.trans ((below_drewN hd).mono HW1.out.size)
  have HSM := Lib.hid hsm
  clear hd hsm HR1 HW1
  cases b with
  | false =>
    go_wp2_with fail
    go_ret
    exact ⟨rfl, HW2.out⟩
  | true =>
    have HOK := Lib.hid ((HSM.out rfl).ok HNE.out)
    have HFEW : Hid ((refAll rs).length ≤ 100000) := by
      show _ ≤ _
      unfold refAll
      split
      · exact Nat.le_trans (allOf_len rs) HOK.out.sum
      · exact Nat.zero_le _
    have hn20 : n ≤ 20 := by rw [← HM.out]; exact (HSM.out rfl).rows
    clear HSM HNE
    go_wp2_with fail
    refine Calls.mono (own11_any _ _ rs _ (HR.out.below HW2.out) HOK.out) ?_
    rintro _ w3 ⟨v3, rfl, ho, hb⟩
    obtain ⟨o3, c3, rfl⟩ := ho.isSlice
    have HO3 := Lib.hid ho
    have HW3 : Hid (Below W.heap.size W w3) := HW2.out.trans (hb.mono HW2.out.size)
    have HZ3 : Hid (w2.heap.size ≤ w3.heap.size) := hb.size
    clear ho hb
    go_wp2_with fail
    refine Calls.mono (new_any _ _ rs _ (orowRw HO3.out.ge) HOK.out) ?_
    intro _ w4 hp
    obtain ⟨p, g, rfl, hb, hp0, hp1, hg0, hgs, hmg⟩ := hp.mgp
    have HW4 : Hid (Below W.heap.size W w4) := HW3.out.trans (hb.mono HW3.out.size)
    have HB4 := Lib.hid hb
    have HG := Lib.hid hg0
    have HMG := Lib.hid hmg
    have HP0 := Lib.hid hp0
    have HP1 := Lib.hid hp1
    clear hp hb hp0 hp1 hg0 hgs hmg
    go_wp2_with fail
    refine Calls.mono (rall_any (· < W.heap.size) _ rs _ (HR.out.below HW4.out) HOK.out) ?_
    rintro _ w5 ⟨v5, rfl, hl, hb⟩
    obtain ⟨la, lc, rfl⟩ := hl.isSlice
    have HW5 : Hid (Below W.heap.size W w5) := HW4.out.trans (hb.mono HW4.out.size)
    have HB5 := Lib.hid hb
    have HL := Lib.hid hl
    clear hl hb
    -- lent, ahead of the zeros
    obtain ⟨go, hgo, hzer⟩ := zer_of HO3.out (Nat.le_refl _)
    have HZE : Hid (Zer w2.heap.size w3.heap.size go rs w5 w5) := hzer.move (HB4.out.trans (HB5.out.mono HB4.out.size))
    have HGO : Hid (0 < n → ∃ cap, (Value.slice o3 n c3) = .slice (some ⟨go, 0, none⟩) n cap) := fun h => by
      have h5 := hgo (by rw [HM.out]; exact h)
      rw [HM.out] at h5
      exact h5
    have HAB : Hid (W.heap.size ≤ w2.heap.size ∧ w2.heap.size ≤ w3.heap.size ∧ w3.heap.size ≤ w4.heap.size ∧ w4.heap.size ≤ w5.heap.size) := ⟨HW2.out.size, HZ3.out, HB4.out.size, HB5.out.size⟩
    have HGB : Hid (∀ k, g = some k → w3.heap.size ≤ k) := HG.out
    have HMP : Hid (MgP w3.heap.size w4.heap.size g p w5 (refAll rs)) := HMG.out.keep fun k _ hk => HB5.out.block k hk
    have HL5 : Hid (Rw entK (fun k => k < W.heap.size ∨ w4.heap.size ≤ k) w5 (.slice la (refAll rs).length lc) (refAll rs)) := HL.out
    clear hgo hzer HO3 HZ3 HMG HG HL HW2 HW3 HW4 HB4 HB5
    rw [HM.out]
    generalize refAll rs = X at *
    obtain ⟨q, hq⟩ : ∃ q, X.length = q := ⟨_, rfl⟩
    have HQ := Lib.hid hq
    rw [hq] at HL5 HFEW
    have hqf : q ≤ 100000 := HFEW.out
    rw [hq]
    clear hq
    have HCO := Lib.hid (chkR_or rs)
    generalize chkR rs = ck at *
    go_upto_region 8 with fail
    go_cut [48] from 39 to 47 (fun x wx => x = .bool false ∧ w5 = wx)
    case first =>
      rcases HCO.out with rfl | rfl
      · have hp := HP0.out rfl
        subst hp
        go_wp2_with fail
        go_meet
        exact ⟨rfl, rfl⟩
      · have hp := HP1.out (by decide)
        subst hp
        go_wp2_with fail
        go_meet
        exact ⟨rfl, rfl⟩
    case rest =>
      obtain ⟨rfl, rfl⟩ := hcut
      clear HP0 HP1
      go_wp2_with fail
      go_loopw [10] (fun iv wr => ∃ (i : Nat), iv = .int .i64 (i : Int) ∧ i ≤ n ∧ Hid (Zer w2.heap.size w3.heap.size go rs w5 wr)) (fun iv _ => n - (intOf iv).toNat)
      case atStart => exact ⟨0, rfl, by omega, HZE.out⟩
      case round =>
        obtain ⟨i, rfl, hi, HZ⟩ := hrel
        by_cases hlt : i < n
        · have t1 : (i : Int) < (n : Int) := by omega
          obtain ⟨wo, rfl⟩ : ∃ wo : World, wo = wr := ⟨_, rfl⟩
          have hir : i < rs.length := by rw [HM.out]; exact hlt
          obtain ⟨cap, hcap⟩ := HGO.out (by omega)
          injection hcap with e1 e2 e3
          subst e1 e3
          clear e2
          have HIR := Lib.hid hir
          obtain ⟨ln, hln⟩ : ∃ ln, rs[i].length = ln := ⟨_, rfl⟩
          have HLN : Hid (∀ h : i < rs.length, rs[i].length = ln) := fun _ => hln
          have hlm : ln ≤ 1000000 := by rw [← hln]; exact Nat.le_trans (HOK.out.len (List.getElem_mem hir)) (by decide)
          clear hln hir
          go_wp2_with fail
          go_loopw [11] (fun kv wr => ∃ (k : Nat), kv = .int .i64 (k : Int) ∧ k ≤ ln ∧ Hid (Zer w2.heap.size w3.heap.size go rs w5 wr)) (fun kv _ => ln - (intOf kv).toNat)
          case atStart => exact ⟨0, rfl, by omega, HZ.out⟩
          case round =>
            obtain ⟨k, rfl, hk, HZk⟩ := hrel
            obtain ⟨a, c, k1, k2⟩ := HZk.out.rows i HIR.out
            rw [HLN.out HIR.out] at k1 k2
            by_cases hkl : k < ln
            · have t2 : (k : Int) < (ln : Int) := by omega
              obtain ⟨gg, cs, rfl, g2, g3, g4⟩ := k2 (by omega)
              have HG2 := Lib.hid g2
              have HG3 := Lib.hid g3
              have HG4 := Lib.hid g4
              clear k2 g2 g3 g4
              go_wp2_with (with_reducible refine pause_store ?_)
              refine Pause.go (wpList_store_agg rfl _ _ _ rfl gg (k * 4) rfl _ rfl _ _ HG2.out (by kernel_rfl) (by have := HG3.out; simp only [List.size_toArray, List.length_cons, List.length_nil]; omega) (fun u hu => by simp at hu; rcases hu with rfl | rfl | rfl | rfl <;> rfl) ?_)
              refine list_gen fun w6 hw6 => ?_
              have HZ6 : Hid (Zer w2.heap.size w3.heap.size go rs w5 w6) := by
                rw [hw6]
                exact HZk.out.store HG2.out (over_size _ _ _ (by have := HG3.out; simp only [List.length_cons, List.length_nil]; omega)) HG4.out
              clear hw6 HG2 HG3 HG4 k1
              go_wp2_with fail
              go_roundw
              · exact ⟨k + 1, by go_num, by omega, HZ6.out⟩
              · simp only [intOf]; omega
            · have t2 : ¬ (k : Int) < (ln : Int) := by omega
              clear k2
              go_wp2_with fail
              clear k1
              go_wp2_with fail
              go_roundw
              · exact ⟨i + 1, by go_num, by omega, HZk.out⟩
              · simp only [intOf]; omega
        · have t1 : ¬ (i : Int) < (n : Int) := by omega
          have HWZ : Hid (Below W.heap.size W wr) := HW5.out.trans (HZ.out.wrote.below HW5.out.size fun k hk => Nat.le_trans HAB.out.1 hk.1)
          have HMZ : Hid (MgP w3.heap.size w4.heap.size g p wr X) := HMP.out.keep fun k hk1 hk2 => HZ.out.wrote.block k (by have := HAB.out; omega) (fun e => by omega)
          have HLZ : Hid (Rw entK (fun k => k < W.heap.size ∨ w4.heap.size ≤ k) wr (.slice la q lc) X) := HL5.out.keep fun k hk hF => HZ.out.wrote.block k hk (fun e => by have := HAB.out; rcases hF with hF | hF <;> omega)
          have HSZ : Hid (w4.heap.size ≤ wr.heap.size) := Nat.le_trans HAB.out.2.2.2 HZ.out.wrote.size
          clear HZ HZE HMP HL5 HW5 HGO
          go_wp2_with fail
          obtain ⟨wo, rfl⟩ : ∃ wo : World, wo = wr := ⟨_, rfl⟩
          go_loopw [12] (fun iv wr => ∃ (i : Nat), iv = .int .i64 (i : Int) ∧ i ≤ q ∧ Hid (MgP w3.heap.size w4.heap.size g p wr (X.drop i)) ∧ Hid (Rw entK (fun k => k < W.heap.size ∨ w4.heap.size ≤ k) wr (.slice la q lc) X) ∧ Hid (Below W.heap.size W wr ∧ w4.heap.size ≤ wr.heap.size)) (fun iv _ => q - (intOf iv).toNat)
          case atStart => exact ⟨0, rfl, by omega, HMZ.out, HLZ.out, HWZ.out, HSZ.out⟩
          case round =>
            obtain ⟨i, rfl, hi, HMr, HLw, HWS⟩ := hrel
            clear HMZ HLZ HWZ HSZ
            have HWr := Lib.hid HWS.out.1
            have HSZ := Lib.hid HWS.out.2
            clear HWS
            by_cases hlt : i < q
            · have t1 : (i : Int) < (q : Int) := by omega
              have t3 : 0 ≤ (i : Int) := by omega
              have hdr : X.drop i = eat X i :: X.drop (i + 1) := eat_drop (by rw [HQ.out]; exact hlt)
              have hmr := HMr.out
              rw [hdr] at hmr
              obtain ⟨rfl, l1, hmg⟩ := hmr.cons
              obtain ⟨e, he⟩ : ∃ e, eat X i = e := ⟨_, rfl⟩
              rw [he] at hmg
              have HMg := Lib.hid hmg
              have HE := Lib.hid he
              obtain ⟨dd, hdd⟩ : ∃ dd, dd = q - i := ⟨_, rfl⟩
              have HDL : Hid ((e :: X.drop (i + 1)).length = dd) := by show _ = _; rw [List.length_cons, List.length_drop, HQ.out]; omega
              have d1 : IntKind.i64.wrap ((q : Int) - (i : Int)) = (dd : Int) := by rw [wrap_small (by omega) (by omega)]; omega
              have hdq : dd ≤ q := by omega
              clear hdr hmr hmg he HMr hdd
              go_upto_region 20 with fail
              go_cut [88] from 77 to 87 (fun x wx => (∃ bb, x = .bool bb) ∧ wr = wx)
              case first =>
                by_cases hip : i < np
                · obtain ⟨pb, po, pcap, ep, _, hcp⟩ := izs_at (HP.out.below HWr.out) (by rw [HNP.out]; omega)
                  have hip' : i < ps.length := by rw [HNP.out]; exact hip
                  obtain ⟨hc1, _⟩ := hcp i hip'
                  injection ep with ep1 ep2 ep3
                  subst ep1 ep3
                  clear ep2 hcp
                  generalize ps[i] = x at *
                  clear hip'
                  have t4 : (i : Int) < (np : Int) := by omega
                  go_wp2_with fail
                  all_goals
                    go_meet
                    exact ⟨⟨_, rfl⟩, rfl⟩
                · have t4 : ¬ (i : Int) < (np : Int) := by omega
                  go_wp2_with fail
                  go_meet
                  exact ⟨⟨_, rfl⟩, rfl⟩
              case rest =>
                obtain ⟨⟨bb, rfl⟩, rfl⟩ := hcut
                cases bb with
                | false =>
                  go_wp2_with fail
                  refine Calls.mono (mleft_any HMg.out (by rw [HDL.out]; omega)) ?_
                  rintro _ wa ⟨rfl, hb⟩
                  rw [HDL.out]
                  have HWa : Hid (Below W.heap.size W wa) := HWr.out.trans (hb.mono HWr.out.size)
                  have HMa : Hid (Mg w3.heap.size w4.heap.size w3.heap.size g wa l1 (e :: X.drop (i + 1))) := HMg.out.below (hb.mono HSZ.out)
                  have HLa := Lib.hid (HLw.out.below hb)
                  have HSa : Hid (w4.heap.size ≤ wa.heap.size) := Nat.le_trans HSZ.out hb.size
                  clear hb HMg HLw HWr HSZ
                  go_wp2_with fail
                  refine Calls.mono (mnext_any HMa.out) ?_
                  rintro _ wb ⟨k, y, l2, rfl, hk, hy, hm, hw⟩
                  obtain ⟨ka, kc, rfl⟩ := hk.isSlice
                  obtain ⟨ya, yc, rfl⟩ := hy.isSlice
                  have hlow := HMa.out.low
                  have HMb := Lib.hid hm
                  have HKb := Lib.hid hk
                  have HYb := Lib.hid hy
                  have HLb := Lib.hid (HLa.out.keep (w' := wb) fun j hj0 hj => hw.block j hj0 fun e2 => by
                    have hA := HAB.out
                    rcases e2 with e2 | e2
                    · omega
                    · have := hlow.2 j e2
                      have := HGB.out j e2
                      omega)
                  have HWb : Hid (Below W.heap.size W wb) := HWa.out.trans (hw.below HWa.out.size fun j e2 => by
                    have hA := HAB.out
                    rcases e2 with e2 | e2
                    · omega
                    · have := HGB.out j e2
                      omega)
                  have HSb : Hid (w4.heap.size ≤ wb.heap.size) := Nat.le_trans HSa.out hw.size
                  clear hk hy hm hw hlow HMa HLa HWa HSa
                  unfold entCells
                  go_upto_region 26 with fail
                  refine wp_gen fun wd hwd => ?_
                  have HBd : Hid (Below wb.heap.size wb wd) := by rw [hwd]; exact (Below.refl _ _).alloc (Nat.le_refl _) _
                  have HEd : Hid (Blk wd wb.heap.size (entCells e (.slice ka e.key.length kc) (.slice ya e.value.length yc)).toArray 29) := by rw [hwd]; exact Blk.at_new rfl rfl
                  clear hwd
                  have HMd : Hid (Mg w3.heap.size w4.heap.size w3.heap.size g wd l2 (X.drop (i + 1))) := HMb.out.below (HBd.out.mono HSb.out)
                  have HLd := Lib.hid (HLb.out.below HBd.out)
                  have HWd : Hid (Below W.heap.size W wd) := HWb.out.trans (HBd.out.mono HWb.out.size)
                  have HSd : Hid (w4.heap.size ≤ wd.heap.size) := Nat.le_trans HSb.out HBd.out.size
                  have HK1 : Hid (Bytes (fun j => wa.heap.size ≤ j) wd.drew (.slice ka e.key.length kc) e.key) := (HKb.out.below HBd.out).below (below_drew (Below.refl _ _))
                  have HV1 : Hid (Bytes (fun j => wa.heap.size ≤ j) wd.drew (.slice ya e.value.length yc) e.value) := (HYb.out.below HBd.out).below (below_drew (Below.refl _ _))
                  obtain ⟨lb, lo, capl, el, _, hlb, hcl⟩ := ents_at HLd.out (by rw [HQ.out]; omega)
                  obtain ⟨k2, v2, hk2, hv2, hc2⟩ := hcl i (by rw [HQ.out]; omega)
                  rw [eat_eq (by rw [HQ.out]; omega), HE.out] at hk2 hv2 hc2
                  injection el with el1 el2 el3
                  subst el1 el3
                  clear el2
                  obtain ⟨k2a, k2c, rfl⟩ := hk2.isSlice
                  obtain ⟨v2a, v2c, rfl⟩ := hv2.isSlice
                  have HK2 := Lib.hid (hk2.below (below_drew (Below.refl _ _)))
                  have HV2 := Lib.hid (hv2.below (below_drew (Below.refl _ _)))
                  have HD1 : Hid (C4o wb.heap.size 0 e (.slice ka e.key.length kc) (.slice ya e.value.length yc) wd.drew) := ⟨HEd.out.cell rfl, HEd.out.cell rfl, HEd.out.cell rfl, HEd.out.cell rfl⟩
                  have HD2 : Hid (C4o lb (lo + i * 4) e (.slice k2a e.key.length k2c) (.slice v2a e.value.length v2c) wd.drew) := hc2
                  have HZ1 : Hid (wb.heap.size < wd.drew.heap.size) := HEd.out.lt
                  have HZ2 : Hid (lb < wd.drew.heap.size) := hlb
                  clear hcl hk2 hv2 hc2 hlb HEd HKb HYb HMb HLb HWb HSb HBd
                  generalize wb.heap.size = zb at *
                  go_wp2_with fail
                  go_region_held3 (fun w' => (w'.cell? ⟨zb, 0, none⟩ = some (.slice ka e.key.length kc) ∧ w'.cell? ⟨zb, 1, none⟩ = some (.int .u64 e.seq) ∧ w'.cell? ⟨zb, 2, none⟩ = some (.int .i64 e.kind) ∧ w'.cell? ⟨zb, 3, none⟩ = some (.slice ya e.value.length yc)) ∧ (w'.cell? ⟨lb, lo + i * 4, none⟩ = some (.slice k2a e.key.length k2c) ∧ w'.cell? ⟨lb, lo + i * 4 + 1, none⟩ = some (.int .u64 e.seq) ∧ w'.cell? ⟨lb, lo + i * 4 + 2, none⟩ = some (.int .i64 e.kind) ∧ w'.cell? ⟨lb, lo + i * 4 + 3, none⟩ = some (.slice v2a e.value.length v2c)))
                    (first | exact ⟨HD1.out, HD2.out⟩ | exact ⟨HD1.out.keep hbx1 HZ1.out, HD2.out.keep hbx1 HZ2.out⟩)
                    (first | (go_at_call 21; refine Calls.mono (kentry_same _ _ _ _ e (.slice ka e.key.length kc) (.slice ya e.value.length yc) (.slice k2a e.key.length k2c) (.slice v2a e.value.length v2c) _ HK1.out HV1.out HK2.out HV2.out) ?_; rintro _ x1 ⟨rfl, hbx1⟩; skip))
                  have hbz : Below wd.heap.size wd x1 := below_of_drew hbx1
                  have HMz : Hid (MgP w3.heap.size w4.heap.size g (some ⟨w3.heap.size, 0, none⟩) x1 (X.drop (i + 1))) := .inl ⟨l2, rfl, HMd.out.below (hbz.mono HSd.out)⟩
                  have HLz := Lib.hid (HLd.out.below hbz)
                  have HWz : Hid (Below W.heap.size W x1 ∧ w4.heap.size ≤ x1.heap.size) := ⟨HWd.out.trans (hbz.mono HWd.out.size), Nat.le_trans HSd.out hbz.size⟩
                  clear hbx1 hbz HMd HLd HWd HSd HK1 HV1 HK2 HV2 HD1 HD2 HZ1 HZ2
                  go_wp2_with fail
                  go_roundw
                  · exact ⟨i + 1, by go_num, by omega, HMz.out, HLz.out, HWz.out⟩
                  · simp only [intOf]; omega
                | true =>
                  go_wp2_with fail
                  refine Calls.mono (mpeek_any HMg.out) ?_
                  rintro _ wp ⟨k, y, rfl, hk, hy, hb⟩
                  obtain ⟨ka, kc, rfl⟩ := hk.isSlice
                  obtain ⟨ya, yc, rfl⟩ := hy.isSlice
                  have HKp := Lib.hid hk
                  have HYp := Lib.hid hy
                  have HBp := Lib.hid hb
                  clear hk hy hb
                  unfold entCells
                  go_upto_region 22 with fail
                  refine wp_gen fun wd hwd => ?_
                  have HBd : Hid (Below wp.heap.size wp wd) := by rw [hwd]; exact (Below.refl _ _).alloc (Nat.le_refl _) _
                  have HEd : Hid (Blk wd wp.heap.size (entCells e (.slice ka e.key.length kc) (.slice ya e.value.length yc)).toArray 29) := by rw [hwd]; exact Blk.at_new rfl rfl
                  clear hwd
                  have HBz : Hid (Below wr.heap.size wr wd) := HBp.out.trans (HBd.out.mono HBp.out.size)
                  have HMg := Lib.hid (HMg.out.below (HBz.out.mono HSZ.out))
                  have HLw := Lib.hid (HLw.out.below HBz.out)
                  have HWr : Hid (Below W.heap.size W wd) := HWr.out.trans (HBz.out.mono HWr.out.size)
                  have HSZ : Hid (w4.heap.size ≤ wd.heap.size) := Nat.le_trans HSZ.out HBz.out.size
                  have HK1 : Hid (Bytes (fun j => wr.heap.size ≤ j) wd.drew (.slice ka e.key.length kc) e.key) := (HKp.out.below HBd.out).below (below_drew (Below.refl _ _))
                  have HV1 : Hid (Bytes (fun j => wr.heap.size ≤ j) wd.drew (.slice ya e.value.length yc) e.value) := (HYp.out.below HBd.out).below (below_drew (Below.refl _ _))
                  obtain ⟨lb0, lo0, capl0, el, _, hlb, hcl⟩ := ents_at HLw.out (by rw [HQ.out]; omega)
                  obtain ⟨k2, v2, hk2, hv2, hc2⟩ := hcl i (by rw [HQ.out]; omega)
                  rw [eat_eq (by rw [HQ.out]; omega), HE.out] at hk2 hv2 hc2
                  injection el with el1 el2 el3
                  subst el1 el3
                  clear el2
                  obtain ⟨k2a, k2c, rfl⟩ := hk2.isSlice
                  obtain ⟨v2a, v2c, rfl⟩ := hv2.isSlice
                  have HK2 := Lib.hid (hk2.below (below_drew (Below.refl _ _)))
                  have HV2 := Lib.hid (hv2.below (below_drew (Below.refl _ _)))
                  have HD1 : Hid (C4o wp.heap.size 0 e (.slice ka e.key.length kc) (.slice ya e.value.length yc) wd.drew) := ⟨HEd.out.cell rfl, HEd.out.cell rfl, HEd.out.cell rfl, HEd.out.cell rfl⟩
                  have HD2 : Hid (C4o lb0 (lo0 + i * 4) e (.slice k2a e.key.length k2c) (.slice v2a e.value.length v2c) wd.drew) := hc2
                  have HZ1 : Hid (wp.heap.size < wd.drew.heap.size) := HEd.out.lt
                  have HZ2 : Hid (lb0 < wd.drew.heap.size) := hlb
                  clear hcl hk2 hv2 hc2 hlb HEd HKp HYp HBp HBz HBd
                  generalize wp.heap.size = zb at *
                  go_wp2_with fail
                  go_region_held3 (fun w' => (w'.cell? ⟨zb, 0, none⟩ = some (.slice ka e.key.length kc) ∧ w'.cell? ⟨zb, 1, none⟩ = some (.int .u64 e.seq) ∧ w'.cell? ⟨zb, 2, none⟩ = some (.int .i64 e.kind) ∧ w'.cell? ⟨zb, 3, none⟩ = some (.slice ya e.value.length yc)) ∧ (w'.cell? ⟨lb0, lo0 + i * 4, none⟩ = some (.slice k2a e.key.length k2c) ∧ w'.cell? ⟨lb0, lo0 + i * 4 + 1, none⟩ = some (.int .u64 e.seq) ∧ w'.cell? ⟨lb0, lo0 + i * 4 + 2, none⟩ = some (.int .i64 e.kind) ∧ w'.cell? ⟨lb0, lo0 + i * 4 + 3, none⟩ = some (.slice v2a e.value.length v2c)))
                    (first | exact ⟨HD1.out, HD2.out⟩ | exact ⟨HD1.out.keep hbx1 HZ1.out, HD2.out.keep hbx1 HZ2.out⟩)
                    (first | (go_at_call 21; refine Calls.mono (kentry_same _ _ _ _ e (.slice ka e.key.length kc) (.slice ya e.value.length yc) (.slice k2a e.key.length k2c) (.slice v2a e.value.length v2c) _ HK1.out HV1.out HK2.out HV2.out) ?_; rintro _ x1 ⟨rfl, hbx1⟩; skip))
                  have hbz : Below wd.heap.size wd x1 := below_of_drew hbx1
                  have HMg := Lib.hid (HMg.out.below (hbz.mono HSZ.out))
                  have HLw := Lib.hid (HLw.out.below hbz)
                  have HWr : Hid (Below W.heap.size W x1) := HWr.out.trans (hbz.mono HWr.out.size)
                  have HSZ : Hid (w4.heap.size ≤ x1.heap.size) := Nat.le_trans HSZ.out hbz.size
                  clear hbx1 hbz HK1 HV1 HK2 HV2 HD1 HD2 HZ1 HZ2
                  go_wp2_with fail
                  refine Calls.mono (mleft_any HMg.out (by rw [HDL.out]; omega)) ?_
                  rintro _ wa ⟨rfl, hb⟩
                  rw [HDL.out]
                  have HWa : Hid (Below W.heap.size W wa) := HWr.out.trans (hb.mono HWr.out.size)
                  have HMa : Hid (Mg w3.heap.size w4.heap.size w3.heap.size g wa l1 (e :: X.drop (i + 1))) := HMg.out.below (hb.mono HSZ.out)
                  have HLa := Lib.hid (HLw.out.below hb)
                  have HSa : Hid (w4.heap.size ≤ wa.heap.size) := Nat.le_trans HSZ.out hb.size
                  clear hb HMg HLw HWr HSZ
                  go_wp2_with fail
                  refine Calls.mono (mnext_any HMa.out) ?_
                  rintro _ wb ⟨k, y, l2, rfl, hk, hy, hm, hw⟩
                  obtain ⟨ka, kc, rfl⟩ := hk.isSlice
                  obtain ⟨ya, yc, rfl⟩ := hy.isSlice
                  have hlow := HMa.out.low
                  have HMb := Lib.hid hm
                  have HKb := Lib.hid hk
                  have HYb := Lib.hid hy
                  have HLb := Lib.hid (HLa.out.keep (w' := wb) fun j hj0 hj => hw.block j hj0 fun e2 => by
                    have hA := HAB.out
                    rcases e2 with e2 | e2
                    · omega
                    · have := hlow.2 j e2
                      have := HGB.out j e2
                      omega)
                  have HWb : Hid (Below W.heap.size W wb) := HWa.out.trans (hw.below HWa.out.size fun j e2 => by
                    have hA := HAB.out
                    rcases e2 with e2 | e2
                    · omega
                    · have := HGB.out j e2
                      omega)
                  have HSb : Hid (w4.heap.size ≤ wb.heap.size) := Nat.le_trans HSa.out hw.size
                  clear hk hy hm hw hlow HMa HLa HWa HSa
                  unfold entCells
                  go_upto_region 26 with fail
                  refine wp_gen fun wd hwd => ?_
                  have HBd : Hid (Below wb.heap.size wb wd) := by rw [hwd]; exact (Below.refl _ _).alloc (Nat.le_refl _) _
                  have HEd : Hid (Blk wd wb.heap.size (entCells e (.slice ka e.key.length kc) (.slice ya e.value.length yc)).toArray 29) := by rw [hwd]; exact Blk.at_new rfl rfl
                  clear hwd
                  have HMd : Hid (Mg w3.heap.size w4.heap.size w3.heap.size g wd l2 (X.drop (i + 1))) := HMb.out.below (HBd.out.mono HSb.out)
                  have HLd := Lib.hid (HLb.out.below HBd.out)
                  have HWd : Hid (Below W.heap.size W wd) := HWb.out.trans (HBd.out.mono HWb.out.size)
                  have HSd : Hid (w4.heap.size ≤ wd.heap.size) := Nat.le_trans HSb.out HBd.out.size
                  have HK1 : Hid (Bytes (fun j => wa.heap.size ≤ j) wd.drew (.slice ka e.key.length kc) e.key) := (HKb.out.below HBd.out).below (below_drew (Below.refl _ _))
                  have HV1 : Hid (Bytes (fun j => wa.heap.size ≤ j) wd.drew (.slice ya e.value.length yc) e.value) := (HYb.out.below HBd.out).below (below_drew (Below.refl _ _))
                  obtain ⟨lb, lo, capl, el, _, hlb, hcl⟩ := ents_at HLd.out (by rw [HQ.out]; omega)
                  obtain ⟨k2, v2, hk2, hv2, hc2⟩ := hcl i (by rw [HQ.out]; omega)
                  rw [eat_eq (by rw [HQ.out]; omega), HE.out] at hk2 hv2 hc2
                  injection el with el1 el2 el3
                  injection el1 with el1
                  injection el1 with el4 el5
                  have el6 := el4.symm
                  have el7 := el5.symm
                  subst el6 el7 el3
                  clear el2
                  obtain ⟨k2a, k2c, rfl⟩ := hk2.isSlice
                  obtain ⟨v2a, v2c, rfl⟩ := hv2.isSlice
                  have HK2 := Lib.hid (hk2.below (below_drew (Below.refl _ _)))
                  have HV2 := Lib.hid (hv2.below (below_drew (Below.refl _ _)))
                  have HD1 : Hid (C4o wb.heap.size 0 e (.slice ka e.key.length kc) (.slice ya e.value.length yc) wd.drew) := ⟨HEd.out.cell rfl, HEd.out.cell rfl, HEd.out.cell rfl, HEd.out.cell rfl⟩
                  have HD2 : Hid (C4o lb (lo + i * 4) e (.slice k2a e.key.length k2c) (.slice v2a e.value.length v2c) wd.drew) := hc2
                  have HZ1 : Hid (wb.heap.size < wd.drew.heap.size) := HEd.out.lt
                  have HZ2 : Hid (lb < wd.drew.heap.size) := hlb
                  clear hcl hk2 hv2 hc2 hlb HEd HKb HYb HMb HLb HWb HSb HBd
                  generalize wb.heap.size = zb at *
                  go_wp2_with fail
                  go_region_held3 (fun w' => (w'.cell? ⟨zb, 0, none⟩ = some (.slice ka e.key.length kc) ∧ w'.cell? ⟨zb, 1, none⟩ = some (.int .u64 e.seq) ∧ w'.cell? ⟨zb, 2, none⟩ = some (.int .i64 e.kind) ∧ w'.cell? ⟨zb, 3, none⟩ = some (.slice ya e.value.length yc)) ∧ (w'.cell? ⟨lb, lo + i * 4, none⟩ = some (.slice k2a e.key.length k2c) ∧ w'.cell? ⟨lb, lo + i * 4 + 1, none⟩ = some (.int .u64 e.seq) ∧ w'.cell? ⟨lb, lo + i * 4 + 2, none⟩ = some (.int .i64 e.kind) ∧ w'.cell? ⟨lb, lo + i * 4 + 3, none⟩ = some (.slice v2a e.value.length v2c)))
                    (first | exact ⟨HD1.out, HD2.out⟩ | exact ⟨HD1.out.keep hbx1 HZ1.out, HD2.out.keep hbx1 HZ2.out⟩)
                    (first | (go_at_call 21; refine Calls.mono (kentry_same _ _ _ _ e (.slice ka e.key.length kc) (.slice ya e.value.length yc) (.slice k2a e.key.length k2c) (.slice v2a e.value.length v2c) _ HK1.out HV1.out HK2.out HV2.out) ?_; rintro _ x1 ⟨rfl, hbx1⟩; skip))
                  have hbz : Below wd.heap.size wd x1 := below_of_drew hbx1
                  have HMz : Hid (MgP w3.heap.size w4.heap.size g (some ⟨w3.heap.size, 0, none⟩) x1 (X.drop (i + 1))) := .inl ⟨l2, rfl, HMd.out.below (hbz.mono HSd.out)⟩
                  have HLz := Lib.hid (HLd.out.below hbz)
                  have HWz : Hid (Below W.heap.size W x1 ∧ w4.heap.size ≤ x1.heap.size) := ⟨HWd.out.trans (hbz.mono HWd.out.size), Nat.le_trans HSd.out hbz.size⟩
                  clear hbx1 hbz HMd HLd HWd HSd HK1 HV1 HK2 HV2 HD1 HD2 HZ1 HZ2
                  go_wp2_with fail
                  go_roundw
                  · exact ⟨i + 1, by go_num, by omega, HMz.out, HLz.out, HWz.out⟩
                  · simp only [intOf]; omega
            · have t1 : ¬ (i : Int) < (q : Int) := by omega
              have HBare : Hid (Bare wr (.pointer p)) := by
                have h5 := HMr.out
                rw [List.drop_eq_nil_of_le (by rw [HQ.out]; omega)] at h5
                exact h5.bare
              clear HMr HLw HSZ
              go_wp2_with fail
              refine Calls.mono (next_none HBare.out) ?_
              rintro _ w7 ⟨rfl, hb⟩
              go_upto_region 29 with fail
              refine wp_gen fun w8 hw8 => ?_
              have hb8 : Below wr.heap.size wr w8 := hb.trans (by rw [hw8]; exact ((Below.refl _ _).alloc (Nat.le_refl _) _).mono hb.size)
              have HB8 := Lib.hid (HBare.out.below hb8)
              have HW8 : Hid (Below W.heap.size W w8) := HWr.out.trans (hb8.mono HWr.out.size)
              clear hw8 hb hb8 HBare HWr
              go_wp2_with fail
              refine Calls.mono (peek_none HB8.out) ?_
              rintro _ w9 ⟨rfl, hb⟩
              go_upto_region 30 with fail
              refine wp_gen fun w10 hw10 => ?_
              have hb10 : Below w8.heap.size w8 w10 := hb.trans (by rw [hw10]; exact ((Below.refl _ _).alloc (Nat.le_refl _) _).mono hb.size)
              have HB10 := Lib.hid (HB8.out.below hb10)
              have HW10 : Hid (Below W.heap.size W w10) := HW8.out.trans (hb10.mono HW8.out.size)
              clear hw10 hb hb10 HB8 HW8
              go_wp2_with fail
              refine Calls.mono (left_bare HB10.out) ?_
              rintro _ w11 ⟨rfl, hb⟩
              have HW11 : Hid (Below W.heap.size W w11) := HW10.out.trans (hb.mono HW10.out.size)
              clear hb
              go_wp2_with fail
              go_ret
              exact ⟨rfl, HW11.out⟩
end Go.Proofs.Ytmpapipobjoboaa
