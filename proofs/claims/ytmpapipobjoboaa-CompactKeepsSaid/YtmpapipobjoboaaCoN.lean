/- The document's answer for compact: Visible. -/
import Derived.Test.YtmpapipobjoboaaCoH
import Derived.Test.YtmpapipobjoboaaMgSm
namespace Go.Proofs.Ytmpapipobjoboaa
open Go.RowKit

theorem els_un {F F' : Nat → Prop} {w w' : World} : ∀ {xs : List Int} {cs : List Value}, Els unK F w cs xs → Els unK F' w' cs xs
  | [], _, h => h
  | _ :: _, _, h => ⟨h.1, els_un h.2⟩
theorem rcheck_at {r : Int} (F : Nat → Prop) (v : Value) (l : List Ent) (w : World) (h : Rw entK F w v l) (hfew : l.length ≤ 1000000) (hr : chkE l = r) :
    Calls Try.prog 37 #[v] w fun x w' => x = .returned (.int .i64 r) ∧ Below w.heap.size w w' := by
  subst hr; exact rcheck_any F v l w h hfew

/-- Is an entry older than the one ahead of it, for a look? -/
def Older (W : List Int) (l : List Ent) (i k : Nat) : Prop := 0 < i ∧ (eat l (i - 1)).key = (eat l i).key ∧ (eat l (i - 1)).seq ≤ uat W k
def One (W : List Int) (l : List Ent) (i k : Nat) : Prop := (eat l i).seq ≤ uat W k ∧ ¬ Older W l i k
def MkV (W : List Int) (l : List Ent) (i k : Nat) (f : Nat → Bool) : Prop := ∀ j, j < l.length → (f j = true ↔ (j < i ∧ VisP W l j) ∨ (j = i ∧ ∃ k', k' < k ∧ One W l i k'))
theorem one_vis {W : List Int} {l : List Ent} {i : Nat} : VisP W l i ↔ ∃ k, k < W.length ∧ One W l i k := by
  constructor
  · rintro ⟨a, ha, h1, h2⟩
    obtain ⟨k, hk, rfl⟩ := mem_uat.1 ha
    exact ⟨k, hk, h1, h2⟩
  · rintro ⟨k, hk, h1, h2⟩
    exact ⟨_, mem_uat.2 ⟨k, hk, rfl⟩, h1, h2⟩
theorem MkV.start (W : List Int) (l : List Ent) (f : Nat → Bool) (h : ∀ j, f j = false) : MkV W l 0 0 f := fun j _ => by simp [h]
theorem MkV.on {W : List Int} {l : List Ent} {i k : Nat} {f : Nat → Bool} (h : MkV W l i k f) (h1 : One W l i k) : MkV W l i (k + 1) (fun j => if j = i then true else f j) := fun j hj => by
  by_cases e : j = i
  · subst e
    simp only [if_pos, true_iff]
    exact .inr ⟨trivial, k, Nat.lt_succ_self _, h1⟩
  · simp only [if_neg e]
    rw [h j hj]
    simp [e]
theorem MkV.off {W : List Int} {l : List Ent} {i k : Nat} {f : Nat → Bool} (h : MkV W l i k f) (h1 : ¬ One W l i k) : MkV W l i (k + 1) f := fun j hj => by
  rw [h j hj]
  constructor
  · rintro (h2 | ⟨e, k', h2, h3⟩)
    · exact .inl h2
    · exact .inr ⟨e, k', by omega, h3⟩
  · rintro (h2 | ⟨e, k', h2, h3⟩)
    · exact .inl h2
    · refine .inr ⟨e, k', ?_, h3⟩
      by_cases e2 : k' = k
      · subst e2; exact absurd h3 h1
      · omega
theorem MkV.close {W : List Int} {l : List Ent} {i : Nat} {f : Nat → Bool} (h : MkV W l i W.length f) : MkV W l (i + 1) 0 f := fun j hj => by
  rw [h j hj]
  constructor
  · rintro (h2 | ⟨rfl, h3⟩)
    · exact .inl ⟨by omega, h2.2⟩
    · exact .inl ⟨by omega, one_vis.2 h3⟩
  · rintro (h2 | ⟨_, k', h2, _⟩)
    · by_cases e : j = i
      · subst e; exact .inr ⟨rfl, one_vis.1 h2.2⟩
      · exact .inl ⟨by omega, h2.2⟩
    · omega
theorem MkV.done {looks : List Int} {l : List Ent} {f : Nat → Bool} (h : MkV (looks ++ [maxSeq]) l l.length 0 f) : ∀ j, j < l.length → f j = visB looks l j := fun j hj => by
  rw [Bool.eq_iff_iff, h j hj, visB_iff]
  constructor
  · rintro (h2 | ⟨_, k', h2, _⟩)
    · exact h2.2
    · omega
  · exact fun h2 => .inl ⟨hj, h2⟩

set_option maxRecDepth 100000 in
set_option maxHeartbeats 8000000 in
theorem rvis_any (F G : Nat → Prop) (v vk : Value) (l : List Ent) (looks : List Int) (w : World) (h : Rw entK F w v l) (hk : Rw unK G w vk looks) (hfew : l.length ≤ 400000) (hml : looks.length ≤ 400000) :
    Calls Try.prog 46 #[v, vk] w (VisPost l looks w) := by
  obtain ⟨xa, ca, rfl⟩ := h.isSlice
  obtain ⟨ka, kc, rfl⟩ := hk.isSlice
  have HA : Hid (Rw entK (· < w.heap.size) w (.slice xa l.length ca) l) := h.mono fun k hk _ => hk
  have HK : Hid (Rw unK (· < w.heap.size) w (.slice ka looks.length kc) looks) := hk.mono fun k hk _ => hk
  have HCA := Lib.hid (fun r hr => rcheck_at F _ l w h (by omega) (r := r) hr)
  clear h hk
  obtain ⟨n, hn⟩ : ∃ n, l.length = n := ⟨_, rfl⟩
  obtain ⟨m, hm⟩ : ∃ m, looks.length = m := ⟨_, rfl⟩
  have HN := Lib.hid hn
  have HM := Lib.hid hm
  rw [hn] at HA HCA hfew
  rw [hm] at HK hml
  rw [hn, hm]
  clear hn hm
  have hmk := make_bools n (by omega)
  have HMK := Lib.hid hmk
  clear hmk
  go_enter Try.func46, Try.ntmps46
  go_wp2_with fail
  cases hrb : rowB l with
  | false =>
    refine Calls.mono (HCA.out 2 (by unfold chkE; rw [hrb]; rfl)) ?_
    rintro _ w1 ⟨rfl, hb⟩
    have hc : chkV l looks = 2 := chkV_row looks hrb
    have HP : Hid (VisPost l looks w (.returned (.tuple #[.slice none 0 0, .int .i64 2])) w1) := ⟨(fun e => by rw [hc] at e; cases e), fun _ => rfl, hb⟩
    clear hb hrb HCA hc
    go_wp2_with fail
    go_ret2
    exact HP.out
  | true =>
    refine Calls.mono (HCA.out 0 (by unfold chkE; rw [hrb]; rfl)) ?_
    rintro _ w1 ⟨rfl, hb⟩
    have HW1 := Lib.hid hb
    have HRB := Lib.hid hrb
    clear hb hrb HCA
    go_wp2_with fail
    go_loopw [6] (fun iv wr => ∃ (j : Nat), iv = .int .i64 (j : Int) ∧ j ≤ m ∧ Hid (UpTo looks j) ∧ Hid (Below w.heap.size w wr)) (fun iv _ => m - (intOf iv).toNat)
    case atStart => exact ⟨0, rfl, by omega, (fun i hi => by omega), HW1.out⟩
    case round =>
      obtain ⟨j, rfl, hj, HU, HB⟩ := hrel
      clear HW1
      by_cases hlt : j < m
      · have t1 : (j : Int) < (m : Int) := by omega
        have t3 : 0 ≤ (j : Int) := by omega
        obtain ⟨ba, oa, capa, ea, _, _, hca⟩ := uns_at (HK.out.below HB.out) (by rw [HM.out]; omega)
        injection ea with e1 e2 e3
        subst e1 e3
        clear e2
        have c0 := hca j (by rw [HM.out]; exact hlt)
        have HJ : Hid (j < looks.length) := by show _ < _; rw [HM.out]; exact hlt
        obtain ⟨x, hx⟩ : ∃ x, uat looks j = x := ⟨_, rfl⟩
        have HX := Lib.hid hx
        rw [hx] at c0
        clear hx
        have HPF : Hid (∀ n, ¬ (x ≤ maxSeq ∧ (0 < j → uat looks (j - 1) < x)) → VisPost l looks w (.returned (.tuple #[.slice none 0 0, .int .i64 2])) (wr.drewN n)) := fun n hx => by
          have h1 : upB looks = false := upB_false HJ.out (by rw [HX.out]; exact hx)
          have hc : chkV l looks = 2 := chkV_up l h1
          exact ⟨(fun e => by rw [hc] at e; cases e), fun _ => rfl, below_dn HB.out _⟩
        have HUN : Hid (x ≤ maxSeq ∧ (0 < j → uat looks (j - 1) < x) → UpTo looks (j + 1)) := fun hx => HU.out.snoc (by rw [HX.out]; exact hx)
        cases j with
        | zero =>
          clear hca
          rw [Nat.add_zero] at c0
          by_cases hmx : 72057594037927935 < x
          · go_wp2_with fail
            go_quiet (fail)
            all_goals
              go_wp2_with fail
              go_ret2
              exact HPF.out _ (fun h => by have := h.1; unfold maxSeq at this; omega)
          · have hmx' : decide (72057594037927935 < x) = false := decide_eq_false hmx
            go_wp2_with fail
            go_quiet (fail)
            all_goals
              go_wp2_with fail
              go_roundw
              · exact ⟨1, by go_num, by omega, HUN.out ⟨by unfold maxSeq; omega, fun h => by omega⟩, below_dn HB.out _⟩
              · simp only [intOf]; omega
        | succ j =>
          have c1 := hca j (by rw [HM.out]; omega)
          obtain ⟨y, hy⟩ : ∃ y, uat looks j = y := ⟨_, rfl⟩
          have HY := Lib.hid hy
          rw [hy] at c1
          clear hy hca
          have t4 : IntKind.i64.wrap ((j : Int) + 1 - 1) = (j : Int) := by rw [wrap_small (by omega) (by omega)]; omega
          have t5 : IntKind.i64.wrap (j : Int) = (j : Int) := wrap_small (by omega) (by omega)
          have t7 : (j : Int) < (m : Int) := by omega
          have t8 : 0 ≤ (j : Int) := by omega
          have t9 : 0 < (j : Int) + 1 := by omega
          by_cases hmx : 72057594037927935 < x
          · go_wp2_with fail
            go_quiet (fail)
            all_goals
              go_wp2_with fail
              go_ret2
              exact HPF.out _ (fun h => by have := h.1; unfold maxSeq at this; omega)
          · have hmx' : decide (72057594037927935 < x) = false := decide_eq_false hmx
            by_cases hge : x ≤ y
            · go_wp2_with fail
              go_quiet (fail)
              all_goals
                go_wp2_with fail
                go_ret2
                exact HPF.out _ (fun h => by have := h.2 (Nat.succ_pos _); rw [Nat.add_sub_cancel, HY.out] at this; omega)
            · have hge' : decide (x ≤ y) = false := decide_eq_false hge
              go_wp2_with fail
              go_quiet (fail)
              all_goals
                go_wp2_with fail
                go_roundw
                · exact ⟨j + 1 + 1, by go_num, by omega, HUN.out ⟨by unfold maxSeq; omega, fun _ => by rw [Nat.add_sub_cancel, HY.out]; omega⟩, below_dn HB.out _⟩
                · simp only [intOf]; omega
      · have t1 : ¬ (j : Int) < (m : Int) := by omega
        have hjm : j = m := by omega
        have HC0 : Hid (chkV l looks = 0) := chkV_ok HRB.out (upB_iff.2 (by rw [HM.out, ← hjm]; exact HU.out))
        have HKr := Lib.hid (HK.out.below HB.out)
        have HAr := Lib.hid (HA.out.below HB.out)
        clear HU HA HK
        go_wp2_with (with_reducible refine pause_append ?_)
        refine list_gen fun w2 hw2 => ?_
        have HB2 : Hid (Below wr.heap.size wr w2) := by rw [hw2]; exact (Below.refl _ _).alloc (Nat.le_refl _) _
        have HO2 : Hid (ROwnF unK (fun _ => False) wr.heap.size 27 w2 (.slice (some ⟨wr.heap.size, 0, none⟩) 0 0) []) := by rw [hw2]; exact ROwnF.lit_at _ _ _ rfl
        have HS2 := Lib.hid (HKr.out.below HB2.out)
        clear hw2
        obtain ⟨cs, hsl, hel⟩ := HS2.out
        have HSL := Lib.hid hsl
        have HEL := Lib.hid hel
        clear hsl hel
        refine Pause.go (wpList_append_elsF (K := unK) 35 27 _ 8 Try.underlying35 info_un rfl (fun _ => False) wr.heap.size _ [] _ looks rfl _ _ rfl rfl rfl HO2.out cs _ (by rw [HM.out] at *; exact HSL.out)
          (els_un HEL.out) (by simp only [List.length_nil]; rw [HM.out]; omega) (by decide) HB2.out.size ?_)
        intro v3 w3 ho hg
        have HO3 : Hid (ROwnF unK (fun _ => False) wr.heap.size 27 w3 v3 looks) := ho
        have HB3 : Hid (Below wr.heap.size wr w3) := HB2.out.trans (hg.below HB2.out.size fun k e => (HO2.out.lt k e).1)
        clear ho hg HO2 HB2 HS2 HSL HEL
        go_wp2_with (with_reducible refine pause_append ?_)
        refine list_gen fun w4 hw4 => ?_
        have HB4 : Hid (Below w3.heap.size w3 w4) := by rw [hw4]; exact (Below.refl _ _).alloc (Nat.le_refl _) _
        have HS4 : Hid (Blk w4 w3.heap.size #[.int .u64 maxSeq] 27) := by rw [hw4]; exact Blk.at_new rfl rfl
        clear hw4
        have HT4 : Hid (Below wr.heap.size wr w4) := HB3.out.trans (HB4.out.mono HB3.out.size)
        have HO4 := Lib.hid (HO3.out.below HB4.out)
        have HLen : Hid (looks.length < 1000000) := by show _ < _; rw [HM.out]; omega
        refine Pause.go (wpList_append_elF (K := unK) 35 27 _ 8 Try.underlying35 info_un rfl _ wr.heap.size _ looks w3.heap.size 27 _ maxSeq rfl _ _ rfl rfl rfl HO4.out HS4.out rfl HLen.out (by decide) HT4.out.size ?_)
        intro v5 w5 hro hg
        obtain ⟨a5, c5, rfl⟩ := hro.isSlice
        have HB5 : Hid (Below wr.heap.size wr w5) := HT4.out.trans (hg.below HT4.out.size fun k e0 => (HO4.out.lt k e0).1)
        have HK5 : Hid (Rw unK (· < w5.heap.size) w5 (.slice a5 (looks ++ [maxSeq]).length c5) (looks ++ [maxSeq])) := hro.rows.mono fun k hk _ => hk
        have HQ : Hid ((looks ++ [maxSeq]).length = m + 1) := by show _ = _; rw [List.length_append, HM.out]; rfl
        have HDN : Hid (∀ f, MkV (looks ++ [maxSeq]) l l.length 0 f → ∀ j, j < l.length → f j = visB looks l j) := fun f h => h.done
        clear hro hg HO4 HS4 HO3 HB3 HB4 HT4 HLen HKr
        rw [HQ.out] at HK5
        rw [HQ.out]
        generalize looks ++ [maxSeq] = W at *
        have HA5 := Lib.hid (HAr.out.below HB5.out)
        have HW5 : Hid (Below w.heap.size w w5) := HB.out.trans (HB5.out.mono HB.out.size)
        clear HAr HB5 HB
        have hmk := HMK.out
        clear HMK
        go_upto_region 10 with fail
        refine wp_gen fun w6 hw6 => ?_
        have HBL6 : Hid (Bl w5.heap.size w6 (fun _ => false) n) := by rw [hw6]; exact Bl.made rfl
        have HB6 : Hid (Below w5.heap.size w5 w6) := by rw [hw6]; exact (Below.refl _ _).alloc (Nat.le_refl _) _
        have HW6 : Hid (Below w.heap.size w w6) := HW5.out.trans (HB6.out.mono HW5.out.size)
        have HOB : Hid (w.heap.size ≤ w5.heap.size) := HW5.out.size
        have HA6 : Hid (Rw entK (· ≠ w5.heap.size) w6 (.slice xa n ca) l) := ((HA5.out.mono (F' := fun k => k < w5.heap.size) fun k hk _ => hk).below HB6.out).mono fun k _ hk => Nat.ne_of_lt hk
        have HK6 : Hid (Rw unK (· ≠ w5.heap.size) w6 (.slice a5 (m + 1) c5) W) := (HK5.out.below HB6.out).mono fun k _ hk => Nat.ne_of_lt hk
        clear hw6 hmk HA5 HK5 HW5 HB6
        generalize w5.heap.size = ob at *
        go_wp2_with fail
        go_loopw [9] (fun iv wr => ∃ (i : Nat) (f : Nat → Bool), iv = .int .i64 (i : Int) ∧ i ≤ n ∧ Hid (MkV W l i 0 f) ∧ Hid (Bl ob wr f n) ∧ Hid (Rw entK (· ≠ ob) wr (.slice xa n ca) l) ∧ Hid (Rw unK (· ≠ ob) wr (.slice a5 (m + 1) c5) W) ∧ Hid (Below w.heap.size w wr)) (fun iv _ => n - (intOf iv).toNat)
        case atStart => exact ⟨0, fun _ => false, rfl, by omega, MkV.start _ _ _ (fun _ => rfl), HBL6.out, HA6.out, HK6.out, HW6.out⟩
        case round =>
          obtain ⟨i, f, rfl, hi, HMV, HBL, HAr, HKr, HB⟩ := hrel
          clear HBL6 HA6 HK6 HW6
          by_cases hlt : i < n
          · have t1 : (i : Int) < (n : Int) := by omega
            go_wp2_with fail
            go_loopw [10] (fun kv wr => ∃ (k : Nat) (f : Nat → Bool), kv = .int .i64 (k : Int) ∧ k ≤ m + 1 ∧ Hid (MkV W l i k f) ∧ Hid (Bl ob wr f n) ∧ Hid (Rw entK (· ≠ ob) wr (.slice xa n ca) l) ∧ Hid (Rw unK (· ≠ ob) wr (.slice a5 (m + 1) c5) W) ∧ Hid (Below w.heap.size w wr)) (fun kv _ => m + 1 - (intOf kv).toNat)
            case atStart => exact ⟨0, f, rfl, by omega, HMV.out, HBL.out, HAr.out, HKr.out, HB.out⟩
            case round =>
              clear HMV HBL HAr HKr HB
              obtain ⟨k, f, rfl, hk, HMV, HBL, HAr, HKr, HB⟩ := hrel
              by_cases hkq : k < m + 1
              · have t2 : (k : Int) < (m : Int) + 1 := by omega
                have t3 : 0 ≤ (k : Int) := by omega
                have t0 : 0 ≤ (i : Int) := by omega
                obtain ⟨ba, oa, capa, ea, _, hba, hca⟩ := ents_at HAr.out (by rw [HN.out]; omega)
                injection ea with e1' e2' e3'
                subst e1' e3'
                clear e2'
                obtain ⟨bw, ow, capw, ew, _, hbw, hcw⟩ := uns_at HKr.out (by rw [HQ.out]; omega)
                injection ew with e1' e2' e3'
                subst e1' e3'
                clear e2'
                have HCA : Hid (∀ i, i < n → ∃ vk vv, Bytes (· ≠ ob) wr vk (eat l i).key ∧ Bytes (· ≠ ob) wr vv (eat l i).value ∧ C4o ba (oa + i * 4) (eat l i) vk vv wr) := by
                  intro i hi
                  have hil : i < l.length := by rw [HN.out]; exact hi
                  obtain ⟨vk, vv, g1, g2, g3⟩ := hca i hil
                  rw [eat_eq hil] at g1 g2 g3
                  exact ⟨vk, vv, g1, g2, g3⟩
                have HCW : Hid (wr.cell? ⟨bw, ow + k, none⟩ = some (.int .u64 (uat W k))) := hcw k (by rw [HQ.out]; exact hkq)
                have HBA : Hid (ba < wr.heap.size) := hba
                have HBW : Hid (bw < wr.heap.size) := hbw
                clear hca hcw hba hbw
                obtain ⟨a, ha⟩ : ∃ a, uat W k = a := ⟨_, rfl⟩
                have HAA := Lib.hid ha
                rw [ha] at HCW
                clear ha
                go_upto_region 16 with fail
                go_cut [11] from 62 to 88 (fun x wx => (∃ b : Bool, x = .bool b ∧ Hid (b = true ↔ Older W l i k)) ∧ Hid (Below wr.heap.size wr wx))
                case first =>
                  cases i with
                  | zero =>
                    go_wp2_with fail
                    go_quiet (fail)
                    all_goals
                      go_wp2_with fail
                      go_meet
                      exact ⟨⟨false, rfl, by show _ ↔ _; simp [Older]⟩, below_dn (Below.refl _ _) _⟩
                  | succ i =>
                    have t4 : IntKind.i64.wrap ((i : Int) + 1 - 1) = (i : Int) := by rw [wrap_small (by omega) (by omega)]; omega
                    have t5 : IntKind.i64.wrap (i : Int) = (i : Int) := wrap_small (by omega) (by omega)
                    have t7 : (i : Int) < (n : Int) := by omega
                    have t8 : 0 ≤ (i : Int) := by omega
                    have t9 : 0 < (i : Int) + 1 := by omega
                    have t20 : (i : Int) + 1 < (n : Int) := by omega
                    have t21 : 0 ≤ (i : Int) + 1 := by omega
                    have t22 : ((i : Int) + 1).toNat = i + 1 := by omega
                    obtain ⟨pk, pv, hpk, _, hpc⟩ := HCA.out i (by omega)
                    obtain ⟨ek, ev, hek, _, hec⟩ := HCA.out (i + 1) (by omega)
                    have HOD : Hid (Older W l (i + 1) k ↔ (eat l i).key = (eat l (i + 1)).key ∧ (eat l i).seq ≤ a) := by
                      show _ ↔ _
                      unfold Older
                      rw [Nat.add_sub_cancel, HAA.out]
                      simp
                    generalize eat l i = p at *
                    generalize eat l (i + 1) = e at *
                    have HK1 := Lib.hid (hpk.below (below_drew (Below.refl _ _)))
                    have HK2 := Lib.hid (hek.below (below_drew (Below.refl _ _)))
                    have HC1 : Hid (C4o ba (oa + i * 4) p pk pv wr.drew) := hpc
                    have HC2 : Hid (C4o ba (oa + (i + 1) * 4) e ek ev wr.drew) := hec
                    have HZ1 : Hid (ba < wr.drew.heap.size) := HBA.out
                    have HZ2 : Hid (bw < wr.drew.heap.size) := HBW.out
                    have HC3 : Hid (wr.drew.cell? ⟨bw, ow + k, none⟩ = some (.int .u64 a)) := HCW.out
                    clear hpk hek hpc hec
                    obtain ⟨r, hr⟩ : ∃ r, decide (p.key = e.key) = r := ⟨_, rfl⟩
                    have HR := Lib.hid hr
                    clear hr
                    cases r with
                    | false =>
                      have HNO : Hid (¬ Older W l (i + 1) k) := fun h => (of_decide_eq_false HR.out) (HOD.out.1 h).1
                      go_wp2_with fail
                      refine wp_region_held_drew (S := (fun w' => (w'.cell? ⟨ba, oa + i * 4, none⟩ = some pk ∧ w'.cell? ⟨ba, oa + i * 4 + 1, none⟩ = some (.int .u64 p.seq) ∧ w'.cell? ⟨ba, oa + i * 4 + 2, none⟩ = some (.int .i64 p.kind) ∧ w'.cell? ⟨ba, oa + i * 4 + 3, none⟩ = some pv) ∧ (w'.cell? ⟨ba, oa + (i + 1) * 4, none⟩ = some ek ∧ w'.cell? ⟨ba, oa + (i + 1) * 4 + 1, none⟩ = some (.int .u64 e.seq) ∧ w'.cell? ⟨ba, oa + (i + 1) * 4 + 2, none⟩ = some (.int .i64 e.kind) ∧ w'.cell? ⟨ba, oa + (i + 1) * 4 + 3, none⟩ = some ev))) (by kernel_rfl) (⟨HC1.out, HC2.out⟩) (fun hHeld => ?_)
                      refine wpAnyH_take (i := 0) (oi := ?oN_0) (v := ?vN_0) ?eN_0 (by kernel_rfl) (by kernel_rfl) (by kernel_rfl) ?qN_0 (Or.inl ⟨?wN_0, ?yN_0⟩) (by assumption) ?rN_0
                      case eN_0 => simp only [List.getElem?_toArray, List.getElem?_cons_zero]; rfl
                      case wN_0 => rfl
                      case qN_0 => exact fun _ _ _ h => h
                      case yN_0 => (intro w hSw; (try dsimp only at hSw); go_simp; try with_reducible rfl)
                      try simp only [Act.put, List.setIfInBounds_toArray, List.set_cons_zero, List.set_cons_succ]
                      refine wpAnyH_take (i := 1) (oi := ?oN_1) (v := ?vN_1) ?eN_1 (by kernel_rfl) (by kernel_rfl) (by kernel_rfl) ?qN_1 (Or.inl ⟨?wN_1, ?yN_1⟩) (by assumption) ?rN_1
                      case eN_1 => simp only [List.getElem?_toArray, List.getElem?_cons_succ, List.getElem?_cons_zero]; rfl
                      case wN_1 => rfl
                      case qN_1 => exact fun _ _ _ h => h
                      case yN_1 => (intro w hSw; (try dsimp only at hSw); go_simp; try with_reducible rfl)
                      try simp only [Act.put, List.setIfInBounds_toArray, List.set_cons_zero, List.set_cons_succ]
                      refine wpAnyH_take (i := 2) (oi := ?oN_2) (v := ?vN_2) ?eN_2 (by kernel_rfl) (by kernel_rfl) (by kernel_rfl) ?qN_2 (Or.inl ⟨?wN_2, ?yN_2⟩) (by assumption) ?rN_2
                      case eN_2 => simp only [List.getElem?_toArray, List.getElem?_cons_succ, List.getElem?_cons_zero]; rfl
                      case wN_2 => rfl
                      case qN_2 => exact fun _ _ _ h => h
                      case yN_2 => (intro w hSw; (try dsimp only at hSw); go_simp; try with_reducible rfl)
                      try simp only [Act.put, List.setIfInBounds_toArray, List.set_cons_zero, List.set_cons_succ]
                      refine wpAnyH_take (i := 3) (oi := ?oN_3) (v := ?vN_3) ?eN_3 (by kernel_rfl) (by kernel_rfl) (by kernel_rfl) ?qN_3 (Or.inl ⟨?wN_3, ?yN_3⟩) (by assumption) ?rN_3
                      case eN_3 => simp only [List.getElem?_toArray, List.getElem?_cons_succ, List.getElem?_cons_zero]; rfl
                      case wN_3 => rfl
                      case qN_3 => exact fun _ _ _ h => h
                      case yN_3 => (intro w hSw; (try dsimp only at hSw); go_simp; try with_reducible rfl)
                      try simp only [Act.put, List.setIfInBounds_toArray, List.set_cons_zero, List.set_cons_succ]
                      refine wpAnyH_take (i := 4) (oi := ?oN_4) (v := ?vN_4) ?eN_4 (by kernel_rfl) (by kernel_rfl) (by kernel_rfl) ?qN_4 (Or.inl ⟨?wN_4, ?yN_4⟩) (by assumption) ?rN_4
                      case eN_4 => simp only [List.getElem?_toArray, List.getElem?_cons_succ, List.getElem?_cons_zero]; rfl
                      case wN_4 => rfl
                      case qN_4 => exact fun _ _ _ h => h
                      case yN_4 => (intro w hSw; (try dsimp only at hSw); go_simp; try with_reducible rfl)
                      try simp only [Act.put, List.setIfInBounds_toArray, List.set_cons_zero, List.set_cons_succ]
                      refine wpAnyH_take (i := 5) (oi := ?oN_5) (v := ?vN_5) ?eN_5 (by kernel_rfl) (by kernel_rfl) (by kernel_rfl) ?qN_5 (Or.inl ⟨?wN_5, ?yN_5⟩) (by assumption) ?rN_5
                      case eN_5 => simp only [List.getElem?_toArray, List.getElem?_cons_succ, List.getElem?_cons_zero]; rfl
                      case wN_5 => rfl
                      case qN_5 => exact fun _ _ _ h => h
                      case yN_5 => (intro w hSw; (try dsimp only at hSw); go_simp; try with_reducible rfl)
                      try simp only [Act.put, List.setIfInBounds_toArray, List.set_cons_zero, List.set_cons_succ]
                      refine wpAnyH_take (i := 6) (oi := ?oN_6) (v := ?vN_6) ?eN_6 (by kernel_rfl) (by kernel_rfl) (by kernel_rfl) ?qN_6 (Or.inl ⟨?wN_6, ?yN_6⟩) (by assumption) ?rN_6
                      case eN_6 => simp only [List.getElem?_toArray, List.getElem?_cons_succ, List.getElem?_cons_zero]; rfl
                      case wN_6 => rfl
                      case qN_6 => exact fun _ _ _ h => h
                      case yN_6 => (intro w hSw; (try dsimp only at hSw); go_simp; try with_reducible rfl)
                      try simp only [Act.put, List.setIfInBounds_toArray, List.set_cons_zero, List.set_cons_succ]
                      refine wpAnyH_take (i := 7) (oi := ?oN_7) (v := ?vN_7) ?eN_7 (by kernel_rfl) (by kernel_rfl) (by kernel_rfl) ?qN_7 (Or.inl ⟨?wN_7, ?yN_7⟩) (by assumption) ?rN_7
                      case eN_7 => simp only [List.getElem?_toArray, List.getElem?_cons_succ, List.getElem?_cons_zero]; rfl
                      case wN_7 => rfl
                      case qN_7 => exact fun _ _ _ h => h
                      case yN_7 => (intro w hSw; (try dsimp only at hSw); go_simp; try with_reducible rfl)
                      try simp only [Act.put, List.setIfInBounds_toArray, List.set_cons_zero, List.set_cons_succ]
                      refine wpAnyH_take (i := 8) (oi := ?oN_8) (v := ?vN_8) ?eN_8 (by kernel_rfl) (by kernel_rfl) (by kernel_rfl) ?qN_8 (Or.inl ⟨?wN_8, ?yN_8⟩) (by assumption) ?rN_8
                      case eN_8 => simp only [List.getElem?_toArray, List.getElem?_cons_succ, List.getElem?_cons_zero]; rfl
                      case wN_8 => rfl
                      case qN_8 => exact fun _ _ _ h => h
                      case yN_8 => (intro w hSw; (try dsimp only at hSw); go_simp; try with_reducible rfl)
                      try simp only [Act.put, List.setIfInBounds_toArray, List.set_cons_zero, List.set_cons_succ]
                      refine wpAnyH_take (i := 9) (oi := ?oN_9) (v := ?vN_9) ?eN_9 (by kernel_rfl) (by kernel_rfl) (by kernel_rfl) ?qN_9 (Or.inl ⟨?wN_9, ?yN_9⟩) (by assumption) ?rN_9
                      case eN_9 => simp only [List.getElem?_toArray, List.getElem?_cons_succ, List.getElem?_cons_zero]; rfl
                      case wN_9 => rfl
                      case qN_9 => exact fun _ _ _ h => h
                      case yN_9 => (intro w hSw; (try dsimp only at hSw); go_simp; try with_reducible rfl)
                      try simp only [Act.put, List.setIfInBounds_toArray, List.set_cons_zero, List.set_cons_succ]
                      refine wpAnyH_take (i := 10) (oi := ?oN_10) (v := ?vN_10) ?eN_10 (by kernel_rfl) (by kernel_rfl) (by kernel_rfl) ?qN_10 (Or.inl ⟨?wN_10, ?yN_10⟩) (by assumption) ?rN_10
                      case eN_10 => simp only [List.getElem?_toArray, List.getElem?_cons_succ, List.getElem?_cons_zero]; rfl
                      case wN_10 => rfl
                      case qN_10 => exact fun _ _ _ h => h
                      case yN_10 => (intro w hSw; (try dsimp only at hSw); go_simp; try with_reducible rfl)
                      try simp only [Act.put, List.setIfInBounds_toArray, List.set_cons_zero, List.set_cons_succ]
                      refine wpAnyH_take (i := 11) (oi := ?oN_11) (v := ?vN_11) ?eN_11 (by kernel_rfl) (by kernel_rfl) (by kernel_rfl) ?qN_11 (Or.inl ⟨?wN_11, ?yN_11⟩) (by assumption) ?rN_11
                      case eN_11 => simp only [List.getElem?_toArray, List.getElem?_cons_succ, List.getElem?_cons_zero]; rfl
                      case wN_11 => rfl
                      case qN_11 => exact fun _ _ _ h => h
                      case yN_11 => (intro w hSw; (try dsimp only at hSw); go_simp; try with_reducible rfl)
                      try simp only [Act.put, List.setIfInBounds_toArray, List.set_cons_zero, List.set_cons_succ]
                      refine wpAnyH_ready (rs := [12]) (by kernel_rfl) (by simp) ?_
                      refine AllReadyH.cons (o := ?oN_12) ?eN_12 (fun K hK => ?_) AllReadyH.nil
                      case eN_12 => simp only [List.getElem?_toArray, List.getElem?_cons_succ, List.getElem?_cons_zero]; rfl
                      go_simp
                      (go_at_call 71; refine Calls.mono (rsame15_at _ _ p e false HR.out pk pv ek ev _ HK1.out HK2.out) ?_; rintro _ x1 ⟨rfl, hbx1⟩)
                      try go_wp2_with fail
                      refine hK.out _ _ (⟨HC1.out.keep hbx1 HZ1.out, HC2.out.keep hbx1 HZ1.out⟩) (fun hHeld => ?_)
                      clear hK
                      try simp only [Act.put, List.setIfInBounds_toArray, List.set_cons_zero, List.set_cons_succ]
                      refine wpAnyH_take (i := 13) (oi := ?oN_13) (v := ?vN_13) ?eN_13 (by kernel_rfl) (by kernel_rfl) (by kernel_rfl) ?qN_13 (Or.inl ⟨?wN_13, ?yN_13⟩) (by assumption) ?rN_13
                      case eN_13 => simp only [List.getElem?_toArray, List.getElem?_cons_succ, List.getElem?_cons_zero]; rfl
                      case wN_13 => rfl
                      case qN_13 => exact fun _ _ _ h => h
                      case yN_13 => (intro w hSw; (try dsimp only at hSw); go_simp; try with_reducible rfl)
                      try simp only [Act.put, List.setIfInBounds_toArray, List.set_cons_zero, List.set_cons_succ]
                      refine wpAnyH_take (i := 14) (oi := ?oN_14) (v := ?vN_14) ?eN_14 (by kernel_rfl) (by kernel_rfl) (by kernel_rfl) ?qN_14 (Or.inl ⟨?wN_14, ?yN_14⟩) (by assumption) ?rN_14
                      case eN_14 => simp only [List.getElem?_toArray, List.getElem?_cons_succ, List.getElem?_cons_zero]; rfl
                      case wN_14 => rfl
                      case qN_14 => exact fun _ _ _ h => h
                      case yN_14 => (intro w hSw; (try dsimp only at hSw); go_simp; try with_reducible rfl)
                      try simp only [Act.put, List.setIfInBounds_toArray, List.set_cons_zero, List.set_cons_succ]
                      refine wpAnyH_take (i := 15) (oi := ?oN_15) (v := undef) ?eN_15 (by kernel_rfl) (by kernel_rfl) (by kernel_rfl) ?qN_15 (Or.inr ⟨?wN_15, rfl⟩) (by assumption) ?rN_15
                      case eN_15 => simp only [List.getElem?_toArray, List.getElem?_cons_succ, List.getElem?_cons_zero]; rfl
                      case wN_15 => rfl
                      case qN_15 => exact fun _ _ _ h => h
                      try simp only [Act.put, List.setIfInBounds_toArray, List.set_cons_zero, List.set_cons_succ]
                      refine wpAnyH_take (i := 16) (oi := ?oN_16) (v := undef) ?eN_16 (by kernel_rfl) (by kernel_rfl) (by kernel_rfl) ?qN_16 (Or.inr ⟨?wN_16, rfl⟩) (by assumption) ?rN_16
                      case eN_16 => simp only [List.getElem?_toArray, List.getElem?_cons_succ, List.getElem?_cons_zero]; rfl
                      case wN_16 => rfl
                      case qN_16 => exact fun _ _ _ h => h
                      try simp only [Act.put, List.setIfInBounds_toArray, List.set_cons_zero, List.set_cons_succ]
                      refine wpAnyH_take (i := 17) (oi := ?oN_17) (v := undef) ?eN_17 (by kernel_rfl) (by kernel_rfl) (by kernel_rfl) ?qN_17 (Or.inr ⟨?wN_17, rfl⟩) (by assumption) ?rN_17
                      case eN_17 => simp only [List.getElem?_toArray, List.getElem?_cons_succ, List.getElem?_cons_zero]; rfl
                      case wN_17 => rfl
                      case qN_17 => exact fun _ _ _ h => h
                      try simp only [Act.put, List.setIfInBounds_toArray, List.set_cons_zero, List.set_cons_succ]
                      refine wpAnyH_take (i := 18) (oi := ?oN_18) (v := undef) ?eN_18 (by kernel_rfl) (by kernel_rfl) (by kernel_rfl) ?qN_18 (Or.inr ⟨?wN_18, rfl⟩) (by assumption) ?rN_18
                      case eN_18 => simp only [List.getElem?_toArray, List.getElem?_cons_succ, List.getElem?_cons_zero]; rfl
                      case wN_18 => rfl
                      case qN_18 => exact fun _ _ _ h => h
                      try simp only [Act.put, List.setIfInBounds_toArray, List.set_cons_zero, List.set_cons_succ]
                      refine wpAnyH_take (i := 19) (oi := ?oN_19) (v := undef) ?eN_19 (by kernel_rfl) (by kernel_rfl) (by kernel_rfl) ?qN_19 (Or.inr ⟨?wN_19, rfl⟩) (by assumption) ?rN_19
                      case eN_19 => simp only [List.getElem?_toArray, List.getElem?_cons_succ, List.getElem?_cons_zero]; rfl
                      case wN_19 => rfl
                      case qN_19 => exact fun _ _ _ h => h
                      try simp only [Act.put, List.setIfInBounds_toArray, List.set_cons_zero, List.set_cons_succ]
                      refine wpAnyH_take (i := 20) (oi := ?oN_20) (v := undef) ?eN_20 (by kernel_rfl) (by kernel_rfl) (by kernel_rfl) ?qN_20 (Or.inr ⟨?wN_20, rfl⟩) (by assumption) ?rN_20
                      case eN_20 => simp only [List.getElem?_toArray, List.getElem?_cons_succ, List.getElem?_cons_zero]; rfl
                      case wN_20 => rfl
                      case qN_20 => exact fun _ _ _ h => h
                      try simp only [Act.put, List.setIfInBounds_toArray, List.set_cons_zero, List.set_cons_succ]
                      refine wpAnyH_take (i := 21) (oi := ?oN_21) (v := undef) ?eN_21 (by kernel_rfl) (by kernel_rfl) (by kernel_rfl) ?qN_21 (Or.inr ⟨?wN_21, rfl⟩) (by assumption) ?rN_21
                      case eN_21 => simp only [List.getElem?_toArray, List.getElem?_cons_succ, List.getElem?_cons_zero]; rfl
                      case wN_21 => rfl
                      case qN_21 => exact fun _ _ _ h => h
                      try simp only [Act.put, List.setIfInBounds_toArray, List.set_cons_zero, List.set_cons_succ]
                      refine wpAnyH_take (i := 22) (oi := ?oN_22) (v := undef) ?eN_22 (by kernel_rfl) (by kernel_rfl) (by kernel_rfl) ?qN_22 (Or.inr ⟨?wN_22, rfl⟩) (by assumption) ?rN_22
                      case eN_22 => simp only [List.getElem?_toArray, List.getElem?_cons_succ, List.getElem?_cons_zero]; rfl
                      case wN_22 => rfl
                      case qN_22 => exact fun _ _ _ h => h
                      try simp only [Act.put, List.setIfInBounds_toArray, List.set_cons_zero, List.set_cons_succ]
                      refine wpAnyH_take (i := 23) (oi := ?oN_23) (v := undef) ?eN_23 (by kernel_rfl) (by kernel_rfl) (by kernel_rfl) ?qN_23 (Or.inr ⟨?wN_23, rfl⟩) (by assumption) ?rN_23
                      case eN_23 => simp only [List.getElem?_toArray, List.getElem?_cons_succ, List.getElem?_cons_zero]; rfl
                      case wN_23 => rfl
                      case qN_23 => exact fun _ _ _ h => h
                      try simp only [Act.put, List.setIfInBounds_toArray, List.set_cons_zero, List.set_cons_succ]
                      refine wpAnyH_take (i := 24) (oi := ?oN_24) (v := undef) ?eN_24 (by kernel_rfl) (by kernel_rfl) (by kernel_rfl) ?qN_24 (Or.inr ⟨?wN_24, rfl⟩) (by assumption) ?rN_24
                      case eN_24 => simp only [List.getElem?_toArray, List.getElem?_cons_succ, List.getElem?_cons_zero]; rfl
                      case wN_24 => rfl
                      case qN_24 => exact fun _ _ _ h => h
                      try simp only [Act.put, List.setIfInBounds_toArray, List.set_cons_zero, List.set_cons_succ]
                      refine wpAnyH_take (i := 25) (oi := ?oN_25) (v := undef) ?eN_25 (by kernel_rfl) (by kernel_rfl) (by kernel_rfl) ?qN_25 (Or.inr ⟨?wN_25, rfl⟩) (by assumption) ?rN_25
                      case eN_25 => simp only [List.getElem?_toArray, List.getElem?_cons_succ, List.getElem?_cons_zero]; rfl
                      case wN_25 => rfl
                      case qN_25 => exact fun _ _ _ h => h
                      try simp only [Act.put, List.setIfInBounds_toArray, List.set_cons_zero, List.set_cons_succ]
                      refine wpAnyH_take (i := 26) (oi := ?oN_26) (v := ?vN_26) ?eN_26 (by kernel_rfl) (by kernel_rfl) (by kernel_rfl) ?qN_26 (Or.inl ⟨?wN_26, ?yN_26⟩) (by assumption) ?rN_26
                      case eN_26 => simp only [List.getElem?_toArray, List.getElem?_cons_succ, List.getElem?_cons_zero]; rfl
                      case wN_26 => rfl
                      case qN_26 => exact fun _ _ _ h => h
                      case yN_26 => (intro w hSw; (try dsimp only at hSw); go_simp; try with_reducible rfl)
                      try simp only [Act.put, List.setIfInBounds_toArray, List.set_cons_zero, List.set_cons_succ]
                      refine wpAnyH_take (i := 27) (oi := ?oN_27) (v := ?vN_27) ?eN_27 (by kernel_rfl) (by kernel_rfl) (by kernel_rfl) ?qN_27 (Or.inl ⟨?wN_27, ?yN_27⟩) (by assumption) ?rN_27
                      case eN_27 => simp only [List.getElem?_toArray, List.getElem?_cons_succ, List.getElem?_cons_zero]; rfl
                      case wN_27 => rfl
                      case qN_27 => exact fun _ _ _ h => h
                      case yN_27 => (intro w hSw; (try dsimp only at hSw); go_simp; try with_reducible rfl)
                      try simp only [Act.put, List.setIfInBounds_toArray, List.set_cons_zero, List.set_cons_succ]
                      refine wpAnyH_done (by kernel_rfl) ?_ _
                      have HBX : Hid (Below wr.heap.size wr x1) := below_of_drew hbx1
                      clear hbx1 HC1 HC2 HK1 HK2
                      go_wp2_with fail
                      go_meet
                      exact ⟨⟨false, rfl, by show _ ↔ _; simp [HNO.out]⟩, HBX.out⟩
                    | true =>
                      have HNO : Hid (decide (p.seq ≤ a) = true ↔ Older W l (i + 1) k) := by
                        show _ ↔ _
                        rw [HOD.out]
                        simp [of_decide_eq_true HR.out]
                      go_wp2_with fail
                      go_region_held3 (fun w' => (w'.cell? ⟨ba, oa + i * 4, none⟩ = some pk ∧ w'.cell? ⟨ba, oa + i * 4 + 1, none⟩ = some (.int .u64 p.seq) ∧ w'.cell? ⟨ba, oa + i * 4 + 2, none⟩ = some (.int .i64 p.kind) ∧ w'.cell? ⟨ba, oa + i * 4 + 3, none⟩ = some pv) ∧ (w'.cell? ⟨ba, oa + (i + 1) * 4, none⟩ = some ek ∧ w'.cell? ⟨ba, oa + (i + 1) * 4 + 1, none⟩ = some (.int .u64 e.seq) ∧ w'.cell? ⟨ba, oa + (i + 1) * 4 + 2, none⟩ = some (.int .i64 e.kind) ∧ w'.cell? ⟨ba, oa + (i + 1) * 4 + 3, none⟩ = some ev) ∧ w'.cell? ⟨bw, ow + k, none⟩ = some (.int .u64 a))
                        (first | exact ⟨HC1.out, HC2.out, HC3.out⟩ | exact ⟨HC1.out.keep hbx1 HZ1.out, HC2.out.keep hbx1 HZ1.out, (hbx1.cell (p := ⟨bw, ow + k, none⟩) HZ2.out).trans HC3.out⟩)
                        (first | (go_at_call 71; refine Calls.mono (rsame15_at _ _ p e true HR.out pk pv ek ev _ HK1.out HK2.out) ?_; rintro _ x1 ⟨rfl, hbx1⟩; skip))
                      have HBX : Hid (Below wr.heap.size wr x1) := below_of_drew hbx1
                      clear hbx1 HC1 HC2 HK1 HK2 HC3
                      go_wp2_with fail
                      go_meet
                      exact ⟨⟨_, rfl, HNO.out⟩, HBX.out⟩
                case rest =>
                  obtain ⟨⟨b, rfl, HNW⟩, HBc⟩ := hcut
                  have HBLc := Lib.hid (HBL.out.below HBc.out)
                  have HAc := Lib.hid (HAr.out.below HBc.out)
                  have HKc := Lib.hid (HKr.out.below HBc.out)
                  have HWc : Hid (Below w.heap.size w wc) := HB.out.trans (HBc.out.mono HB.out.size)
                  obtain ⟨_, _, _, _, hec⟩ := HCA.out i (by omega)
                  have c1 : wc.cell? ⟨ba, oa + i * 4 + 1, none⟩ = some (.int .u64 (eat l i).seq) := (hec.keep HBc.out HBA.out).2.1
                  have c2 := (HBc.out.cell (p := ⟨bw, ow + k, none⟩) HBW.out).trans HCW.out
                  have z0 := HBLc.out.cell (j := i) (by omega)
                  have z1 := HBLc.out.free i
                  have HON : Hid (One W l i k ↔ (eat l i).seq ≤ a ∧ b = false) := by
                    show _ ↔ _
                    unfold One
                    rw [HAA.out, ← HNW.out]
                    simp
                  obtain ⟨x, hx⟩ : ∃ x, (eat l i).seq = x := ⟨_, rfl⟩
                  rw [hx] at c1 HON
                  clear hx hec HCA HBL HAr HKr HB HBc HCW HNW
                  by_cases hxa : x ≤ a
                  · cases b with
                    | false =>
                      have HM2 : Hid (MkV W l i (k + 1) (fun j => if j = i then true else f j)) := HMV.out.on (HON.out.2 ⟨hxa, rfl⟩)
                      have HBL9 := Lib.hid (HBLc.out.mark (i := i) (by omega))
                      go_wp2_with fail
                      go_quiet (fail)
                      all_goals
                        go_wp2_with fail
                        go_roundw
                        · exact ⟨k + 1, _, by go_num, by omega, HM2.out, HBL9.out.below (below_dn (Below.refl _ _) _), (keep_setF HAc.out).below (below_dn (Below.refl _ _) _), (keep_setF HKc.out).below (below_dn (Below.refl _ _) _), below_dn (HWc.out.setCell HOB.out _) _⟩
                        · simp only [intOf]; omega
                    | true =>
                      have HM2 : Hid (MkV W l i (k + 1) f) := HMV.out.off fun h => by have := (HON.out.1 h).2; cases this
                      go_wp2_with fail
                      go_quiet (fail)
                      all_goals
                        go_wp2_with fail
                        go_roundw
                        · exact ⟨k + 1, f, by go_num, by omega, HM2.out, HBLc.out.below (below_dn (Below.refl _ _) _), HAc.out.below (below_dn (Below.refl _ _) _), HKc.out.below (below_dn (Below.refl _ _) _), below_dn HWc.out _⟩
                        · simp only [intOf]; omega
                  · have hxa' : decide (x ≤ a) = false := decide_eq_false hxa
                    have HM2 : Hid (MkV W l i (k + 1) f) := HMV.out.off fun h => hxa (HON.out.1 h).1
                    go_wp2_with fail
                    go_quiet (fail)
                    all_goals
                      go_wp2_with fail
                      go_roundw
                      · exact ⟨k + 1, f, by go_num, by omega, HM2.out, HBLc.out.below (below_dn (Below.refl _ _) _), HAc.out.below (below_dn (Below.refl _ _) _), HKc.out.below (below_dn (Below.refl _ _) _), below_dn HWc.out _⟩
                      · simp only [intOf]; omega
              · have t2 : ¬ (k : Int) < (m : Int) + 1 := by omega
                have hkm : k = m + 1 := by omega
                have HM2 : Hid (MkV W l (i + 1) 0 f) := by
                  have h := HMV.out
                  rw [hkm, ← HQ.out] at h
                  exact h.close
                clear hkm HMV
                go_wp2_with fail
                go_roundw
                · exact ⟨i + 1, f, by go_num, by omega, HM2.out, HBL.out, HAr.out, HKr.out, HB.out⟩
                · simp only [intOf]; omega
          · have t1 : ¬ (i : Int) < (n : Int) := by omega
            have hin : i = n := by omega
            have HP : Hid (VisPost l looks w (.returned (.tuple #[.slice (some ⟨ob, 0, none⟩) n n, .int .i64 0])) wr) := by
              refine ⟨fun _ => ⟨ob, HOB.out, by rw [HN.out], ?_⟩, fun h => absurd HC0.out h, HB.out⟩
              have h := HMV.out
              rw [hin, ← HN.out] at h
              rw [HN.out]
              exact HBL.out.congr fun j hj => HDN.out f h j (by rw [HN.out]; exact hj)
            clear hin
            go_wp2_with fail
            go_ret2
            exact HP.out
end Go.Proofs.Ytmpapipobjoboaa
