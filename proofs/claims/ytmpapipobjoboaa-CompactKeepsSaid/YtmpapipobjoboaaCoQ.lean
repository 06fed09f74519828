/- The document's answer for compact: Row. -/
import Derived.Test.YtmpapipobjoboaaCoP
namespace Go.Proofs.Ytmpapipobjoboaa
open Go.RowKit

def Tail (bt : Bool) (κ : List UInt8) (o : List Ent) : Prop := bt = true ∧ ∃ p x, o = p ++ [x] ∧ x.key = κ ∧ x.kind = 2
theorem popT_end {κ : List UInt8} {o : List Ent} (h : ¬ Tail true κ o) : popT κ o = o := by
  rcases List.eq_nil_or_concat o with rfl | ⟨p, x, rfl⟩
  · rfl
  · rw [List.concat_eq_append] at h ⊢
    exact popT_stop fun e => h ⟨rfl, p, x, rfl, e.1, e.2⟩
theorem snoc_inj {α : Type} {p q : List α} {x y : α} (h : p ++ [x] = q ++ [y]) : p = q ∧ x = y := by
  have := List.append_inj' h rfl
  exact ⟨this.1, by simpa using this.2⟩
theorem tail_snoc {bt : Bool} {κ : List UInt8} {p : List Ent} {x : Ent} : Tail bt κ (p ++ [x]) ↔ bt = true ∧ x.key = κ ∧ x.kind = 2 := by
  constructor
  · rintro ⟨h, q, y, e, h1, h2⟩
    obtain ⟨rfl, rfl⟩ := snoc_inj e
    exact ⟨h, h1, h2⟩
  · rintro ⟨h, h1, h2⟩
    exact ⟨h, p, x, rfl, h1, h2⟩
theorem tail_nil {bt : Bool} {κ : List UInt8} : ¬ Tail bt κ [] := by
  rintro ⟨_, p, x, e, _⟩
  simp at e

def RRowPost (X : List Ent) (c : Int) (w : World) (x : Ending) (w' : World) : Prop :=
  (c = 0 → ∃ a cp, x = .returned (.tuple #[.slice a X.length cp, .int .i64 0]) ∧ Rw entK Any w' (.slice a X.length cp) X) ∧
  (c ≠ 0 → x = .returned (.tuple #[.slice none 0 0, .int .i64 2])) ∧ Below w.heap.size w w'

set_option maxRecDepth 100000 in
set_option maxHeartbeats 8000000 in
theorem rrow15_any (F G : Nat → Prop) (v vk : Value) (l : List Ent) (looks : List Int) (bt : Bool) (w : World) (h : Rw entK F w v l) (hk : Rw unK G w vk looks) (hfew : l.length ≤ 400000) (hml : looks.length ≤ 400000) :
    Calls Try.prog 44 #[v, vk, .bool bt] w (RRowPost (rowOf looks bt l) (chkV l looks) w) := by
  have HVI := Lib.hid (rvis_any F G v vk l looks w h hk hfew hml)
  obtain ⟨xa, ca, rfl⟩ := h.isSlice
  obtain ⟨ka, kc, rfl⟩ := hk.isSlice
  have HA : Hid (Rw entK (· < w.heap.size) w (.slice xa l.length ca) l) := h.mono fun k hk _ => hk
  clear h hk
  obtain ⟨n, hn⟩ : ∃ n, l.length = n := ⟨_, rfl⟩
  have HN := Lib.hid hn
  rw [hn] at HA hfew HVI
  rw [hn]
  clear hn
  go_enter Try.func44, Try.ntmps44
  go_wp2_with fail
  refine Calls.mono HVI.out ?_
  rintro _ w1 ⟨hg, hbad, hb⟩
  have HW1 := Lib.hid hb
  clear hb HVI
  rcases chkV_or l looks with hc | hc
  case inr =>
    have e1 := hbad (by rw [hc]; decide)
    subst e1
    have HP : Hid (RRowPost (rowOf looks bt l) (chkV l looks) w (.returned (.tuple #[.slice none 0 0, .int .i64 2])) w1) := ⟨(fun e => by rw [hc] at e; cases e), fun _ => rfl, HW1.out⟩
    clear hg hbad hc
    go_wp2_with fail
    go_ret2
    exact HP.out
  obtain ⟨ob, hob, rfl, hbl⟩ := hg hc
  have HC0 := Lib.hid hc
  have HSO : Hid (Sorted l) := by
    have h1 := hc
    unfold chkV at h1
    split at h1
    · rename_i h2; exact rowB_sorted.1 h2.1
    · cases h1
  have HRR := Lib.hid (rowR_all HSO.out looks bt)
  rw [HN.out] at hbl HRR
  rw [HN.out]
  have HBL1 := Lib.hid hbl
  have HA1 := Lib.hid (HA.out.below HW1.out)
  have HSZ : Hid (w.heap.size ≤ w1.heap.size) := HW1.out.size
  clear hg hbad hc hob hbl HA
  generalize visB looks l = f at *
  go_wp2_with fail
  go_loopw [10, 11] (fun ov iv wr => ∃ (i : Nat), iv = .int .i64 (i : Int) ∧ i ≤ n ∧ Hid (ROwnF entK (· < w.heap.size) w1.heap.size 29 wr ov (rowR bt f l i)) ∧ Hid (Below w1.heap.size w1 wr)) (fun _ iv _ => n - (intOf iv).toNat)
  case atStart => exact ⟨0, rfl, by omega, ROwnF.nil _ _ _ _ _, Below.refl _ _⟩
  case round =>
    obtain ⟨i, rfl, hi, HRO, HB⟩ := hrel
    obtain ⟨oo, oc, rfl⟩ := HRO.out.isSlice
    by_cases hlt : i < n
    · have t1 : (i : Int) < (n : Int) := by omega
      have t3 : 0 ≤ (i : Int) := by omega
      have HAr := Lib.hid (HA1.out.below HB.out)
      have HBL := Lib.hid (HBL1.out.below HB.out)
      obtain ⟨ba, oa, capa, ea, _, hba, hca⟩ := ents_at HAr.out (by rw [HN.out]; omega)
      injection ea with e1 e2 e3
      subst e1 e3
      clear e2
      have HCA : Hid (∀ i, i < n → ∃ vk vv, Bytes (· < w.heap.size) wr vk (eat l i).key ∧ Bytes (· < w.heap.size) wr vv (eat l i).value ∧ C4o ba (oa + i * 4) (eat l i) vk vv wr) := by
        intro i hi
        have hil : i < l.length := by rw [HN.out]; exact hi
        obtain ⟨vk, vv, g1, g2, g3⟩ := hca i hil
        rw [eat_eq hil] at g1 g2 g3
        exact ⟨vk, vv, g1, g2, g3⟩
      have HBA : Hid (ba < wr.heap.size) := hba
      clear hca hba
      obtain ⟨ek, ev, hek, hev, hec⟩ := HCA.out i hlt
      have hRS := rowR_succ bt f l i
      have HRL : Hid ((rowR bt f l i).length ≤ 400000) := Nat.le_trans (rowR_len bt f l i) (by omega)
      obtain ⟨o0, ho0⟩ : ∃ o0, rowR bt f l i = o0 := ⟨_, rfl⟩
      rw [ho0] at hRS HRO HRL
      rw [ho0]
      clear ho0
      obtain ⟨o, ho⟩ : ∃ o, (o0 ++ if f i = true then [eat l i] else []) = o := ⟨_, rfl⟩
      rw [ho, HN.out] at hRS
      have HRS := Lib.hid hRS
      have HOO := Lib.hid ho
      clear hRS ho
      have cbl := HBL.out.cell (j := i) hlt
      obtain ⟨b0, hb0⟩ : ∃ b, f i = b := ⟨_, rfl⟩
      rw [hb0] at cbl
      have HB0 := Lib.hid hb0
      clear hb0
      go_upto_if 30 with fail
      clear cbl
      go_cut [10] from 31 to 37 (fun ov wx => ∃ a c, ov = .slice a o.length c ∧ Hid (ROwnF entK (· < w.heap.size) w1.heap.size 29 wx (.slice a o.length c) o) ∧ Hid (Below w1.heap.size w1 wx) ∧ Hid (Below w.heap.size wr wx))
      case first =>
        cases b0 with
        | false =>
          have HO2 : Hid (o = o0) := by show _ = _; rw [← HOO.out, if_neg (by rw [HB0.out]; decide), List.append_nil]
          clear hek hev hec
          go_wp2_with fail
          go_meet
          refine ⟨oo, oc, by rw [HO2.out], ?_, HB.out, Below.refl _ _⟩
          rw [HO2.out]; exact HRO.out
        | true =>
          obtain ⟨e, he⟩ : ∃ e, eat l i = e := ⟨_, rfl⟩
          have HO2 : Hid (o = o0 ++ [e]) := by show _ = _; rw [← HOO.out, if_pos HB0.out, he]
          rw [he] at hek hev hec
          clear he
          have HEK := Lib.hid hek
          have HEV := Lib.hid hev
          obtain ⟨c0, c1, c2, c3⟩ := hec
          clear hek hev
          go_wp2_with (with_reducible refine pause_append ?_)
          clear c0 c1 c2 c3
          refine list_gen fun w3 hw3 => ?_
          have HB3 : Hid (Below wr.heap.size wr w3) := by rw [hw3]; exact (Below.refl _ _).alloc (Nat.le_refl _) _
          have HS3 : Hid (Blk w3 wr.heap.size #[ek, .int .u64 e.seq, .int .i64 e.kind, ev] 29) := by rw [hw3]; exact Blk.at_new rfl rfl
          clear hw3
          have HRO3 := Lib.hid (HRO.out.below HB3.out)
          have HW3 : Hid (Below w1.heap.size w1 w3) := HB.out.trans (HB3.out.mono HB.out.size)
          have hle : w.heap.size ≤ w1.heap.size := HSZ.out
          have hfm : ∀ k, k < w.heap.size → k < w.heap.size ∧ (Value.slice oo o0.length oc).ownBlock ≠ some k := fun k hk => ⟨hk, fun e0 => by have := (HRO.out.lt k e0).1; omega⟩
          have HK3 : Hid (Bytes (fun k => k < w.heap.size ∧ (Value.slice oo o0.length oc).ownBlock ≠ some k) w3 ek e.key) := (HEK.out.below HB3.out).mono fun k _ hk => hfm k hk
          have HV3 : Hid (Bytes (fun k => k < w.heap.size ∧ (Value.slice oo o0.length oc).ownBlock ≠ some k) w3 ev e.value) := (HEV.out.below HB3.out).mono fun k _ hk => hfm k hk
          clear hfm hle
          refine Pause.go (wpList_append_elF (K := entK) 31 29 _ 64 Try.underlying31 info_entO rfl (· < w.heap.size) w1.heap.size _ o0 wr.heap.size 29 _ e rfl _ _ rfl rfl rfl HRO3.out HS3.out ⟨_, _, rfl, HK3.out, HV3.out⟩ (Nat.lt_of_le_of_lt HRL.out (by decide)) (by decide) HW3.out.size ?_)
          intro v4 w4 hro hg
          have HRO4 := Lib.hid hro
          have HB4 : Hid (Below w1.heap.size w3 w4) := hg.below HW3.out.size fun k e0 => (HRO3.out.lt k e0).1
          have HW4 : Hid (Below w1.heap.size w1 w4) := HW3.out.trans HB4.out
          have HX4 : Hid (Below w.heap.size wr w4) := (HB3.out.mono (Nat.le_trans HSZ.out HB.out.size)).trans (HB4.out.mono HSZ.out)
          clear hro hg HRO3 HK3 HV3 HS3 HB3 HW3 HB4
          obtain ⟨o4, c4, rfl⟩ := HRO4.out.isSlice
          go_wp2_with fail
          go_meet
          exact ⟨o4, c4, by rw [HO2.out, List.length_append, List.length_singleton], by rw [HO2.out]; exact HRO4.out, HW4.out, HX4.out⟩
      case rest =>
        obtain ⟨o2, c2, rfl, HRO2, HW2, HX2⟩ := hcut
        have HOL : Hid (o.length ≤ 400001) := by
          show _ ≤ _
          rw [← HOO.out, List.length_append]
          have := HRL.out
          split
          · rw [List.length_singleton]; omega
          · rw [List.length_nil]; omega
        have HCB : Hid (∀ i, i < n → ∃ vk vv, Bytes (· < w.heap.size) wc vk (eat l i).key ∧ Bytes (· < w.heap.size) wc vv (eat l i).value ∧ C4o ba (oa + i * 4) (eat l i) vk vv wc) := by
          obtain ⟨ba', oa', capa', ea', _, _, hca'⟩ := ents_at (HA1.out.below HW2.out) (by rw [HN.out]; omega)
          injection ea' with e1 e2 e3
          injection e1 with e1
          injection e1 with e1 e4
          subst e1 e4
          intro i hi
          have hil : i < l.length := by rw [HN.out]; exact hi
          obtain ⟨vk, vv, g1, g2, g3⟩ := hca' i hil
          rw [eat_eq hil] at g1 g2 g3
          exact ⟨vk, vv, g1, g2, g3⟩
        have HBC : Hid (ba < wc.heap.size) := Nat.lt_of_lt_of_le HBA.out HX2.out.size
        clear HRO HB HAr HBL HCA HBA hek hev hec HRL HOO HX2
        go_upto_region 10 with fail
        go_cut [54] from 38 to 53 (fun x wx => (∃ b : Bool, x = .bool b ∧ Hid (b = true ↔ (i + 1 < n ∧ (eat l i).key = (eat l (i + 1)).key))) ∧ Hid (Below wc.heap.size wc wx))
        case first =>
          by_cases hl1 : i + 1 < n
          · have t4 : IntKind.i64.wrap ((i : Int) + 1) = (i : Int) + 1 := wrap_small (by omega) (by omega)
            have t6 : (i : Int) + 1 < (n : Int) := by omega
            have t7 : 0 ≤ (i : Int) + 1 := by omega
            have t8 : ((i : Int) + 1).toNat = i + 1 := by omega
            obtain ⟨pk, pv, hpk, _, hpc⟩ := HCB.out i (by omega)
            obtain ⟨ek, ev, hek, _, hec⟩ := HCB.out (i + 1) hl1
            obtain ⟨p, hp⟩ : ∃ p, eat l i = p := ⟨_, rfl⟩
            obtain ⟨e, he⟩ : ∃ e, eat l (i + 1) = e := ⟨_, rfl⟩
            have HPP := Lib.hid hp
            have HEE := Lib.hid he
            have HL1 := Lib.hid hl1
            rw [hp] at hpk hpc
            rw [he] at hek hec
            clear hp he hl1
            have HK1 := Lib.hid (hpk.below (below_drew (Below.refl _ _)))
            have HK2 := Lib.hid (hek.below (below_drew (Below.refl _ _)))
            have HC1 : Hid (C4o ba (oa + i * 4) p pk pv wc.drew) := hpc
            have HC2 : Hid (C4o ba (oa + (i + 1) * 4) e ek ev wc.drew) := hec
            have HZ1 : Hid (ba < wc.drew.heap.size) := HBC.out
            obtain ⟨r, hr⟩ : ∃ r, decide (p.key = e.key) = r := ⟨_, rfl⟩
            have HR := Lib.hid hr
            clear hpk hek hpc hec hr
            go_wp2_with fail
            go_region_held3 (fun w' => (w'.cell? ⟨ba, oa + i * 4, none⟩ = some pk ∧ w'.cell? ⟨ba, oa + i * 4 + 1, none⟩ = some (.int .u64 p.seq) ∧ w'.cell? ⟨ba, oa + i * 4 + 2, none⟩ = some (.int .i64 p.kind) ∧ w'.cell? ⟨ba, oa + i * 4 + 3, none⟩ = some pv) ∧ (w'.cell? ⟨ba, oa + (i + 1) * 4, none⟩ = some ek ∧ w'.cell? ⟨ba, oa + (i + 1) * 4 + 1, none⟩ = some (.int .u64 e.seq) ∧ w'.cell? ⟨ba, oa + (i + 1) * 4 + 2, none⟩ = some (.int .i64 e.kind) ∧ w'.cell? ⟨ba, oa + (i + 1) * 4 + 3, none⟩ = some ev))
              (first | exact ⟨HC1.out, HC2.out⟩ | exact ⟨HC1.out.keep hbx1 HZ1.out, HC2.out.keep hbx1 HZ1.out⟩)
              (first | (go_at_call 71; refine Calls.mono (rsame15_at _ _ p e r HR.out pk pv ek ev _ HK1.out HK2.out) ?_; rintro _ x1 ⟨rfl, hbx1⟩; skip))
            have HBX : Hid (Below wc.heap.size wc x1) := below_of_drew hbx1
            have HIG : Hid (r = true ↔ (i + 1 < n ∧ (eat l i).key = (eat l (i + 1)).key)) := by show _ ↔ _; rw [HPP.out, HEE.out, ← HR.out]; simp [HL1.out]
            clear hbx1 HC1 HC2 HK1 HK2
            go_wp2_with fail
            go_meet
            exact ⟨⟨_, rfl, HIG.out⟩, HBX.out⟩
          · have t4 : IntKind.i64.wrap ((i : Int) + 1) = (i : Int) + 1 := wrap_small (by omega) (by omega)
            have t6 : decide ((i : Int) + 1 < (n : Int)) = false := decide_eq_false (by omega)
            have HL1 := Lib.hid hl1
            clear hl1
            go_wp2_with fail
            go_quiet (fail)
            all_goals
              go_wp2_with fail
              go_meet
              exact ⟨⟨false, rfl, by show _ ↔ _; simp [HL1.out]⟩, below_dn (Below.refl _ _) _⟩
        case rest =>
          obtain ⟨⟨b, rfl, HBB⟩, HBc⟩ := hcut
          have HRO3 := Lib.hid (HRO2.out.below HBc.out)
          have HW3 : Hid (Below w1.heap.size w1 wc) := HW2.out.trans (HBc.out.mono HW2.out.size)
          clear HRO2 HW2 HCB HBC HBc
          cases b with
          | true =>
            have HNX : Hid (rowR bt f l (i + 1) = o) := by show _ = _; rw [HRS.out, if_neg (fun e => e.2 (HBB.out.1 rfl))]
            clear HBB HRS
            go_wp2_with fail
            go_roundw
            · exact ⟨i + 1, by go_num, by omega, by rw [HNX.out]; exact HRO3.out, HW3.out⟩
            · simp only [intOf]; omega
          | false =>
            have HTG : Hid ((if bt = true then popT (eat l i).key o else o) = rowR bt f l (i + 1)) := by
              show _ = _
              rw [HRS.out]
              by_cases hbt : bt = true
              · rw [if_pos hbt, if_pos ⟨hbt, fun e => by have := HBB.out.2 e; cases this⟩]
              · rw [if_neg hbt, if_neg fun e => hbt e.1]
            clear HBB HRS
            obtain ⟨Z, hZ⟩ : ∃ Z, rowR bt f l (i + 1) = Z := ⟨_, rfl⟩
            have HZZ := Lib.hid hZ
            rw [hZ] at HTG
            clear hZ
            go_wp2_with fail
            go_loopg [10] o.length (fun m ov wr => ∃ (q : List Ent), m = q.length ∧ q.length ≤ 400001 ∧ Hid ((if bt = true then popT (eat l i).key q else q) = Z) ∧ Hid (ROwnF entK (· < w.heap.size) w1.heap.size 29 wr ov q) ∧ Hid (Below w1.heap.size w1 wr))
            case atStart => exact ⟨o, rfl, HOL.out, HTG.out, HRO3.out, HW3.out⟩
            case round =>
              obtain ⟨q, hm, hq, HT, HROq, HBq⟩ := hrel
              have HMM := Lib.hid hm
              clear hm HTG HRO3 HW3
              obtain ⟨qa, qc, rfl⟩ := HROq.out.isSlice
              obtain ⟨ql, hql⟩ : ∃ ql, q.length = ql := ⟨_, rfl⟩
              have HQL := Lib.hid hql
              rw [hql] at HROq hq
              rw [hql]
              clear hql
              obtain ⟨ba', oa', capa', ea', _, hba', hca'⟩ := ents_at (HA1.out.below HBq.out) (by rw [HN.out]; omega)
              injection ea' with e1 e2 e3
              injection e1 with e1
              injection e1 with e1 e4
              subst e1 e4
              obtain ⟨ek, ev, hek, hev, hec⟩ := hca' i (by rw [HN.out]; exact hlt)
              rw [eat_eq (by rw [HN.out]; exact hlt)] at hek hec
              obtain ⟨e, he⟩ : ∃ e, eat l i = e := ⟨_, rfl⟩
              have HE := Lib.hid he
              rw [he] at hek hec HT
              clear he
              have HEK := Lib.hid hek
              have HEC : Hid (C4o ba (oa + i * 4) e ek ev wr) := hec
              have HBA : Hid (ba < wr.heap.size) := hba'
              clear hek hev hec hca' hba' e2 e3
              go_upto_region 11 with fail
              go_cut [83] from 55 to 82 (fun x wx => (∃ b : Bool, x = .bool b ∧ Hid (b = true ↔ Tail bt e.key q)) ∧ Hid (Below wr.heap.size wr wx))
              case first =>
                cases bt with
                | false =>
                  go_wp2_with fail
                  go_quiet (fail)
                  all_goals
                    go_wp2_with fail
                    go_meet
                    exact ⟨⟨false, rfl, by show _ ↔ _; simp [Tail]⟩, below_dn (Below.refl _ _) _⟩
                | true =>
                  rcases List.eq_nil_or_concat q with rfl | ⟨p, x, rfl⟩
                  · obtain rfl : ql = 0 := HQL.out.symm
                    have t9 : decide ((0 : Int) < 0) = false := rfl
                    go_wp2_with fail
                    go_quiet (fail)
                    all_goals
                      go_wp2_with fail
                      go_meet
                      exact ⟨⟨false, rfl, by show _ ↔ _; simp [tail_nil]⟩, below_dn (Below.refl _ _) _⟩
                  · rw [List.concat_eq_append] at *
                    obtain ⟨m1, hm1⟩ : ∃ m1, p.length = m1 := ⟨_, rfl⟩
                    have hlen : (p ++ [x]).length = m1 + 1 := by rw [List.length_append, hm1]; rfl
                    have hqm : ql = m1 + 1 := by rw [← HQL.out, hlen]
                    obtain ⟨bq, oq, capq, eq, _, hbq, hcq⟩ := ents_at HROq.out.rows (by omega)
                    obtain ⟨xk, xv, hxk, hxv, hxc⟩ := hcq m1 (by omega)
                    have hx : (p ++ [x])[m1]'(by omega) = x := by simp [← hm1]
                    rw [hx] at hxk hxc
                    clear hxv
                    injection eq with e1 e2 e3
                    subst e1 e3
                    clear e2 hx hcq
                    have t10 : IntKind.i64.wrap ((ql : Int) - 1) = (m1 : Int) := by rw [wrap_small (by omega) (by omega)]; omega
                    have t11 : IntKind.i64.wrap (m1 : Int) = (m1 : Int) := wrap_small (by omega) (by omega)
                    have t12 : (m1 : Int) < (ql : Int) := by omega
                    have t13 : 0 ≤ (m1 : Int) := by omega
                    have t14 : 0 < (ql : Int) := by omega
                    have t15 : 0 < ql := by omega
                    have t16 : m1 < ql := by omega
                    clear hqm
                    have HK1 := Lib.hid (hxk.below (below_drew (Below.refl _ _)))
                    have HK2 := Lib.hid (HEK.out.below (below_drew (Below.refl _ _)))
                    have HC1 : Hid (C4o bq (oq + m1 * 4) x xk xv wr.drew) := hxc
                    have HC2 : Hid (C4o ba (oa + i * 4) e ek ev wr.drew) := HEC.out
                    have HZ1 : Hid (bq < wr.drew.heap.size) := hbq
                    have HZ2 : Hid (ba < wr.drew.heap.size) := HBA.out
                    obtain ⟨r, hr⟩ : ∃ r, decide (x.key = e.key) = r := ⟨_, rfl⟩
                    have HR := Lib.hid hr
                    clear hxk hxc hbq hr hlen hm1 hq HROq
                    cases r with
                    | false =>
                      have HNO : Hid (¬ Tail true e.key (p ++ [x])) := fun h => (of_decide_eq_false HR.out) (tail_snoc.1 h).2.1
                      go_wp2_with fail
                      refine wp_region_held_drew (S := (fun w' => (w'.cell? ⟨bq, oq + m1 * 4, none⟩ = some xk ∧ w'.cell? ⟨bq, oq + m1 * 4 + 1, none⟩ = some (.int .u64 x.seq) ∧ w'.cell? ⟨bq, oq + m1 * 4 + 2, none⟩ = some (.int .i64 x.kind) ∧ w'.cell? ⟨bq, oq + m1 * 4 + 3, none⟩ = some xv) ∧ (w'.cell? ⟨ba, oa + i * 4, none⟩ = some ek ∧ w'.cell? ⟨ba, oa + i * 4 + 1, none⟩ = some (.int .u64 e.seq) ∧ w'.cell? ⟨ba, oa + i * 4 + 2, none⟩ = some (.int .i64 e.kind) ∧ w'.cell? ⟨ba, oa + i * 4 + 3, none⟩ = some ev))) (by kernel_rfl) (⟨HC1.out, HC2.out⟩) (fun hHeld => ?_)
                      refine wpAnyH_take (i := 0) (oi := ?oQ_0) (v := ?vQ_0) ?eQ_0 (by kernel_rfl) (by kernel_rfl) (by kernel_rfl) ?qQ_0 (Or.inl ⟨?wQ_0, ?yQ_0⟩) (by assumption) ?rQ_0
                      case eQ_0 => simp only [List.getElem?_toArray, List.getElem?_cons_zero]; rfl
                      case wQ_0 => rfl
                      case qQ_0 => exact fun _ _ _ h => h
                      case yQ_0 => (intro w hSw; (try dsimp only at hSw); go_simp; try with_reducible rfl)
                      try simp only [Act.put, List.setIfInBounds_toArray, List.set_cons_zero, List.set_cons_succ]
                      refine wpAnyH_take (i := 1) (oi := ?oQ_1) (v := ?vQ_1) ?eQ_1 (by kernel_rfl) (by kernel_rfl) (by kernel_rfl) ?qQ_1 (Or.inl ⟨?wQ_1, ?yQ_1⟩) (by assumption) ?rQ_1
                      case eQ_1 => simp only [List.getElem?_toArray, List.getElem?_cons_succ, List.getElem?_cons_zero]; rfl
                      case wQ_1 => rfl
                      case qQ_1 => exact fun _ _ _ h => h
                      case yQ_1 => (intro w hSw; (try dsimp only at hSw); go_simp; try with_reducible rfl)
                      try simp only [Act.put, List.setIfInBounds_toArray, List.set_cons_zero, List.set_cons_succ]
                      refine wpAnyH_take (i := 2) (oi := ?oQ_2) (v := ?vQ_2) ?eQ_2 (by kernel_rfl) (by kernel_rfl) (by kernel_rfl) ?qQ_2 (Or.inl ⟨?wQ_2, ?yQ_2⟩) (by assumption) ?rQ_2
                      case eQ_2 => simp only [List.getElem?_toArray, List.getElem?_cons_succ, List.getElem?_cons_zero]; rfl
                      case wQ_2 => rfl
                      case qQ_2 => exact fun _ _ _ h => h
                      case yQ_2 => (intro w hSw; (try dsimp only at hSw); go_simp; try with_reducible rfl)
                      try simp only [Act.put, List.setIfInBounds_toArray, List.set_cons_zero, List.set_cons_succ]
                      refine wpAnyH_take (i := 3) (oi := ?oQ_3) (v := ?vQ_3) ?eQ_3 (by kernel_rfl) (by kernel_rfl) (by kernel_rfl) ?qQ_3 (Or.inl ⟨?wQ_3, ?yQ_3⟩) (by assumption) ?rQ_3
                      case eQ_3 => simp only [List.getElem?_toArray, List.getElem?_cons_succ, List.getElem?_cons_zero]; rfl
                      case wQ_3 => rfl
                      case qQ_3 => exact fun _ _ _ h => h
                      case yQ_3 => (intro w hSw; (try dsimp only at hSw); go_simp; try with_reducible rfl)
                      try simp only [Act.put, List.setIfInBounds_toArray, List.set_cons_zero, List.set_cons_succ]
                      refine wpAnyH_take (i := 4) (oi := ?oQ_4) (v := ?vQ_4) ?eQ_4 (by kernel_rfl) (by kernel_rfl) (by kernel_rfl) ?qQ_4 (Or.inl ⟨?wQ_4, ?yQ_4⟩) (by assumption) ?rQ_4
                      case eQ_4 => simp only [List.getElem?_toArray, List.getElem?_cons_succ, List.getElem?_cons_zero]; rfl
                      case wQ_4 => rfl
                      case qQ_4 => exact fun _ _ _ h => h
                      case yQ_4 => (intro w hSw; (try dsimp only at hSw); go_simp; try with_reducible rfl)
                      try simp only [Act.put, List.setIfInBounds_toArray, List.set_cons_zero, List.set_cons_succ]
                      refine wpAnyH_take (i := 5) (oi := ?oQ_5) (v := ?vQ_5) ?eQ_5 (by kernel_rfl) (by kernel_rfl) (by kernel_rfl) ?qQ_5 (Or.inl ⟨?wQ_5, ?yQ_5⟩) (by assumption) ?rQ_5
                      case eQ_5 => simp only [List.getElem?_toArray, List.getElem?_cons_succ, List.getElem?_cons_zero]; rfl
                      case wQ_5 => rfl
                      case qQ_5 => exact fun _ _ _ h => h
                      case yQ_5 => (intro w hSw; (try dsimp only at hSw); go_simp; try with_reducible rfl)
                      try simp only [Act.put, List.setIfInBounds_toArray, List.set_cons_zero, List.set_cons_succ]
                      refine wpAnyH_take (i := 6) (oi := ?oQ_6) (v := ?vQ_6) ?eQ_6 (by kernel_rfl) (by kernel_rfl) (by kernel_rfl) ?qQ_6 (Or.inl ⟨?wQ_6, ?yQ_6⟩) (by assumption) ?rQ_6
                      case eQ_6 => simp only [List.getElem?_toArray, List.getElem?_cons_succ, List.getElem?_cons_zero]; rfl
                      case wQ_6 => rfl
                      case qQ_6 => exact fun _ _ _ h => h
                      case yQ_6 => (intro w hSw; (try dsimp only at hSw); go_simp; try with_reducible rfl)
                      try simp only [Act.put, List.setIfInBounds_toArray, List.set_cons_zero, List.set_cons_succ]
                      refine wpAnyH_take (i := 7) (oi := ?oQ_7) (v := ?vQ_7) ?eQ_7 (by kernel_rfl) (by kernel_rfl) (by kernel_rfl) ?qQ_7 (Or.inl ⟨?wQ_7, ?yQ_7⟩) (by assumption) ?rQ_7
                      case eQ_7 => simp only [List.getElem?_toArray, List.getElem?_cons_succ, List.getElem?_cons_zero]; rfl
                      case wQ_7 => rfl
                      case qQ_7 => exact fun _ _ _ h => h
                      case yQ_7 => (intro w hSw; (try dsimp only at hSw); go_simp; try with_reducible rfl)
                      try simp only [Act.put, List.setIfInBounds_toArray, List.set_cons_zero, List.set_cons_succ]
                      refine wpAnyH_take (i := 8) (oi := ?oQ_8) (v := ?vQ_8) ?eQ_8 (by kernel_rfl) (by kernel_rfl) (by kernel_rfl) ?qQ_8 (Or.inl ⟨?wQ_8, ?yQ_8⟩) (by assumption) ?rQ_8
                      case eQ_8 => simp only [List.getElem?_toArray, List.getElem?_cons_succ, List.getElem?_cons_zero]; rfl
                      case wQ_8 => rfl
                      case qQ_8 => exact fun _ _ _ h => h
                      case yQ_8 => (intro w hSw; (try dsimp only at hSw); go_simp; try with_reducible rfl)
                      try simp only [Act.put, List.setIfInBounds_toArray, List.set_cons_zero, List.set_cons_succ]
                      refine wpAnyH_take (i := 9) (oi := ?oQ_9) (v := ?vQ_9) ?eQ_9 (by kernel_rfl) (by kernel_rfl) (by kernel_rfl) ?qQ_9 (Or.inl ⟨?wQ_9, ?yQ_9⟩) (by assumption) ?rQ_9
                      case eQ_9 => simp only [List.getElem?_toArray, List.getElem?_cons_succ, List.getElem?_cons_zero]; rfl
                      case wQ_9 => rfl
                      case qQ_9 => exact fun _ _ _ h => h
                      case yQ_9 => (intro w hSw; (try dsimp only at hSw); go_simp; try with_reducible rfl)
                      try simp only [Act.put, List.setIfInBounds_toArray, List.set_cons_zero, List.set_cons_succ]
                      refine wpAnyH_take (i := 10) (oi := ?oQ_10) (v := ?vQ_10) ?eQ_10 (by kernel_rfl) (by kernel_rfl) (by kernel_rfl) ?qQ_10 (Or.inl ⟨?wQ_10, ?yQ_10⟩) (by assumption) ?rQ_10
                      case eQ_10 => simp only [List.getElem?_toArray, List.getElem?_cons_succ, List.getElem?_cons_zero]; rfl
                      case wQ_10 => rfl
                      case qQ_10 => exact fun _ _ _ h => h
                      case yQ_10 => (intro w hSw; (try dsimp only at hSw); go_simp; try with_reducible rfl)
                      try simp only [Act.put, List.setIfInBounds_toArray, List.set_cons_zero, List.set_cons_succ]
                      refine wpAnyH_take (i := 11) (oi := ?oQ_11) (v := ?vQ_11) ?eQ_11 (by kernel_rfl) (by kernel_rfl) (by kernel_rfl) ?qQ_11 (Or.inl ⟨?wQ_11, ?yQ_11⟩) (by assumption) ?rQ_11
                      case eQ_11 => simp only [List.getElem?_toArray, List.getElem?_cons_succ, List.getElem?_cons_zero]; rfl
                      case wQ_11 => rfl
                      case qQ_11 => exact fun _ _ _ h => h
                      case yQ_11 => (intro w hSw; (try dsimp only at hSw); go_simp; try with_reducible rfl)
                      try simp only [Act.put, List.setIfInBounds_toArray, List.set_cons_zero, List.set_cons_succ]
                      refine wpAnyH_take (i := 12) (oi := ?oQ_12) (v := ?vQ_12) ?eQ_12 (by kernel_rfl) (by kernel_rfl) (by kernel_rfl) ?qQ_12 (Or.inl ⟨?wQ_12, ?yQ_12⟩) (by assumption) ?rQ_12
                      case eQ_12 => simp only [List.getElem?_toArray, List.getElem?_cons_succ, List.getElem?_cons_zero]; rfl
                      case wQ_12 => rfl
                      case qQ_12 => exact fun _ _ _ h => h
                      case yQ_12 => (intro w hSw; (try dsimp only at hSw); go_simp; try with_reducible rfl)
                      try simp only [Act.put, List.setIfInBounds_toArray, List.set_cons_zero, List.set_cons_succ]
                      refine wpAnyH_take (i := 13) (oi := ?oQ_13) (v := ?vQ_13) ?eQ_13 (by kernel_rfl) (by kernel_rfl) (by kernel_rfl) ?qQ_13 (Or.inl ⟨?wQ_13, ?yQ_13⟩) (by assumption) ?rQ_13
                      case eQ_13 => simp only [List.getElem?_toArray, List.getElem?_cons_succ, List.getElem?_cons_zero]; rfl
                      case wQ_13 => rfl
                      case qQ_13 => exact fun _ _ _ h => h
                      case yQ_13 => (intro w hSw; (try dsimp only at hSw); go_simp; try with_reducible rfl)
                      try simp only [Act.put, List.setIfInBounds_toArray, List.set_cons_zero, List.set_cons_succ]
                      refine wpAnyH_take (i := 14) (oi := ?oQ_14) (v := ?vQ_14) ?eQ_14 (by kernel_rfl) (by kernel_rfl) (by kernel_rfl) ?qQ_14 (Or.inl ⟨?wQ_14, ?yQ_14⟩) (by assumption) ?rQ_14
                      case eQ_14 => simp only [List.getElem?_toArray, List.getElem?_cons_succ, List.getElem?_cons_zero]; rfl
                      case wQ_14 => rfl
                      case qQ_14 => exact fun _ _ _ h => h
                      case yQ_14 => (intro w hSw; (try dsimp only at hSw); go_simp; try with_reducible rfl)
                      try simp only [Act.put, List.setIfInBounds_toArray, List.set_cons_zero, List.set_cons_succ]
                      refine wpAnyH_take (i := 15) (oi := ?oQ_15) (v := ?vQ_15) ?eQ_15 (by kernel_rfl) (by kernel_rfl) (by kernel_rfl) ?qQ_15 (Or.inl ⟨?wQ_15, ?yQ_15⟩) (by assumption) ?rQ_15
                      case eQ_15 => simp only [List.getElem?_toArray, List.getElem?_cons_succ, List.getElem?_cons_zero]; rfl
                      case wQ_15 => rfl
                      case qQ_15 => exact fun _ _ _ h => h
                      case yQ_15 => (intro w hSw; (try dsimp only at hSw); go_simp; try with_reducible rfl)
                      try simp only [Act.put, List.setIfInBounds_toArray, List.set_cons_zero, List.set_cons_succ]
                      refine wpAnyH_take (i := 16) (oi := ?oQ_16) (v := ?vQ_16) ?eQ_16 (by kernel_rfl) (by kernel_rfl) (by kernel_rfl) ?qQ_16 (Or.inl ⟨?wQ_16, ?yQ_16⟩) (by assumption) ?rQ_16
                      case eQ_16 => simp only [List.getElem?_toArray, List.getElem?_cons_succ, List.getElem?_cons_zero]; rfl
                      case wQ_16 => rfl
                      case qQ_16 => exact fun _ _ _ h => h
                      case yQ_16 => (intro w hSw; (try dsimp only at hSw); go_simp; try with_reducible rfl)
                      try simp only [Act.put, List.setIfInBounds_toArray, List.set_cons_zero, List.set_cons_succ]
                      refine wpAnyH_ready (rs := [17]) (by kernel_rfl) (by simp) ?_
                      refine AllReadyH.cons (o := ?oQ_17) ?eQ_17 (fun K hK => ?_) AllReadyH.nil
                      case eQ_17 => simp only [List.getElem?_toArray, List.getElem?_cons_succ, List.getElem?_cons_zero]; rfl
                      go_simp
                      (go_at_call 71; refine Calls.mono (rsame15_at _ _ x e false HR.out xk xv ek ev _ HK1.out HK2.out) ?_; rintro _ x1 ⟨rfl, hbx1⟩)
                      try go_wp2_with fail
                      refine hK.out _ _ (⟨HC1.out.keep hbx1 HZ1.out, HC2.out.keep hbx1 HZ2.out⟩) (fun hHeld => ?_)
                      clear hK
                      try simp only [Act.put, List.setIfInBounds_toArray, List.set_cons_zero, List.set_cons_succ]
                      refine wpAnyH_take (i := 18) (oi := ?oQ_18) (v := ?vQ_18) ?eQ_18 (by kernel_rfl) (by kernel_rfl) (by kernel_rfl) ?qQ_18 (Or.inl ⟨?wQ_18, ?yQ_18⟩) (by assumption) ?rQ_18
                      case eQ_18 => simp only [List.getElem?_toArray, List.getElem?_cons_succ, List.getElem?_cons_zero]; rfl
                      case wQ_18 => rfl
                      case qQ_18 => exact fun _ _ _ h => h
                      case yQ_18 => (intro w hSw; (try dsimp only at hSw); go_simp; try with_reducible rfl)
                      try simp only [Act.put, List.setIfInBounds_toArray, List.set_cons_zero, List.set_cons_succ]
                      refine wpAnyH_take (i := 19) (oi := ?oQ_19) (v := ?vQ_19) ?eQ_19 (by kernel_rfl) (by kernel_rfl) (by kernel_rfl) ?qQ_19 (Or.inl ⟨?wQ_19, ?yQ_19⟩) (by assumption) ?rQ_19
                      case eQ_19 => simp only [List.getElem?_toArray, List.getElem?_cons_succ, List.getElem?_cons_zero]; rfl
                      case wQ_19 => rfl
                      case qQ_19 => exact fun _ _ _ h => h
                      case yQ_19 => (intro w hSw; (try dsimp only at hSw); go_simp; try with_reducible rfl)
                      try simp only [Act.put, List.setIfInBounds_toArray, List.set_cons_zero, List.set_cons_succ]
                      refine wpAnyH_take (i := 20) (oi := ?oQ_20) (v := undef) ?eQ_20 (by kernel_rfl) (by kernel_rfl) (by kernel_rfl) ?qQ_20 (Or.inr ⟨?wQ_20, rfl⟩) (by assumption) ?rQ_20
                      case eQ_20 => simp only [List.getElem?_toArray, List.getElem?_cons_succ, List.getElem?_cons_zero]; rfl
                      case wQ_20 => rfl
                      case qQ_20 => exact fun _ _ _ h => h
                      try simp only [Act.put, List.setIfInBounds_toArray, List.set_cons_zero, List.set_cons_succ]
                      refine wpAnyH_take (i := 21) (oi := ?oQ_21) (v := undef) ?eQ_21 (by kernel_rfl) (by kernel_rfl) (by kernel_rfl) ?qQ_21 (Or.inr ⟨?wQ_21, rfl⟩) (by assumption) ?rQ_21
                      case eQ_21 => simp only [List.getElem?_toArray, List.getElem?_cons_succ, List.getElem?_cons_zero]; rfl
                      case wQ_21 => rfl
                      case qQ_21 => exact fun _ _ _ h => h
                      try simp only [Act.put, List.setIfInBounds_toArray, List.set_cons_zero, List.set_cons_succ]
                      refine wpAnyH_take (i := 22) (oi := ?oQ_22) (v := undef) ?eQ_22 (by kernel_rfl) (by kernel_rfl) (by kernel_rfl) ?qQ_22 (Or.inr ⟨?wQ_22, rfl⟩) (by assumption) ?rQ_22
                      case eQ_22 => simp only [List.getElem?_toArray, List.getElem?_cons_succ, List.getElem?_cons_zero]; rfl
                      case wQ_22 => rfl
                      case qQ_22 => exact fun _ _ _ h => h
                      try simp only [Act.put, List.setIfInBounds_toArray, List.set_cons_zero, List.set_cons_succ]
                      refine wpAnyH_take (i := 23) (oi := ?oQ_23) (v := undef) ?eQ_23 (by kernel_rfl) (by kernel_rfl) (by kernel_rfl) ?qQ_23 (Or.inr ⟨?wQ_23, rfl⟩) (by assumption) ?rQ_23
                      case eQ_23 => simp only [List.getElem?_toArray, List.getElem?_cons_succ, List.getElem?_cons_zero]; rfl
                      case wQ_23 => rfl
                      case qQ_23 => exact fun _ _ _ h => h
                      try simp only [Act.put, List.setIfInBounds_toArray, List.set_cons_zero, List.set_cons_succ]
                      refine wpAnyH_take (i := 24) (oi := ?oQ_24) (v := undef) ?eQ_24 (by kernel_rfl) (by kernel_rfl) (by kernel_rfl) ?qQ_24 (Or.inr ⟨?wQ_24, rfl⟩) (by assumption) ?rQ_24
                      case eQ_24 => simp only [List.getElem?_toArray, List.getElem?_cons_succ, List.getElem?_cons_zero]; rfl
                      case wQ_24 => rfl
                      case qQ_24 => exact fun _ _ _ h => h
                      try simp only [Act.put, List.setIfInBounds_toArray, List.set_cons_zero, List.set_cons_succ]
                      refine wpAnyH_take (i := 25) (oi := ?oQ_25) (v := undef) ?eQ_25 (by kernel_rfl) (by kernel_rfl) (by kernel_rfl) ?qQ_25 (Or.inr ⟨?wQ_25, rfl⟩) (by assumption) ?rQ_25
                      case eQ_25 => simp only [List.getElem?_toArray, List.getElem?_cons_succ, List.getElem?_cons_zero]; rfl
                      case wQ_25 => rfl
                      case qQ_25 => exact fun _ _ _ h => h
                      try simp only [Act.put, List.setIfInBounds_toArray, List.set_cons_zero, List.set_cons_succ]
                      refine wpAnyH_take (i := 26) (oi := ?oQ_26) (v := undef) ?eQ_26 (by kernel_rfl) (by kernel_rfl) (by kernel_rfl) ?qQ_26 (Or.inr ⟨?wQ_26, rfl⟩) (by assumption) ?rQ_26
                      case eQ_26 => simp only [List.getElem?_toArray, List.getElem?_cons_succ, List.getElem?_cons_zero]; rfl
                      case wQ_26 => rfl
                      case qQ_26 => exact fun _ _ _ h => h
                      try simp only [Act.put, List.setIfInBounds_toArray, List.set_cons_zero, List.set_cons_succ]
                      refine wpAnyH_take (i := 27) (oi := ?oQ_27) (v := undef) ?eQ_27 (by kernel_rfl) (by kernel_rfl) (by kernel_rfl) ?qQ_27 (Or.inr ⟨?wQ_27, rfl⟩) (by assumption) ?rQ_27
                      case eQ_27 => simp only [List.getElem?_toArray, List.getElem?_cons_succ, List.getElem?_cons_zero]; rfl
                      case wQ_27 => rfl
                      case qQ_27 => exact fun _ _ _ h => h
                      try simp only [Act.put, List.setIfInBounds_toArray, List.set_cons_zero, List.set_cons_succ]
                      refine wpAnyH_take (i := 28) (oi := ?oQ_28) (v := ?vQ_28) ?eQ_28 (by kernel_rfl) (by kernel_rfl) (by kernel_rfl) ?qQ_28 (Or.inl ⟨?wQ_28, ?yQ_28⟩) (by assumption) ?rQ_28
                      case eQ_28 => simp only [List.getElem?_toArray, List.getElem?_cons_succ, List.getElem?_cons_zero]; rfl
                      case wQ_28 => rfl
                      case qQ_28 => exact fun _ _ _ h => h
                      case yQ_28 => (intro w hSw; (try dsimp only at hSw); go_simp; try with_reducible rfl)
                      try simp only [Act.put, List.setIfInBounds_toArray, List.set_cons_zero, List.set_cons_succ]
                      refine wpAnyH_done (by kernel_rfl) ?_ _
                      have HBX : Hid (Below wr.heap.size wr x1) := below_of_drew hbx1
                      clear hbx1 HC1 HC2 HK1 HK2
                      go_wp2_with fail
                      go_meet
                      exact ⟨⟨false, rfl, by show _ ↔ _; simp only [HNO.out, Bool.false_eq_true]⟩, HBX.out⟩
                    | true =>
                      have HNF : Hid ((x.kind == 2) = true ↔ Tail true e.key (p ++ [x])) := by show _ ↔ _; rw [tail_snoc]; simp [of_decide_eq_true HR.out]
                      go_wp2_with fail
                      go_region_held3 (fun w' => (w'.cell? ⟨bq, oq + m1 * 4, none⟩ = some xk ∧ w'.cell? ⟨bq, oq + m1 * 4 + 1, none⟩ = some (.int .u64 x.seq) ∧ w'.cell? ⟨bq, oq + m1 * 4 + 2, none⟩ = some (.int .i64 x.kind) ∧ w'.cell? ⟨bq, oq + m1 * 4 + 3, none⟩ = some xv) ∧ (w'.cell? ⟨ba, oa + i * 4, none⟩ = some ek ∧ w'.cell? ⟨ba, oa + i * 4 + 1, none⟩ = some (.int .u64 e.seq) ∧ w'.cell? ⟨ba, oa + i * 4 + 2, none⟩ = some (.int .i64 e.kind) ∧ w'.cell? ⟨ba, oa + i * 4 + 3, none⟩ = some ev))
                        (first | exact ⟨HC1.out, HC2.out⟩ | exact ⟨HC1.out.keep hbx1 HZ1.out, HC2.out.keep hbx1 HZ2.out⟩)
                        (first | (go_at_call 71; refine Calls.mono (rsame15_at _ _ x e true HR.out xk xv ek ev _ HK1.out HK2.out) ?_; rintro _ x1 ⟨rfl, hbx1⟩; skip))
                      have HBX : Hid (Below wr.heap.size wr x1) := below_of_drew hbx1
                      clear hbx1 HC1 HC2 HK1 HK2
                      go_wp2_with fail
                      go_meet
                      first | exact ⟨⟨_, rfl, HNF.out⟩, HBX.out⟩ | exact ⟨⟨_, rfl, by simpa using HNF.out⟩, HBX.out⟩
              case rest =>
                obtain ⟨⟨b, rfl, HTB⟩, HBc⟩ := hcut
                have HROc := Lib.hid (HROq.out.below HBc.out)
                have HWc : Hid (Below w1.heap.size w1 wc) := HBq.out.trans (HBc.out.mono HBq.out.size)
                clear HROq HBq HBc HEK HEC HBA
                cases b with
                | false =>
                  have HNX : Hid (rowR bt f l (i + 1) = q) := by
                    show _ = _
                    rw [HZZ.out, ← HT.out]
                    by_cases hbt : bt = true
                    · rw [if_pos hbt]
                      exact popT_end fun h => by have := HTB.out.2 ⟨hbt, h.2⟩; cases this
                    · rw [if_neg hbt]
                  clear HT HTB HMM
                  go_wp2_with fail
                  go_roundw
                  · exact ⟨i + 1, by go_num, by omega, by rw [HNX.out]; exact HROc.out, HWc.out⟩
                  · simp only [intOf]; omega
                | true =>
                  obtain ⟨hbt, p, x, rfl, hk, hd⟩ := HTB.out.1 rfl
                  have HTN : Hid ((if bt = true then popT e.key p else p) = Z) := by
                    show _ = _
                    rw [← HT.out, if_pos hbt, if_pos hbt, popT_pop hk hd]
                  clear HT HTB
                  obtain ⟨m1, hm1⟩ : ∃ m1, p.length = m1 := ⟨_, rfl⟩
                  have hlen : (p ++ [x]).length = m1 + 1 := by rw [List.length_append, hm1]; rfl
                  obtain ⟨v', hsl, hro, _, a', c', hv'⟩ := HROc.out.slice_h under_entsP size_entsP m1 (by omega)
                  subst hv'
                  rw [← hm1, List.take_left] at hro
                  have HRP := Lib.hid hro
                  have hlt2 : p.length < (p ++ [x]).length := by omega
                  have HLT := Lib.hid hlt2
                  have hq2 : p.length ≤ 400001 := by have := HQL.out; omega
                  have HQ2 := Lib.hid hq2
                  have hqm : ql = m1 + 1 := by rw [← HQL.out, hlen]
                  have t15 : (ql : Int) - 1 = (m1 : Int) := by omega
                  have t16 : 0 < (ql : Int) := by omega
                  have t17 : (ql : Int) ≤ 400001 := by omega
                  clear hqm
                  have HM1 := Lib.hid hm1
                  clear hro hlen hm1 hlt2 hq2 hbt hk hd hq HROc
                  go_wp2_with fail
                  go_roundg p.length
                  case measure => rw [HMM.out]; exact HLT.out
                  case rel => exact ⟨p, rfl, HQ2.out, by rw [HE.out]; exact HTN.out, by rw [HM1.out] at HRP; exact HRP.out, HWc.out⟩
    · have t1 : ¬ (i : Int) < (n : Int) := by omega
      have hin : i = n := by omega
      have HEQ : Hid (rowR bt f l i = rowOf looks bt l) := by show _ = _; rw [hin]; exact HRR.out
      rw [HEQ.out] at HRO
      rw [HEQ.out]
      have HP : Hid (RRowPost (rowOf looks bt l) (chkV l looks) w (.returned (.tuple #[.slice oo (rowOf looks bt l).length oc, .int .i64 0])) wr) := ⟨fun _ => ⟨oo, oc, rfl, HRO.out.rows.any⟩, fun h => absurd HC0.out h, HW1.out.trans (HB.out.mono HW1.out.size)⟩
      clear HRO hin HEQ HRR
      generalize (rowOf looks bt l).length = q at *
      go_wp2_with fail
      go_ret2
      exact HP.out
end Go.Proofs.Ytmpapipobjoboaa
