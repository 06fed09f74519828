/- compact: Visible. -/
import Derived.Test.YtmpapipobjoboaaCoGa
namespace Go.Proofs.Ytmpapipobjoboaa
open Go.RowKit

/-- A row of Booleans in a block. -/
structure Bl (ob : Nat) (w : World) (f : Nat → Bool) (n : Nat) : Prop where
  ex : ∃ cs : Array Value, Blk w ob cs 4 ∧ cs.size = n ∧ ∀ j, j < n → cs[j]? = some (.bool (f j))
theorem Bl.lt {ob : Nat} {w : World} {f : Nat → Bool} {n : Nat} (h : Bl ob w f n) : ob < w.heap.size := by
  obtain ⟨cs, h1, _⟩ := h.ex; exact h1.lt
theorem Bl.below {ob : Nat} {w w' : World} {f : Nat → Bool} {n : Nat} (h : Bl ob w f n) (hb : Below w.heap.size w w') : Bl ob w' f n := by
  obtain ⟨cs, h1, h2⟩ := h.ex
  exact ⟨cs, h1.below hb h1.lt, h2⟩
theorem Bl.cell {ob : Nat} {w : World} {f : Nat → Bool} {n j : Nat} (h : Bl ob w f n) (hj : j < n) : w.cell? ⟨ob, j, none⟩ = some (.bool (f j)) := by
  obtain ⟨cs, h1, _, h3⟩ := h.ex
  exact h1.cell (h3 j hj)
theorem Bl.free {ob : Nat} {w : World} {f : Nat → Bool} {n : Nat} (h : Bl ob w f n) (j : Nat) : w.frozen? ⟨ob, j, none⟩ = false := by
  obtain ⟨cs, h1, _⟩ := h.ex
  exact h1.free j
theorem Bl.mark {ob : Nat} {w : World} {f : Nat → Bool} {n i : Nat} (h : Bl ob w f n) (hi : i < n) : Bl ob (w.setCell ⟨ob, i, none⟩ (.bool true)) (fun j => if j = i then true else f j) n := by
  obtain ⟨cs, h1, h2, h3⟩ := h.ex
  refine ⟨_, h1.set i _, by rw [Array.size_setIfInBounds]; exact h2, fun j hj => ?_⟩
  by_cases e : j = i
  · subst e
    rw [if_pos rfl]
    exact Array.getElem?_setIfInBounds_self_of_lt (by omega)
  · rw [if_neg e, Array.getElem?_setIfInBounds_ne (Ne.symm e)]
    exact h3 j hj
theorem Bl.congr {ob : Nat} {w : World} {f g : Nat → Bool} {n : Nat} (h : Bl ob w f n) (hg : ∀ j, j < n → f j = g j) : Bl ob w g n := by
  obtain ⟨cs, h1, h2, h3⟩ := h.ex
  exact ⟨cs, h1, h2, fun j hj => by rw [h3 j hj, hg j hj]⟩

theorem info_bool : (Try.prog.info? 4).map (fun i => (i.zero, i.size, i.bytes)) = some (some (.bool false), 1, 1) := by kernel_rfl
theorem make_bools (n : Nat) (hn : n ≤ 1000000) (w : World) : (Instr.makeSlice 32 (.int .i64 (n : Int)) (.int .i64 (n : Int))).run Try.prog w = .ok (.slice (some ⟨w.heap.size, 0, none⟩) n n) (w.alloc (.cells (madeCells #[.bool false] n) 4)) := by
  obtain ⟨i0, hi, hz0, hz1, hz2⟩ := info_parts info_bool
  have hr := run_make (P := Try.prog) w 32 4 i0 _ Try.underlying32 hi hz0 .i64 .i64 n n (by omega) (Int.le_refl _) (by rw [hz2]; omega) (by omega)
  rw [hz1] at hr
  simpa [Value.cells] using hr
theorem Bl.made {w : World} {b n : Nat} (hb : b = w.heap.size) : Bl b (w.alloc (.cells (madeCells #[.bool false] n) 4)) (fun _ => false) n :=
  ⟨_, Blk.at_new hb rfl, size_madeCells _ _, fun j hj => by simp [madeCells, hj, Nat.mod_one]⟩

theorem keep_setF {α : Type} {K : Kind α} {gb k : Nat} {w : World} {v u : Value} {r : List α} (h : Rw K (· ≠ gb) w v r) : Rw K (· ≠ gb) (w.setCell ⟨gb, k, none⟩ u) v r := h.keep fun _j _ hj => heap_setCell_other _ _ _ _ hj

def VisPost (l : List Ent) (looks : List Int) (w : World) (x : Ending) (w' : World) : Prop :=
  (chkV l looks = 0 → ∃ ob, w.heap.size ≤ ob ∧ x = .returned (.tuple #[.slice (some ⟨ob, 0, none⟩) l.length l.length, .int .i64 0]) ∧ Bl ob w' (visB looks l) l.length) ∧
  (chkV l looks ≠ 0 → x = .returned (.tuple #[.slice none 0 0, .int .i64 2])) ∧ Below w.heap.size w w'
theorem chkV_or (l : List Ent) (looks : List Int) : chkV l looks = 0 ∨ chkV l looks = 2 := by unfold chkV; split <;> simp

theorem ccheck_at {r : Int} (F G : Nat → Prop) (v vk : Value) (l : List Ent) (looks : List Int) (w : World) (h : Rw entK F w v l) (hk : Rw unK G w vk looks) (hfew : l.length ≤ 1000000) (hml : looks.length ≤ 1000000) (hr : chkV l looks = r) :
    Calls Try.prog 51 #[v, vk] w fun x w' => x = .returned (.int .i64 r) ∧ Below w.heap.size w w' := by
  subst hr; exact ccheck_any F G v vk l looks w h hk hfew hml

set_option maxRecDepth 100000 in
set_option maxHeartbeats 8000000 in
theorem cvis_any (F G : Nat → Prop) (v vk : Value) (l : List Ent) (looks : List Int) (w : World) (h : Rw entK F w v l) (hk : Rw unK G w vk looks) (hfew : l.length ≤ 400000) (hml : looks.length ≤ 400000) :
    Calls Try.prog 13 #[v, vk] w (VisPost l looks w) := by
  obtain ⟨xa, ca, rfl⟩ := h.isSlice
  obtain ⟨ka, kc, rfl⟩ := hk.isSlice
  have HA := Lib.hid h
  have HK := Lib.hid hk
  have HCA := Lib.hid (fun r hr => ccheck_at F G _ _ l looks w h hk (by omega) (by omega) (r := r) hr)
  have HVP : Hid (VisPost l looks w = VisPost l looks w) := rfl
  clear h hk
  obtain ⟨n, hn⟩ : ∃ n, l.length = n := ⟨_, rfl⟩
  obtain ⟨m, hm⟩ : ∃ m, looks.length = m := ⟨_, rfl⟩
  have HN := Lib.hid hn
  have HM := Lib.hid hm
  rw [hn] at HA HCA hfew
  rw [hm] at HK HCA hml
  rw [hn, hm]
  clear hn hm
  have hmk := make_bools n (by omega)
  go_enter Try.func13, Try.ntmps13
  go_wp2_with fail
  rcases chkV_or l looks with hc | hc
  case inr =>
    refine Calls.mono (HCA.out 2 hc) ?_
    rintro _ w1 ⟨rfl, hb⟩
    have HP : Hid (VisPost l looks w (.returned (.tuple #[.slice none 0 0, .int .i64 2])) w1) := ⟨(fun e => by rw [hc] at e; cases e), fun _ => rfl, hb⟩
    clear hb hc HCA
    go_wp2_with fail
    go_ret2
    exact HP.out
  refine Calls.mono (HCA.out 0 hc) ?_
  rintro _ w1 ⟨rfl, hb⟩
  have HCH := Lib.hid hc
  have HW1 := Lib.hid hb
  have HSO : Hid (Sorted l) := by
    have h1 := hc
    unfold chkV at h1
    split at h1
    · rename_i h2; exact rowB_sorted.1 h2.1
    · cases h1
  have HUP : Hid (UpTo looks looks.length) := by
    have h1 := hc
    unfold chkV at h1
    split at h1
    · rename_i h2; exact upB_iff.1 h2.2
    · cases h1
  clear hb hc HCA
  go_upto_region 6 with fail
  refine wp_gen fun w2 hw2 => ?_
  have HBL2 : Hid (Bl w1.heap.size w2 (fun _ => false) n) := by rw [hw2]; exact Bl.made rfl
  have HB2 : Hid (Below w1.heap.size w1 w2) := by rw [hw2]; exact (Below.refl _ _).alloc (Nat.le_refl _) _
  have HW2 : Hid (Below w.heap.size w w2) := HW1.out.trans (HB2.out.mono HW1.out.size)
  have HOB : Hid (w.heap.size ≤ w1.heap.size) := HW1.out.size
  have HA2 : Hid (Rw entK (· ≠ w1.heap.size) w2 (.slice xa n ca) l) := ((HA.out.mono (F' := fun k => k < w1.heap.size) fun k hk _ => Nat.lt_of_lt_of_le hk HW1.out.size).below HW2.out).mono fun k _ hk => Nat.ne_of_lt hk
  have HK2 : Hid (Rw unK (· ≠ w1.heap.size) w2 (.slice ka m kc) looks) := ((HK.out.mono (F' := fun k => k < w1.heap.size) fun k hk _ => Nat.lt_of_lt_of_le hk HW1.out.size).below HW2.out).mono fun k _ hk => Nat.ne_of_lt hk
  clear hw2 hmk HA HK HW1 HB2
  generalize w1.heap.size = ob at *
  go_upto_region 7 with fail
  go_cut [35] from 26 to 34 (fun x wx => (∃ b : Bool, x = .bool b ∧ Hid (b = true ↔ (m = 0 ∨ uat looks (m - 1) ≠ maxSeq))) ∧ w2 = wx)
  case first =>
    cases m with
    | zero =>
      go_wp2_with fail
      go_meet
      exact ⟨⟨true, rfl, by show _ ↔ _; simp⟩, rfl⟩
    | succ m =>
      obtain ⟨ba, oa, capa, ea, _, _, hca⟩ := uns_at HK2.out (by rw [HM.out]; omega)
      injection ea with e1 e2 e3
      subst e1 e3
      clear e2
      have c0 := hca m (by rw [HM.out]; omega)
      obtain ⟨x, hx⟩ : ∃ x, uat looks m = x := ⟨_, rfl⟩
      have HX := Lib.hid hx
      rw [hx] at c0
      clear hx hca
      have HBI : Hid ((((m : Int) + 1 == 0) || (x != 72057594037927935)) = true ↔ (m + 1 = 0 ∨ uat looks (m + 1 - 1) ≠ maxSeq)) := by
        show _ ↔ _
        rw [Nat.add_sub_cancel, HX.out]
        unfold maxSeq
        simp
        omega
      have t4 : IntKind.i64.wrap ((m : Int) + 1 - 1) = (m : Int) := by rw [wrap_small (by omega) (by omega)]; omega
      have t5 : IntKind.i64.wrap (m : Int) = (m : Int) := wrap_small (by omega) (by omega)
      have t6 : ((m : Int) + 1).toNat = m + 1 := by omega
      have t8 : 0 ≤ (m : Int) := by omega
      have t9 : ¬ ((m : Int) + 1 = 0) := by omega
      have t10 : (m : Int) < (m : Int) + 1 := by omega
      go_wp2_with fail
      go_meet
      exact ⟨⟨_, rfl, HBI.out⟩, rfl⟩
  case rest =>
    obtain ⟨⟨b, rfl, HB⟩, rfl⟩ := hcut
    go_upto_if 35 with fail
    go_cut [8] from 36 to 39 (fun x wx => ∃ W a c, x = .slice a W.length c ∧ Hid (Who looks W) ∧ Hid (Rw unK (· ≠ ob) wx (.slice a W.length c) W) ∧ Hid (Below w2.heap.size w2 wx))
    case first =>
      cases b with
      | false =>
        have HWH : Hid (Who looks looks) := by
          have h1 : ¬ (m = 0 ∨ uat looks (m - 1) ≠ maxSeq) := fun h => by have := HB.out.2 h; cases this
          refine Who.same HUP.out (by rw [HM.out]; omega) ?_
          rw [HM.out]
          exact Classical.not_not.1 fun h => h1 (.inr h)
        go_wp2_with fail
        go_meet
        refine ⟨looks, ka, kc, by rw [HM.out], HWH.out, ?_, Below.refl _ _⟩
        rw [HM.out]
        exact HK2.out
      | true =>
        have HWH : Hid (Who looks (looks ++ [maxSeq])) := Who.more HUP.out (by rw [HM.out]; exact HB.out.1 rfl)
        go_wp2_with fail
        refine Calls.mono (clone_uns _ _ looks _ HK2.out (by rw [HM.out]; omega)) ?_
        rintro _ w3 ⟨v3, rfl, ho, hb⟩
        obtain ⟨a3, c3, rfl⟩ := ho.isSlice
        have HO3 := Lib.hid ho
        have HB3 := Lib.hid hb
        clear ho hb
        go_wp2_with (with_reducible refine pause_append ?_)
        refine list_gen fun w4 hw4 => ?_
        have HB4 : Hid (Below w3.heap.size w3 w4) := by rw [hw4]; exact (Below.refl _ _).alloc (Nat.le_refl _) _
        have HS4 : Hid (Blk w4 w3.heap.size #[.int .u64 maxSeq] 27) := by rw [hw4]; exact Blk.at_new rfl rfl
        clear hw4
        have HT4 : Hid (Below w2.heap.size w2 w4) := HB3.out.trans (HB4.out.mono HB3.out.size)
        have HO4 := Lib.hid (HO3.out.below HB4.out)
        have HLen : Hid (looks.length < 1000000) := by show _ < _; rw [HM.out]; omega
        refine Pause.go (wpList_append_elF (K := unK) 35 27 _ 8 Try.underlying35 info_un rfl _ w2.heap.size _ looks w3.heap.size 27 _ maxSeq rfl _ _ rfl rfl rfl HO4.out HS4.out rfl HLen.out (by decide) HT4.out.size ?_)
        intro v5 w5 hro hg
        obtain ⟨a5, c5, rfl⟩ := hro.isSlice
        have HK5 : Hid (Rw unK (· ≠ ob) w5 (.slice a5 (looks ++ [maxSeq]).length c5) (looks ++ [maxSeq])) := hro.rows.mono fun k _ hk => by
          have h1 := HBL2.out.lt
          rcases hk with hk | hk
          · have := (hro.lt k hk).1; omega
          · exact hk.1.1
        have HB5 : Hid (Below w2.heap.size w2 w5) := HT4.out.trans (hg.below HT4.out.size fun k e0 => (HO4.out.lt k e0).1)
        clear hro hg HO4 HS4 HO3
        generalize looks ++ [maxSeq] = W at *
        go_wp2_with fail
        go_meet
        exact ⟨W, a5, c5, rfl, HWH.out, HK5.out, HB5.out⟩
    case rest =>
      obtain ⟨W, wa, wcp, rfl, HWH, HWK, HBW⟩ := hcut
      have HBL := Lib.hid (HBL2.out.below HBW.out)
      have HAL := Lib.hid (HA2.out.below HBW.out)
      have HWW : Hid (Below w.heap.size w wc) := HW2.out.trans (HBW.out.mono HW2.out.size)
      have hwl : W.length ≤ 400001 := by have := HWH.out.len; rw [HM.out] at this; omega
      clear HK2 HA2 HBL2 HW2 HBW HB HUP
      obtain ⟨q, hq⟩ : ∃ q, W.length = q := ⟨_, rfl⟩
      have HQ := Lib.hid hq
      rw [hq] at HWK hwl
      rw [hq]
      clear hq
      go_wp2_with fail
      go_loopw [10] (fun av wr => ∃ (at_ : Nat) (f : Nat → Bool), av = .int .i64 (at_ : Int) ∧ at_ ≤ n ∧ Hid (Edge l at_) ∧ Hid (Marked W l at_ at_ 0 f) ∧ Hid (Bl ob wr f n) ∧ Hid (Rw entK (· ≠ ob) wr (.slice xa n ca) l) ∧ Hid (Rw unK (· ≠ ob) wr (.slice wa q wcp) W) ∧ Hid (Below w.heap.size w wr)) (fun av _ => n - (intOf av).toNat)
      case atStart => exact ⟨0, fun _ => false, rfl, by omega, ⟨Nat.zero_le _, fun h => by omega⟩, Marked.start _ _ _ (fun _ => rfl), HBL.out, HAL.out, HWK.out, HWW.out⟩
      case round =>
        obtain ⟨at_, f, rfl, hat, HED, HMK, HBLr, HAr, HWr, HBr⟩ := hrel
        clear HBL HAL HWK HWW
        by_cases hlt : at_ < n
        · have t1 : (at_ : Int) < (n : Int) := by omega
          obtain ⟨s2, hs2, hw2⟩ := HAr.out.slice_l under_entsP size_entsP at_ (by rw [HN.out]; omega)
          obtain ⟨p2, q2, hv2⟩ := hw2.isSlice
          rw [List.length_drop, HN.out] at hv2
          subst hv2
          have HSL := Lib.hid hw2
          clear hw2
          go_wp2_with fail
          refine Calls.mono (group_any _ _ (l.drop at_) _ HSL.out (by rw [List.length_drop, HN.out]; omega) (by rw [List.length_drop, HN.out]; omega)) ?_
          rintro _ w5 ⟨g, hg, rfl, hb⟩
          have HP0 : Hid (Part l at_ (at_ + g)) := Part.of HED.out (by rw [HN.out]; exact hlt) hg
          obtain ⟨e, he⟩ : ∃ e, at_ + g = e := ⟨_, rfl⟩
          have HP : Hid (Part l at_ e) := by show Part l at_ e; rw [← he]; exact HP0.out
          have hen : e ≤ n := by rw [← HN.out]; exact HP.out.le
          have hae := HP.out.lt
          obtain ⟨e1, he1⟩ : ∃ e1, e = e1 + 1 := ⟨e - 1, by omega⟩
          have t4 : IntKind.i64.wrap ((at_ : Int) + (g : Int)) = (e : Int) := by rw [wrap_small (by omega) (by omega)]; omega
          have t5 : IntKind.i64.wrap ((e : Int) - 1) = (e1 : Int) := by rw [wrap_small (by omega) (by omega)]; omega
          have HBL5 := Lib.hid (HBLr.out.below hb)
          have HA5 := Lib.hid (HAr.out.below hb)
          have HW5 := Lib.hid (HWr.out.below hb)
          have HB5 : Hid (Below w.heap.size w w5) := HBr.out.trans (hb.mono HBr.out.size)
          have HE1 := Lib.hid he1
          have he2 : e1 < e := by omega
          have he3 : at_ ≤ e1 := by omega
          have hee : e ≤ e1 + 1 := by omega
          clear he1 he
          clear hb hg HP0 HBLr HAr HWr HBr HSL hs2
          go_wp2_with fail
          clear t4 t5
          go_loopw [12, 13] (fun iv kv wr => ∃ (i k : Nat) (f : Nat → Bool), iv = .int .i64 (i : Int) ∧ kv = .int .i64 (k : Int) ∧ k ≤ q ∧ at_ ≤ i ∧ i < e ∧ Hid (k < q → Down W l e i k) ∧ Hid (Marked W l at_ e k f) ∧ Hid (Bl ob wr f n) ∧ Hid (Rw entK (· ≠ ob) wr (.slice xa n ca) l) ∧ Hid (Rw unK (· ≠ ob) wr (.slice wa q wcp) W) ∧ Hid (Below w.heap.size w wr)) (fun _ kv _ => q - (intOf kv).toNat)
          case atStart => exact ⟨e1, 0, f, rfl, rfl, by omega, by omega, by omega, (fun _ j h1 h2 => by omega), HMK.out.open_, HBL5.out, HA5.out, HW5.out, HB5.out⟩
          case round =>
            obtain ⟨i, k, f, rfl, rfl, hk, hai, hie, HDk, HMk, HBLk, HAk, HWk, HBk⟩ := hrel
            clear HBL5 HA5 HW5 HB5 HMK
            by_cases hkq : k < q
            · have t2 : (k : Int) < (q : Int) := by omega
              have t3 : 0 ≤ (k : Int) := by omega
              obtain ⟨ba, oa, capa, ea, _, hba, hca⟩ := ents_at HAk.out (by rw [HN.out]; omega)
              injection ea with e1' e2' e3'
              subst e1' e3'
              clear e2'
              obtain ⟨bw, ow, capw, ew, _, hbw, hcw⟩ := uns_at HWk.out (by rw [HQ.out]; omega)
              injection ew with e1' e2' e3'
              subst e1' e3'
              clear e2'
              have HCA : Hid (∀ i, i < n → wr.cell? ⟨ba, oa + i * 4 + 1, none⟩ = some (.int .u64 (eat l i).seq)) := fun i hi => by
                have hi' : i < l.length := by rw [HN.out]; exact hi
                obtain ⟨_, _, _, _, _, h1, _⟩ := hca i hi'
                rw [eat_eq hi'] at h1
                exact h1
              have HCW : Hid (wr.cell? ⟨bw, ow + k, none⟩ = some (.int .u64 (uat W k))) := hcw k (by rw [HQ.out]; exact hkq)
              have HBA : Hid (ba < wr.heap.size) := hba
              have HBWL : Hid (bw < wr.heap.size) := hbw
              have HD0 : Hid (Down W l e i k) := HDk.out hkq
              clear hca hcw hba hbw HDk
              obtain ⟨wo, rfl⟩ : ∃ wo : World, wo = wr := ⟨_, rfl⟩
              go_wp2_with fail
              go_loopw [12] (fun iv wr => ∃ (i : Nat), iv = .int .i64 (i : Int) ∧ at_ ≤ i ∧ i < e ∧ Hid (Down W l e i k) ∧ Hid (Below wo.heap.size wo wr)) (fun iv _ => (intOf iv).toNat)
              case atStart => exact ⟨i, rfl, hai, hie, HD0.out, Below.refl _ _⟩
              case round =>
                clear HD0 hai hie
                obtain ⟨i, rfl, hai, hie, HD, HBi⟩ := hrel
                by_cases hia : at_ < i
                · obtain ⟨i1, rfl⟩ : ∃ i1, i = i1 + 1 := ⟨i - 1, by omega⟩
                  have t4 : (at_ : Int) < (i1 : Int) + 1 := by omega
                  have t5 : IntKind.i64.wrap ((i1 : Int) + 1 - 1) = (i1 : Int) := by rw [wrap_small (by omega) (by omega)]; omega
                  have t6 : IntKind.i64.wrap (i1 : Int) = (i1 : Int) := wrap_small (by omega) (by omega)
                  have t7 : (i1 : Int) < (n : Int) := by omega
                  have t8 : 0 ≤ (i1 : Int) := by omega
                  have c0 := (HBi.out.cell (p := ⟨ba, oa + i1 * 4 + 1, none⟩) HBA.out).trans (HCA.out i1 (by omega))
                  have c1 := (HBi.out.cell (p := ⟨bw, ow + k, none⟩) HBWL.out).trans HCW.out
                  by_cases hx : (eat l i1).seq ≤ uat W k
                  · go_wp2_with fail
                    go_quiet (fail)
                    all_goals
                      go_wp2_with fail
                      go_roundw
                      · exact ⟨i1, rfl, by omega, by omega, HD.out.less hx, below_dn HBi.out _⟩
                      · simp only [intOf]; omega
                  · have hx' : decide ((eat l i1).seq ≤ uat W k) = false := decide_eq_false hx
                    go_wp2_with fail
                    go_quiet (fail)
                    all_goals
                      clear t5 t6 t7 c0 c1
                      clear hx'
                      go_upto_region 17 with fail
                      refine wp_gen fun w7 hw7 => ?_
                      have HB7 : Hid (Below wo.heap.size wo w7) := by rw [hw7]; first | exact below_dn HBi.out _ | exact below_drew HBi.out
                      have HU : Hid ((i1 + 1) = at_ ∨ ¬ (eat l ((i1 + 1) - 1)).seq ≤ uat W k) := by show _ ∨ _; exact .inr (by rw [Nat.add_sub_cancel]; omega)
                      clear hw7 HBi
                      have d0 := (HB7.out.cell (p := ⟨ba, oa + (i1 + 1) * 4 + 1, none⟩) HBA.out).trans (HCA.out (i1 + 1) (by omega))
                      have d1 := (HB7.out.cell (p := ⟨bw, ow + k, none⟩) HBWL.out).trans HCW.out
                      have HBLi := Lib.hid (HBLk.out.below HB7.out)
                      have HAi := Lib.hid (HAk.out.below HB7.out)
                      have HWi := Lib.hid (HWk.out.below HB7.out)
                      have HTi : Hid (Below w.heap.size w w7) := HBk.out.trans (HB7.out.mono HBk.out.size)
                      have z0 := HBLi.out.cell (j := (i1 + 1)) (by omega)
                      have z1 := HBLi.out.free (i1 + 1)
                      have t12 : ((i1 + 1) : Int) < (n : Int) := by omega
                      clear HB7
                      by_cases hx : (eat l (i1 + 1)).seq ≤ uat W k
                      · have HM2 : Hid (Marked W l at_ e (k + 1) (fun j => if j = (i1 + 1) then true else f j)) := HMk.out.next_on HSO.out HP.out (by omega) hie HD.out HU.out hx
                        have HDN : Hid (k + 1 < q → Down W l e (i1 + 1) (k + 1)) := fun h => HD.out.later HWH.out.up (by rw [HQ.out]; exact h)
                        have HBL9 := Lib.hid (HBLi.out.mark (i := (i1 + 1)) (by omega))
                        go_wp2_with fail
                        go_quiet (fail)
                        all_goals
                          go_wp2_with fail
                          go_roundw
                          · exact ⟨(i1 + 1), k + 1, _, rfl, by go_num, by omega, hai, hie, HDN.out, HM2.out, HBL9.out.below (below_dn (Below.refl _ _) _), (keep_setF HAi.out).below (below_dn (Below.refl _ _) _), (keep_setF HWi.out).below (below_dn (Below.refl _ _) _), below_dn (HTi.out.setCell HOB.out _) _⟩
                          · simp only [intOf]; omega
                      · have HM2 : Hid (Marked W l at_ e (k + 1) f) := HMk.out.next_off HSO.out HP.out (by omega) hie HD.out HU.out hx
                        have HDN : Hid (k + 1 < q → Down W l e (i1 + 1) (k + 1)) := fun h => HD.out.later HWH.out.up (by rw [HQ.out]; exact h)
                        have hx' : decide ((eat l (i1 + 1)).seq ≤ uat W k) = false := decide_eq_false hx
                        go_wp2_with fail
                        go_quiet (fail)
                        all_goals
                          go_wp2_with fail
                          go_roundw
                          · exact ⟨(i1 + 1), k + 1, f, rfl, by go_num, by omega, hai, hie, HDN.out, HM2.out, HBLi.out.below (below_dn (Below.refl _ _) _), HAi.out.below (below_dn (Below.refl _ _) _), HWi.out.below (below_dn (Below.refl _ _) _), below_dn HTi.out _⟩
                          · simp only [intOf]; omega
                · have hia' : at_ = i := by omega
                  subst hia'
                  have t4 : ¬ (at_ : Int) < (at_ : Int) := by omega
                  go_wp2_with fail
                  go_quiet (fail)
                  all_goals
                    clear t4
                    go_upto_region 17 with fail
                    refine wp_gen fun w7 hw7 => ?_
                    have HB7 : Hid (Below wo.heap.size wo w7) := by rw [hw7]; first | exact below_dn HBi.out _ | exact below_drew HBi.out
                    have HU : Hid (at_ = at_ ∨ ¬ (eat l (at_ - 1)).seq ≤ uat W k) := by show _ ∨ _; exact .inl rfl
                    clear hw7 HBi
                    have d0 := (HB7.out.cell (p := ⟨ba, oa + at_ * 4 + 1, none⟩) HBA.out).trans (HCA.out at_ (by omega))
                    have d1 := (HB7.out.cell (p := ⟨bw, ow + k, none⟩) HBWL.out).trans HCW.out
                    have HBLi := Lib.hid (HBLk.out.below HB7.out)
                    have HAi := Lib.hid (HAk.out.below HB7.out)
                    have HWi := Lib.hid (HWk.out.below HB7.out)
                    have HTi : Hid (Below w.heap.size w w7) := HBk.out.trans (HB7.out.mono HBk.out.size)
                    have z0 := HBLi.out.cell (j := at_) (by omega)
                    have z1 := HBLi.out.free at_
                    have t12 : (at_ : Int) < (n : Int) := by omega
                    clear HB7
                    by_cases hx : (eat l at_).seq ≤ uat W k
                    · have HM2 : Hid (Marked W l at_ e (k + 1) (fun j => if j = at_ then true else f j)) := HMk.out.next_on HSO.out HP.out (by omega) hie HD.out HU.out hx
                      have HDN : Hid (k + 1 < q → Down W l e at_ (k + 1)) := fun h => HD.out.later HWH.out.up (by rw [HQ.out]; exact h)
                      have HBL9 := Lib.hid (HBLi.out.mark (i := at_) (by omega))
                      go_wp2_with fail
                      go_quiet (fail)
                      all_goals
                        go_wp2_with fail
                        go_roundw
                        · exact ⟨at_, k + 1, _, rfl, by go_num, by omega, hai, hie, HDN.out, HM2.out, HBL9.out.below (below_dn (Below.refl _ _) _), (keep_setF HAi.out).below (below_dn (Below.refl _ _) _), (keep_setF HWi.out).below (below_dn (Below.refl _ _) _), below_dn (HTi.out.setCell HOB.out _) _⟩
                        · simp only [intOf]; omega
                    · have HM2 : Hid (Marked W l at_ e (k + 1) f) := HMk.out.next_off HSO.out HP.out (by omega) hie HD.out HU.out hx
                      have HDN : Hid (k + 1 < q → Down W l e at_ (k + 1)) := fun h => HD.out.later HWH.out.up (by rw [HQ.out]; exact h)
                      have hx' : decide ((eat l at_).seq ≤ uat W k) = false := decide_eq_false hx
                      go_wp2_with fail
                      go_quiet (fail)
                      all_goals
                        go_wp2_with fail
                        go_roundw
                        · exact ⟨at_, k + 1, f, rfl, by go_num, by omega, hai, hie, HDN.out, HM2.out, HBLi.out.below (below_dn (Below.refl _ _) _), HAi.out.below (below_dn (Below.refl _ _) _), HWi.out.below (below_dn (Below.refl _ _) _), below_dn HTi.out _⟩
                        · simp only [intOf]; omega
            · have t2 : ¬ (k : Int) < (q : Int) := by omega
              have HMc : Hid (Marked W l e e 0 f) := Marked.close HP.out (by rw [HQ.out, show q = k by omega]; exact HMk.out)
              go_wp2_with fail
              go_roundw
              · exact ⟨e, f, rfl, hen, HP.out.edge, HMc.out, HBLk.out, HAk.out, HWk.out, HBk.out⟩
              · simp only [intOf]; omega
        · have t1 : ¬ (at_ : Int) < (n : Int) := by omega
          have HPO : Hid (VisPost l looks w (.returned (.tuple #[.slice (some ⟨ob, 0, none⟩) n n, .int .i64 0])) wr) := by
            refine ⟨fun _ => ⟨ob, HOB.out, by rw [HN.out], ?_⟩, fun e => absurd HCH.out e, HBr.out⟩
            rw [HN.out]
            refine HBLr.out.congr fun j hj => ?_
            have h1 := HMK.out j (by rw [HN.out]; exact hj)
            rw [Bool.eq_iff_iff, h1, visB_iff, ← HWH.out.vis]
            exact ⟨fun h => h.elim And.right (fun h => by omega), fun h => .inl ⟨by omega, h⟩⟩
          go_wp2_with fail
          go_ret2
          exact HPO.out
end Go.Proofs.Ytmpapipobjoboaa
