/- compact: bare. -/
import Derived.Test.YtmpapipobjoboaaCoF
namespace Go.Proofs.Ytmpapipobjoboaa
open Go.RowKit

/-- Deletes that hide nothing are taken away. -/
def bareR : List Ent → List Ent
  | [] => []
  | e :: r => if e.kind = 2 ∧ (bareR r).any (fun x => decide (x.key = e.key)) = false then bareR r else e :: bareR r
theorem bareR_cons (e : Ent) (r : List Ent) : bareR (e :: r) = if e.kind = 2 ∧ (bareR r).any (fun x => decide (x.key = e.key)) = false then bareR r else e :: bareR r := rfl
theorem bareR_mem : ∀ (l : List Ent) (x : Ent), x ∈ bareR l → x ∈ l
  | [], _, h => h
  | e :: r, x, h => by
    unfold bareR at h
    split at h
    · exact List.mem_cons_of_mem _ (bareR_mem r x h)
    · rcases List.mem_cons.1 h with h | h
      · rw [h]; exact List.mem_cons_self ..
      · exact List.mem_cons_of_mem _ (bareR_mem r x h)
theorem bareR_append : ∀ (a b : List Ent), (∀ x ∈ a, ∀ y ∈ b, y.key ≠ x.key) → bareR (a ++ b) = bareR a ++ bareR b
  | [], _, _ => rfl
  | e :: r, b, h => by
    have ih := bareR_append r b fun x hx => h x (List.mem_cons_of_mem _ hx)
    have hb : (bareR b).any (fun x => decide (x.key = e.key)) = false := by
      rw [List.any_eq_false]
      intro y hy
      have := h e (List.mem_cons_self ..) y (bareR_mem b y hy)
      simpa using this
    rw [List.cons_append, bareR_cons, bareR_cons, ih, List.any_append, hb, Bool.or_false]
    split
    · rfl
    · rfl
/-- How much of one key's entries is left: what lies behind is deletes. -/
structure Keep (l : List Ent) (g p : Nat) : Prop where
  le : p ≤ g
  del : ∀ j, p ≤ j → j < g → (eat l j).kind = 2
  stop : 0 < p → (eat l (p - 1)).kind ≠ 2
theorem bareR_keep : ∀ (G : List Ent) (κ : List UInt8) (p : Nat), (∀ x ∈ G, x.key = κ) → Keep G G.length p → bareR G = G.take p
  | [], _, p, _, h => by simp [bareR]
  | e :: r, κ, 0, hk, h => by
    have ih := bareR_keep r κ 0 (fun x hx => hk x (List.mem_cons_of_mem _ hx)) ⟨Nat.zero_le _, fun j _ hj => by
      have := h.del (j + 1) (Nat.zero_le _) (by simpa using hj)
      simpa [eat] using this, fun h0 => by omega⟩
    have he : e.kind = 2 := by simpa [eat] using h.del 0 (Nat.le_refl _) (by simp)
    unfold bareR
    rw [ih, List.take_zero, if_pos ⟨he, rfl⟩, List.take_zero]
  | e :: r, κ, p + 1, hk, h => by
    have hle : p ≤ r.length := by simpa using h.le
    have ih := bareR_keep r κ p (fun x hx => hk x (List.mem_cons_of_mem _ hx)) ⟨hle, fun j hj1 hj => by
      have := h.del (j + 1) (by omega) (by simpa using hj)
      simpa [eat] using this, fun h0 => by
        have := h.stop (Nat.succ_pos _)
        obtain ⟨q, rfl⟩ : ∃ q, p = q + 1 := ⟨p - 1, by omega⟩
        simpa [eat] using this⟩
    unfold bareR
    rw [ih, List.take_succ_cons, if_neg]
    rintro ⟨h1, h2⟩
    cases p with
    | zero =>
      have := h.stop (Nat.succ_pos _)
      exact this (by simpa [eat] using h1)
    | succ p =>
      rw [List.any_eq_false] at h2
      cases r with
      | nil => simp at hle
      | cons x r =>
        have h3 := h2 x (by rw [List.take_succ_cons]; exact List.mem_cons_self ..)
        rw [hk x (List.mem_cons_of_mem _ (List.mem_cons_self ..)), hk e (List.mem_cons_self ..)] at h3
        simp at h3

theorem sorted_tail {l : List Ent} (h : Sorted l) (c : Nat) : Sorted (l.drop c) := h.drop
/-- A key's entries and what lies behind them. -/
theorem bare_group {l : List Ent} (hs : Sorted l) {g p : Nat} (hg : Grp l g) (hp : Keep l g p) : bareR l = l.take p ++ bareR (l.drop g) := by
  have h1 : ∀ x ∈ l.take g, x.key = (eat l 0).key := by
    intro x hx
    obtain ⟨j, hj, rfl⟩ := List.mem_iff_getElem.1 hx
    rw [List.length_take] at hj
    rw [List.getElem_take, eat_eq (by omega)]
    exact hg.same j (by omega)
  have h2 : ∀ x ∈ l.take g, ∀ y ∈ l.drop g, y.key ≠ x.key := by
    intro x hx y hy
    rw [h1 x hx]
    obtain ⟨j, hj, rfl⟩ := List.mem_iff_getElem.1 hy
    rw [List.length_drop] at hj
    rw [List.getElem_drop, eat_eq (by omega)]
    intro e
    have h3 := hg.last (by omega)
    by_cases hj0 : j = 0
    · subst hj0; exact h3 e
    · have hp0 := hg.pos
      have h4 := key_between (sorted_eat hs (show 0 < g by omega) (by omega)) (sorted_eat hs (show g < g + j by omega) (by omega)) e.symm
      exact h3 (h4.1.trans e)
  conv => lhs; rw [← List.take_append_drop g l]
  rw [bareR_append _ _ h2]
  have hgl : (l.take g).length = g := by rw [List.length_take, Nat.min_eq_left hg.le]
  rw [bareR_keep (l.take g) _ p h1 ⟨by rw [hgl]; exact hp.le, fun j hj1 hj => by
    rw [hgl] at hj
    rw [← hp.del j hj1 hj]
    simp [eat, List.getD, List.getElem?_take_of_lt hj], fun h0 => by
    have h5 := hp.stop h0
    have h6 := hp.le
    have h7 : eat (l.take g) (p - 1) = eat l (p - 1) := by simp [eat, List.getD, List.getElem?_take_of_lt (show p - 1 < g by omega)]
    rw [h7]; exact h5⟩, List.take_take, Nat.min_eq_left hp.le]

def slLen : Value → Nat
  | .slice _ n _ => n
  | _ => 0
def BarePost (F : Nat → Prop) (l : List Ent) (w : World) (x : Ending) (w' : World) : Prop :=
  ∃ a c, x = .returned (.slice a (bareR l).length c) ∧ Rw entK (fun k => F k ∨ w.heap.size ≤ k) w' (.slice a (bareR l).length c) (bareR l) ∧ Below w.heap.size w w'

set_option maxRecDepth 100000 in
set_option maxHeartbeats 4000000 in
theorem bare_any (F : Nat → Prop) (v : Value) (l : List Ent) (w : World) (h : Rw entK F w v l) (hs : Sorted l) (hfew : l.length ≤ 400000) :
    Calls Try.prog 70 #[v] w (BarePost F l w) := by
  obtain ⟨xa, ca, rfl⟩ := h.isSlice
  have HA : Hid (Rw entK (fun k => F k ∧ k < w.heap.size) w (.slice xa l.length ca) l) := h.mono fun k hk h => ⟨h, hk⟩
  have HS := Lib.hid hs
  clear h hs
  obtain ⟨n, hn⟩ : ∃ n, l.length = n := ⟨_, rfl⟩
  have HN := Lib.hid hn
  rw [hn] at HA hfew
  rw [hn]
  clear hn
  go_enter Try.func70, Try.ntmps70
  go_wp2_with fail
  go_loopw [0, 3] (fun lv ov wr => ∃ (c : Nat) (a : Option Addr) (cp : Nat) (out : List Ent), c ≤ n ∧ lv = .slice a (n - c) cp ∧ Hid (Rw entK (fun k => F k ∧ k < w.heap.size) wr (.slice a (n - c) cp) (l.drop c)) ∧ Hid (ROwnF entK (fun k => F k ∧ k < w.heap.size) w.heap.size 29 wr ov out) ∧ Hid (out ++ bareR (l.drop c) = bareR l) ∧ out.length ≤ c ∧ Hid (Below w.heap.size w wr)) (fun lv _ _ => slLen lv)
  case atStart => exact ⟨0, xa, ca, [], by omega, rfl, HA.out, ROwnF.nil _ _ _ _ _, rfl, by simp, Below.refl _ _⟩
  case round =>
    clear HA
    obtain ⟨c, a, cp, out, hcn, rfl, HAr, HRO, HEQ, hol, HB⟩ := hrel
    obtain ⟨oo, oc, rfl⟩ := HRO.out.isSlice
    obtain ⟨m, hm⟩ : ∃ m, n - c = m := ⟨_, rfl⟩
    rw [hm] at HAr
    rw [hm]
    have hmc : m + c = n := by omega
    have HDL : Hid ((l.drop c).length = m) := by show _ = _; rw [List.length_drop, HN.out]; omega
    have HSD : Hid (Sorted (l.drop c)) := sorted_tail HS.out c
    clear hm
    obtain ⟨r, hr⟩ : ∃ r, l.drop c = r := ⟨_, rfl⟩
    have HR := Lib.hid hr
    rw [hr] at HAr HDL HSD HEQ
    clear hr
    by_cases hlt : 0 < m
    · have t1 : (0 : Int) < (m : Int) := by omega
      go_wp2_with fail
      refine Calls.mono (group_any _ _ r _ HAr.out (by rw [HDL.out]; exact hlt) (by rw [HDL.out]; omega)) ?_
      rintro _ w2 ⟨g, hg, rfl, hb⟩
      have HG := Lib.hid hg
      have hgm : g ≤ m := by rw [← HDL.out]; exact hg.le
      have hgp := hg.pos
      have HA2 := Lib.hid (HAr.out.below hb)
      have HRO2 := Lib.hid (HRO.out.below hb)
      have HB2 : Hid (Below w.heap.size w w2) := HB.out.trans (hb.mono HB.out.size)
      clear hg hb HAr HRO HB
      go_wp2_with fail
      obtain ⟨wo, rfl⟩ : ∃ wo : World, wo = w2 := ⟨_, rfl⟩
      go_loopw [5] (fun pv wr => ∃ (p : Nat), pv = .int .i64 (p : Int) ∧ p ≤ g ∧ Hid (∀ j, p ≤ j → j < g → (eat r j).kind = 2) ∧ wo = wr) (fun pv _ => (intOf pv).toNat)
      case atStart => exact ⟨g, rfl, Nat.le_refl _, (fun j h1 h2 => by omega), rfl⟩
      case round =>
        obtain ⟨p, rfl, hp, HDE, rfl⟩ := hrel
        obtain ⟨q, hq⟩ : ∃ q, out.length = q := ⟨_, rfl⟩
        have HQ := Lib.hid hq
        rw [hq] at HRO2 hol
        rw [hq]
        clear hq
        by_cases hp0 : 0 < p
        · obtain ⟨p1, hp1⟩ : ∃ p1, p = p1 + 1 := ⟨p - 1, by omega⟩
          have t2 : (0 : Int) < (p : Int) := by omega
          have t3 : IntKind.i64.wrap ((p : Int) - 1) = (p1 : Int) := by rw [wrap_small (by omega) (by omega)]; omega
          have t4 : IntKind.i64.wrap (p1 : Int) = (p1 : Int) := wrap_small (by omega) (by omega)
          have t9 : (p1 : Int) < (m : Int) := by omega
          have t10 : 0 ≤ (p1 : Int) := by omega
          have hl1 : p1 < r.length := by rw [HDL.out]; omega
          obtain ⟨ba, oa, capa, ea, _, _, hca⟩ := ents_at HA2.out (by omega)
          have c2 : wo.cell? ⟨ba, oa + p1 * 4 + 2, none⟩ = some (.int .i64 (eat r p1).kind) := by
            obtain ⟨_, _, _, _, _, _, c2, _⟩ := hca p1 hl1
            rw [eat_eq hl1] at c2
            exact c2
          injection ea with e1 e2 e3
          subst e1 e3
          clear e2 hca
          obtain ⟨kd, hkd⟩ : ∃ kd, (eat r p1).kind = kd := ⟨_, rfl⟩
          have HKD := Lib.hid hkd
          rw [hkd] at c2
          have HP1 := Lib.hid hp1
          have hpp : p1 < p := by omega
          have hpq : p ≤ p1 + 1 := by omega
          clear hkd hl1 hp1
          by_cases hk2 : kd = 2
          · subst hk2
            go_wp2_with fail
            go_roundw
            · exact ⟨p1, rfl, by omega, (fun j h1 h2 => by
                by_cases e : j = p1
                · rw [e]; exact HKD.out
                · exact HDE.out j (by omega) h2), (by first | rfl | trivial)⟩
            · simp only [intOf]; omega
          · have HKP : Hid (Keep r g p) := ⟨hp, HDE.out, fun _ => by rw [show p - 1 = p1 by have := HP1.out; omega, HKD.out]; exact hk2⟩
            obtain ⟨s1, hs1, hw1⟩ := HA2.out.slice_h under_entsP size_entsP p (by rw [HDL.out]; omega)
            obtain ⟨s2, hs2, hw2⟩ := HA2.out.slice_l under_entsP size_entsP g (by rw [HDL.out]; omega)
            obtain ⟨p1v, q1v, hv1⟩ := hw1.isSlice
            obtain ⟨p2v, q2v, hv2⟩ := hw2.isSlice
            rw [List.length_take, HDL.out, Nat.min_eq_left (by omega)] at hv1
            rw [List.length_drop, HDL.out] at hv2
            subst hv1 hv2
            obtain ⟨cs1, hsl1, hel1⟩ := hw1
            have HSL1 := Lib.hid hsl1
            have HEL1 := Lib.hid hel1
            have HW2 := Lib.hid hw2
            have HLM : Hid (out.length + (r.take p).length ≤ 1000000) := by show _ ≤ _; rw [HQ.out, List.length_take]; omega
            have t5 : (p : Int) ≤ (m : Int) := by omega
            have t6 : 0 ≤ (p : Int) := by omega
            have t7 : (g : Int) ≤ (m : Int) := by omega
            have t8 : 0 ≤ (g : Int) := by omega
            clear hsl1 hel1 hw2
            go_wp2_with (with_reducible refine pause_append ?_)
            refine Pause.go (wpList_append_elsF (K := entK) 31 29 _ 64 Try.underlying31 info_entO rfl (fun k => F k ∧ k < w.heap.size) w.heap.size _ out _ (r.take p) rfl _ _ rfl rfl rfl HRO2.out cs1 _ HSL1.out
              (HEL1.out.mono fun k hk hF => ⟨hF, fun e => by have := (HRO2.out.lt k e).1; omega⟩) HLM.out (by decide) HB2.out.size ?_)
            intro v4 w4 ho hg
            have HRO4 := Lib.hid ho
            have HB24 : Hid (Below w.heap.size wo w4) := hg.below HB2.out.size fun k e => (HRO2.out.lt k e).1
            have HB4 : Hid (Below w.heap.size w w4) := HB2.out.trans HB24.out
            have HW4 : Hid (Rw entK (fun k => F k ∧ k < w.heap.size) w4 (.slice p2v (m - g) q2v) (r.drop g)) := HW2.out.keep fun k hk hF => HB24.out.block k hF.2
            have HEQ4 : Hid ((out ++ r.take p) ++ bareR (r.drop g) = bareR l) := by
              show _ = _
              rw [List.append_assoc, ← bare_group HSD.out HG.out HKP.out]
              exact HEQ.out
            clear ho hg HRO2 HSL1 HEL1 HW2 HA2 HB2 HB24 hs1
            obtain ⟨a4, c4, rfl⟩ := HRO4.out.isSlice
            obtain ⟨q4, hq4⟩ : ∃ q, (out ++ r.take p).length = q := ⟨_, rfl⟩
            have HLE : Hid (q4 ≤ c + g) := by show _ ≤ _; rw [← hq4, List.length_append, HQ.out, List.length_take]; omega
            rw [hq4] at HRO4
            rw [hq4]
            have HQ4 := Lib.hid hq4
            clear hq4
            go_wp2_with fail
            go_roundw
            · exact ⟨c + g, p2v, q2v, out ++ r.take p, by omega, by rw [show n - (c + g) = m - g by omega], by rw [show n - (c + g) = m - g by omega, ← List.drop_drop, HR.out]; exact HW4.out, HRO4.out, by rw [← List.drop_drop, HR.out]; exact HEQ4.out, (by rw [HQ4.out]; exact HLE.out), HB4.out⟩
            · simp only [slLen]; omega
        · have t2 : ¬ (0 : Int) < (p : Int) := by omega
          have HKP : Hid (Keep r g p) := ⟨hp, (fun j h1 h2 => HDE.out j h1 h2), fun h => absurd h hp0⟩
          clear hp0
          obtain ⟨s1, hs1, hw1⟩ := HA2.out.slice_h under_entsP size_entsP p (by rw [HDL.out]; omega)
          obtain ⟨s2, hs2, hw2⟩ := HA2.out.slice_l under_entsP size_entsP g (by rw [HDL.out]; omega)
          obtain ⟨p1v, q1v, hv1⟩ := hw1.isSlice
          obtain ⟨p2v, q2v, hv2⟩ := hw2.isSlice
          rw [List.length_take, HDL.out, Nat.min_eq_left (by omega)] at hv1
          rw [List.length_drop, HDL.out] at hv2
          subst hv1 hv2
          obtain ⟨cs1, hsl1, hel1⟩ := hw1
          have HSL1 := Lib.hid hsl1
          have HEL1 := Lib.hid hel1
          have HW2 := Lib.hid hw2
          have HLM : Hid (out.length + (r.take p).length ≤ 1000000) := by show _ ≤ _; rw [HQ.out, List.length_take]; omega
          have t5 : (p : Int) ≤ (m : Int) := by omega
          have t6 : 0 ≤ (p : Int) := by omega
          have t7 : (g : Int) ≤ (m : Int) := by omega
          have t8 : 0 ≤ (g : Int) := by omega
          clear hsl1 hel1 hw2
          go_wp2_with (with_reducible refine pause_append ?_)
          refine Pause.go (wpList_append_elsF (K := entK) 31 29 _ 64 Try.underlying31 info_entO rfl (fun k => F k ∧ k < w.heap.size) w.heap.size _ out _ (r.take p) rfl _ _ rfl rfl rfl HRO2.out cs1 _ HSL1.out
            (HEL1.out.mono fun k hk hF => ⟨hF, fun e => by have := (HRO2.out.lt k e).1; omega⟩) HLM.out (by decide) HB2.out.size ?_)
          intro v4 w4 ho hg
          have HRO4 := Lib.hid ho
          have HB24 : Hid (Below w.heap.size wo w4) := hg.below HB2.out.size fun k e => (HRO2.out.lt k e).1
          have HB4 : Hid (Below w.heap.size w w4) := HB2.out.trans HB24.out
          have HW4 : Hid (Rw entK (fun k => F k ∧ k < w.heap.size) w4 (.slice p2v (m - g) q2v) (r.drop g)) := HW2.out.keep fun k hk hF => HB24.out.block k hF.2
          have HEQ4 : Hid ((out ++ r.take p) ++ bareR (r.drop g) = bareR l) := by
            show _ = _
            rw [List.append_assoc, ← bare_group HSD.out HG.out HKP.out]
            exact HEQ.out
          clear ho hg HRO2 HSL1 HEL1 HW2 HA2 HB2 HB24 hs1
          obtain ⟨a4, c4, rfl⟩ := HRO4.out.isSlice
          obtain ⟨q4, hq4⟩ : ∃ q, (out ++ r.take p).length = q := ⟨_, rfl⟩
          have HLE : Hid (q4 ≤ c + g) := by show _ ≤ _; rw [← hq4, List.length_append, HQ.out, List.length_take]; omega
          rw [hq4] at HRO4
          rw [hq4]
          have HQ4 := Lib.hid hq4
          clear hq4
          go_wp2_with fail
          go_roundw
          · exact ⟨c + g, p2v, q2v, out ++ r.take p, by omega, by rw [show n - (c + g) = m - g by omega], by rw [show n - (c + g) = m - g by omega, ← List.drop_drop, HR.out]; exact HW4.out, HRO4.out, by rw [← List.drop_drop, HR.out]; exact HEQ4.out, (by rw [HQ4.out]; exact HLE.out), HB4.out⟩
          · simp only [slLen]; omega
    · have t1 : ¬ (0 : Int) < (m : Int) := by omega
      have HP : Hid (BarePost F l w (.returned (.slice oo out.length oc)) wr) := by
        have h0 : r = [] := List.eq_nil_of_length_eq_zero (by rw [HDL.out]; omega)
        have h1 : bareR l = out := by rw [← HEQ.out, h0]; simp [bareR]
        refine ⟨oo, oc, by rw [h1], ?_, HB.out⟩
        rw [h1]
        exact HRO.out.rows.mono fun k _ hk => by
          rcases hk with hk | hk
          · exact .inr (HRO.out.lt k hk).1
          · exact .inl hk.1.1
      clear HRO HEQ
      generalize out.length = q at *
      go_wp2_with fail
      go_ret
      exact HP.out
end Go.Proofs.Ytmpapipobjoboaa
