/- Chapter 17's document: number, signed, text, truth, tags tell what the plain order tells. -/
import Derived.Test.YtiofhmlmimbngaaCmp
namespace Go.Proofs.Ytiofhmlmimbngaa
open Go.RowKit

theorem quiet_add_same {P : Program} {f : FuncId} {args : Array Value} {w : World} {a n : Nat} {v : Value}
    (h : Calls P f args (w.drewN (a + n)) fun e w' => e = .returned v ∧ w' = w.drewN (a + n)) :
    Calls P f args (w.drewN (a + n)) fun e w'' => e = .returned v ∧ ∃ m, w'' = w.drewN (a + m) :=
  h.mono fun _ _ ⟨he, hm⟩ => ⟨he, n, hm⟩

theorem number_any (a b : Int) (w : World) :
    Calls Try.prog 46 #[.int .u64 a, .int .u64 b] w fun e w' => e = .returned (.int .i64 (Sp.sgn a b)) ∧ w' = w := by
  by_cases h1 : a < b
  · have e : Sp.sgn a b = -1 := by unfold Sp.sgn; rw [if_pos h1]
    rw [e]
    go_enter Try.func46, Try.ntmps46
    go_wp2_with fail
    go_ret
    exact ⟨rfl, rfl⟩
  · by_cases h2 : b < a
    · have e : Sp.sgn a b = 1 := by unfold Sp.sgn; rw [if_neg h1, if_pos h2]
      rw [e]
      go_enter Try.func46, Try.ntmps46
      go_wp2_with fail
      go_ret
      exact ⟨rfl, rfl⟩
    · have e : Sp.sgn a b = 0 := by unfold Sp.sgn; rw [if_neg h1, if_neg h2]
      rw [e]
      go_enter Try.func46, Try.ntmps46
      go_wp2_with fail
      go_ret
      exact ⟨rfl, rfl⟩

theorem signed_any (a b : Int) (w : World) :
    Calls Try.prog 47 #[.int .i64 a, .int .i64 b] w fun e w' => e = .returned (.int .i64 (Sp.sgn a b)) ∧ w' = w := by
  by_cases h1 : a < b
  · have e : Sp.sgn a b = -1 := by unfold Sp.sgn; rw [if_pos h1]
    rw [e]
    go_enter Try.func47, Try.ntmps47
    go_wp2_with fail
    go_ret
    exact ⟨rfl, rfl⟩
  · by_cases h2 : b < a
    · have e : Sp.sgn a b = 1 := by unfold Sp.sgn; rw [if_neg h1, if_pos h2]
      rw [e]
      go_enter Try.func47, Try.ntmps47
      go_wp2_with fail
      go_ret
      exact ⟨rfl, rfl⟩
    · have e : Sp.sgn a b = 0 := by unfold Sp.sgn; rw [if_neg h1, if_neg h2]
      rw [e]
      go_enter Try.func47, Try.ntmps47
      go_wp2_with fail
      go_ret
      exact ⟨rfl, rfl⟩

theorem gtr_less (a b : ByteArray) : (!(Op.bytesLess a.toList b.toList || a.toList == b.toList)) = Sp.less b a := by
  rw [bless_tot]; unfold Sp.less; simp

theorem text17_any (a b : ByteArray) (w : World) :
    Calls Try.prog 48 #[.string a, .string b] w fun e w' => e = .returned (.int .i64 (Sp.scmp a b)) ∧ w' = w := by
  have hg := gtr_less a b
  cases h1 : Sp.less a b with
  | true =>
    have e : Sp.scmp a b = -1 := by unfold Sp.scmp; rw [if_pos h1]
    have h1' : Op.bytesLess a.toList b.toList = true := h1
    rw [e]
    clear hg
    go_enter Try.func48, Try.ntmps48
    go_wp2_with fail
    go_ret
    exact ⟨rfl, rfl⟩
  | false =>
    have h1' : Op.bytesLess a.toList b.toList = false := h1
    rw [h1', Bool.false_or] at hg
    cases h2 : Sp.less b a with
    | true =>
      have e : Sp.scmp a b = 1 := by unfold Sp.scmp; rw [if_neg (by rw [h1]; decide), if_pos h2]
      have h3 : (a.toList == b.toList) = false := by rw [h2] at hg; simpa using hg
      rw [e]
      clear hg
      go_enter Try.func48, Try.ntmps48
      go_wp2_with fail
      go_ret
      exact ⟨rfl, rfl⟩
    | false =>
      have e : Sp.scmp a b = 0 := by unfold Sp.scmp; rw [if_neg (by rw [h1]; decide), if_neg (by rw [h2]; decide)]
      have h3 : (a.toList == b.toList) = true := by rw [h2] at hg; simpa using hg
      rw [e]
      clear hg
      go_enter Try.func48, Try.ntmps48
      go_wp2_with fail
      go_ret
      exact ⟨rfl, rfl⟩

theorem truth_any (b : Bool) (w : World) :
    Calls Try.prog 49 #[.bool b] w fun e w' => e = .returned (.int .i64 (Sp.truth b)) ∧ w' = w := by
  cases b with
  | true =>
    have e : Sp.truth true = 1 := rfl
    rw [e]
    go_enter Try.func49, Try.ntmps49
    go_wp2_with fail
    go_ret
    exact ⟨rfl, rfl⟩
  | false =>
    have e : Sp.truth false = 0 := rfl
    rw [e]
    go_enter Try.func49, Try.ntmps49
    go_wp2_with fail
    go_ret
    exact ⟨rfl, rfl⟩

/-- What is left to compare, from place j on. -/
theorem lcmp_drop {α : Type} (c : α → α → Int) (a b : List α) (j : Nat) (h1 : j < a.length) (h2 : j < b.length) : Sp.lcmp c (a.drop j) (b.drop j) = Sp.lex (c a[j] b[j]) (Sp.lcmp c (a.drop (j + 1)) (b.drop (j + 1))) := by
  rw [List.drop_eq_getElem_cons h1, List.drop_eq_getElem_cons h2]; rfl
theorem lcmp_end {α : Type} (c : α → α → Int) (a b : List α) (j : Nat) (h1 : j ≤ a.length) (h2 : j ≤ b.length) (h : ¬ (j < a.length ∧ j < b.length)) : Sp.lcmp c (a.drop j) (b.drop j) = Sp.sgn (a.length : Int) (b.length : Int) := by
  by_cases g1 : j < a.length
  · have g2 : j = b.length := by omega
    subst g2
    rw [List.drop_eq_getElem_cons g1, List.drop_length]
    show (1 : Int) = _
    unfold Sp.sgn
    rw [if_neg (by omega), if_pos (by omega)]
  · have g1 : j = a.length := by omega
    subst g1
    rw [List.drop_length]
    by_cases g2 : a.length < b.length
    · rw [List.drop_eq_getElem_cons g2]
      show (-1 : Int) = _
      unfold Sp.sgn
      rw [if_pos (by omega)]
    · have g3 : b.length = a.length := by omega
      rw [← g3, List.drop_length]
      show (0 : Int) = _
      unfold Sp.sgn
      rw [if_neg (by omega), if_neg (by omega)]

set_option maxRecDepth 100000 in
theorem tags_any (F G : Nat → Prop) (va vb : Value) (a b : List Sp.Tag) (w : World) (ha : Rw tagK F w va a) (hb : Rw tagK G w vb b) :
    Calls Try.prog 50 #[va, vb] w fun e w' => e = .returned (.int .i64 (Sp.lcmp Sp.tagCmp a b)) ∧ ∃ n, w' = w.drewN n := by
  obtain ⟨aa, ca, rfl⟩ := ha.isSlice
  obtain ⟨ab, cb, rfl⟩ := hb.isSlice
  have hml := ha.len
  have hml2 := hb.len
  simp only [maxLen] at hml hml2
  have HA := Lib.hid ha
  have HB := Lib.hid hb
  clear ha hb
  go_enter Try.func50, Try.ntmps50
  go_wp2_with fail
  go_loopw [5] (fun i wr => ∃ j : Nat, i = .int .i64 (j : Int) ∧ j ≤ a.length ∧ j ≤ b.length ∧ Hid (Sp.lcmp Sp.tagCmp a b = Sp.lcmp Sp.tagCmp (a.drop j) (b.drop j)) ∧ Hid (∃ n, wr = w.drewN n)) (fun i _ => a.length - (intOf i).toNat)
  case atStart => exact ⟨0, rfl, by omega, by omega, rfl, 0, rfl⟩
  case round =>
    obtain ⟨j, rfl, hj, hj2, HE, HW⟩ := hrel
    by_cases h1 : j < a.length
    · have h1' : (j : Int) < (a.length : Int) := by omega
      by_cases h2 : j < b.length
      · have h2' : (j : Int) < (b.length : Int) := by omega
        have HBr : Hid (Below w.heap.size w wr) := by obtain ⟨n, e⟩ := HW.out; rw [e]; exact ⟨rfl, rfl, rfl, Nat.le_refl _, fun _ _ => rfl⟩
        obtain ⟨ba, oa, ca', ea, _, _, hca⟩ := tags_at (HA.out.below HBr.out) (by omega)
        obtain ⟨bb, ob, cb', eb, _, _, hcb⟩ := tags_at (HB.out.below HBr.out) (by omega)
        injection ea with e1 e2 e3
        injection eb with e4 e5 e6
        subst e1 e3 e4 e6
        clear e2 e5
        obtain ⟨c0, c1⟩ := hca j h1
        obtain ⟨d0, d1⟩ := hcb j h2
        have HD := Lib.hid (HE.out.trans (lcmp_drop Sp.tagCmp a b j h1 h2))
        clear hca hcb HE
        generalize a[j] = s at *
        generalize b[j] = t at *
        go_wp2_with fail
        go_quiet ((go_at_call 48; exact Calls.quiet_of_same (text17_any _ _ _)))
        obtain ⟨x, hx⟩ : ∃ x, Sp.scmp s.key t.key = x := ⟨_, rfl⟩
        obtain ⟨y, hy⟩ : ∃ y, Sp.scmp s.value t.value = y := ⟨_, rfl⟩
        rw [hx]
        have HXY : Hid (Sp.lcmp Sp.tagCmp a b = Sp.lex (Sp.lex x y) (Sp.lcmp Sp.tagCmp (a.drop (j + 1)) (b.drop (j + 1)))) := by
          have := HD.out
          unfold Sp.tagCmp at this
          rw [hx, hy] at this
          exact this
        clear hx HD
        have HY := Lib.hid hy
        clear hy
        by_cases hx0 : x = 0
        · subst hx0
          go_wp2_with fail
          go_quiet ((go_at_call 48; exact quiet_add_same (text17_any _ _ _)))
          rw [HY.out]
          by_cases hy0 : y = 0
          · subst hy0
            go_wp2_with fail
            go_roundw
            · exact ⟨j + 1, by go_num, by omega, by omega, HXY.out, dn_more4 HW.out _⟩
            · simp only [intOf]; omega
          · have HR : Hid (Sp.lcmp Sp.tagCmp a b = y) := by
              refine HXY.out.trans ?_
              show Sp.lex (Sp.lex 0 y) _ = y
              unfold Sp.lex
              simp [hy0]
            go_wp2_with fail
            go_ret
            exact ⟨ret_int HR.out.symm, dn_more4 HW.out _⟩
        · have HR : Hid (Sp.lcmp Sp.tagCmp a b = x) := by
            refine HXY.out.trans ?_
            unfold Sp.lex
            simp [hx0]
          have hx1 : (x == 0) = false := beq_eq_false_iff_ne.2 hx0
          go_wp2_with fail
          go_ret
          exact ⟨ret_int HR.out.symm, dn_more4 HW.out _⟩
      · have h2' : decide ((j : Int) < (b.length : Int)) = false := by simp; omega
        have HR : Hid (Sp.sgn (a.length : Int) (b.length : Int) = Sp.lcmp Sp.tagCmp a b) := by
          rw [HE.out, lcmp_end Sp.tagCmp a b j hj hj2 (by omega)]; exact rfl
        go_wp2_with fail
        refine Calls.mono (signed_any _ _ _) ?_
        rintro e w1 ⟨rfl, rfl⟩
        go_wp2_with fail
        go_ret
        exact ⟨ret_int HR.out, HW.out⟩
    · have h1' : decide ((j : Int) < (a.length : Int)) = false := by simp; omega
      have HR : Hid (Sp.sgn (a.length : Int) (b.length : Int) = Sp.lcmp Sp.tagCmp a b) := by
        rw [HE.out, lcmp_end Sp.tagCmp a b j hj hj2 (by omega)]; exact rfl
      go_wp2_with fail
      refine Calls.mono (signed_any _ _ _) ?_
      rintro e w1 ⟨rfl, rfl⟩
      go_wp2_with fail
      go_ret
      exact ⟨ret_int HR.out, HW.out⟩
end Go.Proofs.Ytiofhmlmimbngaa
