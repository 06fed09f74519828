/- Short numbers read: wire.short. wire's reader in memory: none, Left, Err, End. wire's reader: Number, Fixed, Piece. wire.New; version's reader: fault, num, count. -/
import Derived.Test.YtkcohhldmhdcfaaVzVhD
import Derived.Laws.Bits64b
import Derived.OwnWalk
namespace Go.Proofs.Ytkcohhldmhdcfaa
open Go.RowKit

/-- What wire.short tells: number, length, code. -/
def shortG : Nat → Nat → List UInt8 → Nat × Nat × Nat
  | _, _, [] => (0, 0, 12)
  | n, x, c :: bs =>
    if n = 9 ∧ 1 < c.toNat then (0, 0, 4)
    else if c.toNat = 0 ∧ 0 < n then (0, 0, 4)
    else if c.toNat < 128 then (x + c.toNat * 128 ^ n, n + 1, 0)
    else shortG (n + 1) (x + (c.toNat - 128) * 128 ^ n) bs
theorem pow7 (n : Nat) : 2 ^ (7 * n) = 128 ^ n := by rw [Nat.pow_mul]
theorem byte_and {z : Nat} (h : z < 256) : bits BinOp.and IntKind.u8 (z : Int) 127 = ((z % 128 : Nat) : Int) := by
  have : ∀ z : Fin 256, bits BinOp.and IntKind.u8 ((z.val : Nat) : Int) 127 = ((z.val % 128 : Nat) : Int) := by decide +kernel
  exact this ⟨z, h⟩
theorem nine {n : Nat} (h : n ≤ 8) : 128 ^ n ≤ 72057594037927936 := by
  have := Nat.pow_le_pow_right (n := 128) (by decide) h
  exact Nat.le_trans this (by decide)
/-- One more byte's bits. -/
theorem or_more (n x c : Nat) (hn : n ≤ 9) (hx : x < 128 ^ n) (hc : c < 128) (h9 : n = 9 → c ≤ 1) :
    bits BinOp.or IntKind.u64 (x : Int) (IntKind.u64.wrap ((c : Int) * 2 ^ (7 * n))) = ((x + c * 128 ^ n : Nat) : Int) ∧ x + c * 128 ^ n < 18446744073709551616 := by
  have hp : (128 : Nat) ^ n ≤ 9223372036854775808 := Nat.le_trans (Nat.pow_le_pow_right (by decide) hn) (by decide)
  have hs : c * 128 ^ n + 128 ^ n ≤ 18446744073709551616 := by
    by_cases h : n = 9
    · have := h9 h
      subst h
      have : (128 : Nat) ^ 9 = 9223372036854775808 := by decide
      rw [this]
      omega
    · have h8 := nine (n := n) (by omega)
      have : (c + 1) * 128 ^ n ≤ 128 * 72057594037927936 := Nat.mul_le_mul (by omega) h8
      rw [Nat.add_mul, Nat.one_mul] at this
      omega
  have e1 : (c : Int) * 2 ^ (7 * n) = ((c * 128 ^ n : Nat) : Int) := by
    rw [← pow7]
    push_cast
    rfl
  rw [e1]
  have e2 : IntKind.u64.wrap ((c * 128 ^ n : Nat) : Int) = ((c * 128 ^ n : Nat) : Int) := by
    rw [IntKind.wrap_u64]
    omega
  rw [e2, bits_or_u64_nat _ _ (by omega) (by omega)]
  refine ⟨?_, by omega⟩
  congr 1
  rw [← pow7] at hx ⊢
  rw [Nat.or_comm, Nat.mul_comm c, ← Nat.two_pow_add_eq_or_of_lt hx, Nat.add_comm]
theorem or_more' (n x z : Nat) (hn : n ≤ 9) (hx : x < 128 ^ n) (hz : z < 256) (h9 : n = 9 → z ≤ 1) :
    bits BinOp.or IntKind.u64 (x : Int) (IntKind.u64.wrap (IntKind.u64.wrap (bits BinOp.and IntKind.u8 (z : Int) 127) * 2 ^ (7 * n))) = ((x + z % 128 * 128 ^ n : Nat) : Int) := by
  rw [byte_and hz]
  have e : IntKind.u64.wrap ((z % 128 : Nat) : Int) = ((z % 128 : Nat) : Int) := by
    rw [IntKind.wrap_u64]
    omega
  rw [e]
  exact (or_more n x (z % 128) hn hx (by omega) (fun h => by have := h9 h; omega)).1
set_option maxRecDepth 100000 in
set_option maxHeartbeats 1000000 in
theorem short_any (F : Nat → Prop) (v : Value) (bs : List UInt8) (w : World) (h : Bytes F w v bs) :
    Calls Try.prog 125 #[v] w fun e w' => e = .returned (.tuple #[.int .u64 ((shortG 0 0 bs).1 : Int), .int .i64 ((shortG 0 0 bs).2.1 : Int), .int .i64 ((shortG 0 0 bs).2.2 : Int)]) ∧ w' = w := by
  obtain ⟨a, c, rfl⟩ := h.isSlice
  have H := Lib.hid h
  have hml := h.len
  simp only [maxLen] at hml
  clear h
  obtain ⟨L, hL⟩ : ∃ L, bs.length = L := ⟨_, rfl⟩
  have HL : Hid (bs.length = L) := hL
  rw [hL] at hml H ⊢
  clear hL
  go_enter Try.func125, Try.ntmps125
  go_wp2_with fail
  refine wp_scope_straight ?_
  go_wp2_with fail
  refine wp_label ?_
  go_wp2_with fail
  go_loopw [2, 3] (fun xv nv wr => ∃ (n x : Nat), xv = .int .u64 (x : Int) ∧ nv = .int .i64 (n : Int) ∧ n ≤ L ∧ n ≤ 9 ∧ Hid (x < 128 ^ n) ∧ Hid (shortG 0 0 bs = shortG n x (bs.drop n)) ∧ wr = w) (fun _ nv _ => L - (intOf nv).toNat)
  case atStart => exact ⟨0, 0, rfl, rfl, by omega, by omega, by show _ < _; decide, rfl, rfl⟩
  case round =>
    obtain ⟨n, x, rfl, rfl, hnL, hn9, HX, HS, rfl⟩ := hrel
    by_cases hn : n = L
    · subst hn
      have hs : Hid (shortG 0 0 bs = (0, 0, 12)) := by
        show _ = _
        rw [HS.out, List.drop_of_length_le (by rw [HL.out]; exact Nat.le_refl _)]
        rfl
      go_wp2_with fail
      refine ⟨rfl, _, results_tmp3 rfl _ _ _, ?_⟩
      exact ⟨by rw [hs.out]; rfl, rfl⟩
    · have hnl : n < bs.length := by have := HL.out; omega
      have hLb : bs.length = L := HL.out
      obtain ⟨ba, oa, ca, ea, _, _, _, _, hca⟩ := Sl.place H.out (by rw [u8s_len]; omega)
      injection ea with e1 e2 e3
      subst e1 e3
      clear e2
      have ka : wr.cell? ⟨ba, oa + n, none⟩ = some (.int .u8 ((bs.getD n 0).toNat : Int)) := hca n _ (u8s_get _ _ hnl)
      have hd : bs.drop n = bs.getD n 0 :: bs.drop (n + 1) := by
        rw [List.drop_eq_getElem_cons hnl]
        simp [List.getD, hnl]
      rw [hd] at HS
      generalize bs.getD n 0 = c at *
      obtain ⟨z, hz⟩ : ∃ z, c.toNat = z := ⟨_, rfl⟩
      have hz8 : z < 256 := by rw [← hz]; exact UInt8.toNat_lt c
      have HS2 : Hid (shortG 0 0 bs = if n = 9 ∧ 1 < z then (0, 0, 4) else if z = 0 ∧ 0 < n then (0, 0, 4) else if z < 128 then (x + z * 128 ^ n, n + 1, 0) else shortG (n + 1) (x + (z - 128) * 128 ^ n) (bs.drop (n + 1))) := by
        show _ = _
        rw [HS.out, shortG, hz]
      rw [hz] at ka
      have hlt : n < L := by omega
      clear HS hca hd hz hLb hnl
      have hmx : (L : Int) ≤ 9223372036854775807 := by omega
      by_cases hA : n = 9 ∧ 1 < z
      · obtain ⟨rfl, hA2⟩ := hA
        have hs : Hid (shortG 0 0 bs = (0, 0, 4)) := by
          show _ = _
          rw [HS2.out, if_pos ⟨rfl, hA2⟩]
        have t1 : (1 : Int) < (z : Int) := by omega
        clear HS2
        go_wp2_with fail
        refine ⟨rfl, _, results_tmp3 rfl _ _ _, ?_⟩
        exact ⟨by rw [hs.out]; rfl, rfl⟩
      · by_cases hB : z = 0 ∧ 0 < n
        · obtain ⟨rfl, h0⟩ := hB
          have t0 : (1 : Int) < (n : Int) + 1 := by omega
          by_cases h9 : n = 9
          · subst h9
            have hs : Hid (shortG 0 0 bs = (0, 0, 4)) := by
              show _ = _
              rw [HS2.out, if_neg hA, if_pos ⟨rfl, h0⟩]
            clear HS2
            go_wp2_with fail
            refine ⟨rfl, _, results_tmp3 rfl _ _ _, ?_⟩
            exact ⟨by rw [hs.out]; rfl, rfl⟩
          · have t9 : ((n : Int) == 9) = false := by rw [beq_eq_false_iff_ne]; omega
            have hs : Hid (shortG 0 0 bs = (0, 0, 4)) := by
              show _ = _
              rw [HS2.out, if_neg hA, if_pos ⟨rfl, h0⟩]
            clear HS2
            go_wp2_with fail
            refine ⟨rfl, _, results_tmp3 rfl _ _ _, ?_⟩
            exact ⟨by rw [hs.out]; rfl, rfl⟩
        · by_cases hC : z < 128
          · have tC : (z : Int) < 128 := by omega
            by_cases h9 : n = 9
            · subst h9
              have t1 : ¬ (1 : Int) < (z : Int) := by omega
              have hz1 : z = 1 := by omega
              subst hz1
              have hs : Hid (shortG 0 0 bs = (x + 1 * 128 ^ 9, 9 + 1, 0)) := by
                show _ = _
                rw [HS2.out, if_neg hA, if_neg hB, if_pos hC]
              have HO := Lib.hid (or_more' 9 x 1 (by omega) HX.out hz8 (fun h => by omega))
              rw [Nat.mod_eq_of_lt hC] at HO
              clear HS2
              go_wp2_with fail
              refine ⟨rfl, _, results_tmp3 rfl _ _ _, ?_⟩
              exact ⟨by rw [hs.out]; exact congrArg (fun y => Ending.returned (.tuple #[.int .u64 y, .int .i64 (((9 : Nat) : Int) + 1), .int .i64 0])) HO.out, rfl⟩
            · have t9 : ((n : Int) == 9) = false := by rw [beq_eq_false_iff_ne]; omega
              by_cases hz : z = 0
              · subst hz
                have hn0 : n = 0 := by omega
                subst hn0
                rw [Nat.add_zero] at ka
                have hs : Hid (shortG 0 0 bs = (x + 0 * 128 ^ 0, 0 + 1, 0)) := by
                  show _ = _
                  rw [HS2.out, if_neg hA, if_neg hB, if_pos hC]
                have HO := Lib.hid (or_more' 0 x 0 (by omega) HX.out hz8 (fun h => by omega))
                rw [Nat.mod_eq_of_lt hC] at HO
                clear HS2
                go_wp2_with fail
                refine ⟨rfl, _, results_tmp3 rfl _ _ _, ?_⟩
                exact ⟨by rw [hs.out]; exact congrArg (fun y => Ending.returned (.tuple #[.int .u64 y, .int .i64 (((0 : Nat) : Int) + 1), .int .i64 0])) HO.out, rfl⟩
              · have tz : ((z : Int) == 0) = false := by rw [beq_eq_false_iff_ne]; omega
                have hs : Hid (shortG 0 0 bs = (x + z * 128 ^ n, n + 1, 0)) := by
                  show _ = _
                  rw [HS2.out, if_neg hA, if_neg hB, if_pos hC]
                have HO := Lib.hid (or_more' n x z (by omega) HX.out hz8 (fun h => by omega))
                rw [Nat.mod_eq_of_lt hC] at HO
                clear HS2
                go_wp2_with fail
                refine ⟨rfl, _, results_tmp3 rfl _ _ _, ?_⟩
                exact ⟨by rw [hs.out]; exact congrArg (fun y => Ending.returned (.tuple #[.int .u64 y, .int .i64 ((n : Int) + 1), .int .i64 0])) HO.out, rfl⟩
          · have tC : ¬ (z : Int) < 128 := by omega
            have t9 : ((n : Int) == 9) = false := by rw [beq_eq_false_iff_ne]; omega
            have tz : ((z : Int) == 0) = false := by rw [beq_eq_false_iff_ne]; omega
            have HS3 : Hid (shortG 0 0 bs = shortG (n + 1) (x + (z - 128) * 128 ^ n) (bs.drop (n + 1))) := by
              show _ = _
              rw [HS2.out, if_neg hA, if_neg hB, if_neg hC]
            have HO := Lib.hid (or_more' n x z (by omega) HX.out hz8 (fun h => by omega))
            have hm : z % 128 = z - 128 := by omega
            rw [hm] at HO
            have HX2 : Hid (x + (z - 128) * 128 ^ n < 128 ^ (n + 1)) := by
              show _ < _
              have h1 := HX.out
              have h2 : (z - 128 + 1) * 128 ^ n ≤ 128 * 128 ^ n := Nat.mul_le_mul_right _ (by omega)
              rw [Nat.add_mul, Nat.one_mul] at h2
              rw [Nat.pow_succ]
              omega
            clear HS2
            go_wp2_with fail
            try rw [HO.out]
            go_roundw
            · exact ⟨n + 1, _, rfl, by go_num, by omega, by omega, HX2.out, HS3.out, trivial⟩
            · simp only [intOf]; omega
end Go.Proofs.Ytkcohhldmhdcfaa

namespace Go.Proofs.Ytkcohhldmhdcfaa
open Go.RowKit

def rdBlk (v : Value) (i e : Nat) : Array Value := #[v, .int .i64 (i : Int), .bool true, .int .i64 (e : Int)]
/-- A reader that was made: its bytes, where it is, its code. -/
structure WR (F : Nat → Prop) (r : Nat) (v : Value) (all : List UInt8) (i e : Nat) (w : World) : Prop where
  blk : Blk w r (rdBlk v i e) 153
  bytes : Bytes F w v all
  free : ¬ F r
  le : i ≤ all.length
  small : e ≤ 100
  short : all.length ≤ 1000000000
section
variable {F : Nat → Prop} {r : Nat} {v : Value} {all : List UInt8} {i e : Nat} {w : World}
theorem WR.drewN (h : WR F r v all i e w) (n : Nat) : WR F r v all i e (w.drewN n) := ⟨h.blk, h.bytes.keep fun _ _ _ => rfl, h.free, h.le, h.small, h.short⟩
theorem WR.c0 (h : WR F r v all i e w) : w.cell? ⟨r, 0, none⟩ = some v := h.blk.cell rfl
theorem WR.c1 (h : WR F r v all i e w) : w.cell? ⟨r, 1, none⟩ = some (.int .i64 (i : Int)) := h.blk.cell rfl
theorem WR.c2 (h : WR F r v all i e w) : w.cell? ⟨r, 2, none⟩ = some (.bool true) := h.blk.cell rfl
theorem WR.c3 (h : WR F r v all i e w) : w.cell? ⟨r, 3, none⟩ = some (.int .i64 (e : Int)) := h.blk.cell rfl
end
set_option maxRecDepth 100000 in
set_option maxHeartbeats 1000000 in
theorem none_any {F : Nat → Prop} {r : Nat} {v : Value} {all : List UInt8} {i e : Nat} {w : World} (h : WR F r v all i e w) :
    Calls Try.prog 124 #[.pointer (some ⟨r, 0, none⟩)] w fun x w' => x = .returned (.bool false) ∧ w' = w := by
  have k2 := h.c2
  clear h
  go_enter Try.func124, Try.ntmps124
  go_wp2_with fail
  go_ret
  exact ⟨rfl, rfl⟩
set_option maxRecDepth 100000 in
set_option maxHeartbeats 1000000 in
theorem pleft_any {F : Nat → Prop} {r : Nat} {v : Value} {all : List UInt8} {i e : Nat} {w : World} (h : WR F r v all i e w) :
    Calls Try.prog 133 #[.pointer (some ⟨r, 0, none⟩)] w fun x w' => x = .returned (.int .i64 ((all.length - i : Nat) : Int)) ∧ ∃ n, w' = w.drewN n := by
  obtain ⟨a, c, rfl⟩ := h.bytes.isSlice
  have k0 := h.c0
  have k1 := h.c1
  have hi := h.le
  have hl := h.short
  clear h
  obtain ⟨L, hL⟩ : ∃ L, all.length = L := ⟨_, rfl⟩
  rw [hL] at k0 hi hl ⊢
  clear hL
  have hs : ((L - i : Nat) : Int) = (L : Int) - (i : Int) := by omega
  go_enter Try.func133, Try.ntmps133
  go_wp2_with fail
  go_quiet (fail)
  all_goals
    go_wp2_with fail
    go_ret
    exact ⟨by rw [hs]; rfl, _, rfl⟩
set_option maxRecDepth 100000 in
set_option maxHeartbeats 1000000 in
theorem rleft_any {F : Nat → Prop} {r : Nat} {v : Value} {all : List UInt8} {i e : Nat} {w : World} (h : WR F r v all i e w) :
    Calls Try.prog 126 #[.pointer (some ⟨r, 0, none⟩)] w fun x w' => x = .returned (.int .i64 ((all.length - i : Nat) : Int)) ∧ ∃ n, w' = w.drewN n := by
  have H := Lib.hid h
  clear h
  go_enter Try.func126, Try.ntmps126
  go_wp2_with fail
  refine Calls.mono (none_any H.out) ?_
  rintro _ _ ⟨rfl, rfl⟩
  go_wp2_with fail
  refine Calls.mono (pleft_any H.out) ?_
  rintro _ _ ⟨rfl, n, rfl⟩
  go_wp2_with fail
  go_ret
  exact ⟨rfl, _, rfl⟩
set_option maxRecDepth 100000 in
set_option maxHeartbeats 1000000 in
theorem rerr_any {F : Nat → Prop} {r : Nat} {v : Value} {all : List UInt8} {i e : Nat} {w : World} (h : WR F r v all i e w) :
    Calls Try.prog 123 #[.pointer (some ⟨r, 0, none⟩)] w fun x w' => x = .returned (.int .i64 (e : Int)) ∧ w' = w := by
  have k3 := h.c3
  have H := Lib.hid h
  clear h
  go_enter Try.func123, Try.ntmps123
  go_wp2_with fail
  refine Calls.mono (none_any H.out) ?_
  rintro _ _ ⟨rfl, rfl⟩
  go_wp2_with fail
  go_ret
  exact ⟨rfl, rfl⟩
/-- What End tells. -/
def endW (all : List UInt8) (i e : Nat) : Nat := if e ≠ 0 then e else if 0 < all.length - i then 4 else 0
set_option maxRecDepth 100000 in
set_option maxHeartbeats 1000000 in
theorem rend_any {F : Nat → Prop} {r : Nat} {v : Value} {all : List UInt8} {i e : Nat} {w : World} (h : WR F r v all i e w) :
    Calls Try.prog 99 #[.pointer (some ⟨r, 0, none⟩)] w fun x w' => x = .returned (.int .i64 (endW all i e : Int)) ∧ ∃ n, w' = w.drewN n := by
  have H := Lib.hid h
  clear h
  go_enter Try.func99, Try.ntmps99
  go_wp2_with fail
  refine Calls.mono (rerr_any H.out) ?_
  rintro _ _ ⟨rfl, rfl⟩
  by_cases he : e = 0
  · subst he
    go_wp2_with fail
    refine Calls.mono (rleft_any H.out) ?_
    rintro _ _ ⟨rfl, n, rfl⟩
    by_cases hl : 0 < all.length - i
    · have t1 : (0 : Int) < ((all.length - i : Nat) : Int) := by omega
      have HE : Hid (endW all i 0 = 4) := by show _ = _; simp [endW, hl]
      generalize all.length - i = m at *
      go_wp2_with fail
      go_ret
      exact ⟨by rw [HE.out]; rfl, _, rfl⟩
    · have t1 : ¬ (0 : Int) < ((all.length - i : Nat) : Int) := by omega
      have HE : Hid (endW all i 0 = 0) := by show _ = _; simp [endW, hl]
      generalize all.length - i = m at *
      go_wp2_with fail
      go_ret
      exact ⟨by rw [HE.out]; rfl, _, rfl⟩
  · have t0 : ((e : Int) != 0) = true := by rw [bne_iff_ne]; omega
    have HE : Hid (endW all i e = e) := by show _ = _; simp [endW, he]
    go_wp2_with fail
    go_ret
    exact ⟨by rw [HE.out]; rfl, 0, rfl⟩
end Go.Proofs.Ytkcohhldmhdcfaa

namespace Go.Proofs.Ytkcohhldmhdcfaa
open Go.RowKit

theorem shortG_ok : ∀ (bs : List UInt8) (n x : Nat), n ≤ 9 → x < 128 ^ n → (shortG n x bs).1 < 18446744073709551616 ∧ (shortG n x bs).2.1 ≤ n + bs.length ∧ (shortG n x bs).2.2 ≤ 12
  | [], n, x, _, _ => by rw [shortG]; exact ⟨by decide, Nat.zero_le _, by decide⟩
  | c :: bs, n, x, hn, hx => by
    rw [shortG]
    by_cases h1 : n = 9 ∧ 1 < c.toNat
    · rw [if_pos h1]; exact ⟨by decide, Nat.zero_le _, by decide⟩
    · rw [if_neg h1]
      by_cases h2 : c.toNat = 0 ∧ 0 < n
      · rw [if_pos h2]; exact ⟨by decide, Nat.zero_le _, by decide⟩
      · rw [if_neg h2]
        by_cases h3 : c.toNat < 128
        · rw [if_pos h3]
          refine ⟨(or_more n x c.toNat hn hx h3 (fun h => by omega)).2, ?_, by show (0 : Nat) ≤ 12; decide⟩
          simp only [List.length_cons]
          omega
        · rw [if_neg h3]
          have hc := UInt8.toNat_lt c
          have := shortG_ok bs (n + 1) (x + (c.toNat - 128) * 128 ^ n) (by omega) (by
            have h2 : (c.toNat - 128 + 1) * 128 ^ n ≤ 128 * 128 ^ n := Nat.mul_le_mul_right _ (by omega)
            rw [Nat.add_mul, Nat.one_mul] at h2
            rw [Nat.pow_succ]
            omega)
          simp only [List.length_cons]
          exact ⟨this.1, by have := this.2.1; omega, this.2.2⟩
section
variable {F : Nat → Prop} {r : Nat} {v : Value} {all : List UInt8} {i e : Nat} {w : World}
theorem WR.setErr (h : WR F r v all i e w) (e2 : Nat) (he : e2 ≤ 100) : WR F r v all i e2 (w.setCell ⟨r, 3, none⟩ (.int .i64 (e2 : Int))) :=
  ⟨h.blk.set 3 _, h.bytes.keep fun k _ hk => heap_setCell_other _ _ _ _ (fun x => h.free (by rw [← show k = r from x]; exact hk)), h.free, h.le, he, h.short⟩
theorem WR.setAt (h : WR F r v all i e w) (n : Nat) (hn : i + n ≤ all.length) : WR F r v all (i + n) e (w.setCell ⟨r, 1, none⟩ (.int .i64 ((i : Int) + (n : Int)))) :=
  ⟨h.blk.set 1 _, h.bytes.keep fun k _ hk => heap_setCell_other _ _ _ _ (fun x => h.free (by rw [← show k = r from x]; exact hk)), h.free, hn, h.small, h.short⟩
theorem Wrote.refl (S : Nat → Prop) (w : World) : Wrote S w w := ⟨rfl, rfl, rfl, Nat.le_refl _, fun _ _ _ => rfl⟩
theorem WR.wrote {S : Nat → Prop} {w' : World} (h : WR F r v all i e w) (hw : Wrote S w w') (hr : ¬ S r) (hF : ∀ k, F k → ¬ S k) : WR F r v all i e w' :=
  ⟨h.blk.same (hw.block _ h.blk.lt hr), h.bytes.keep fun k hk hf => hw.block k hk (hF k hf), h.free, h.le, h.small, h.short⟩
end
/-- What Number tells: number, length, code. -/
def numW (rest : List UInt8) (e : Nat) : Nat × Nat × Nat := if e ≠ 0 then (0, 0, e) else shortG 0 0 rest
set_option maxRecDepth 100000 in
set_option maxHeartbeats 1000000 in
theorem rnumber_any {F : Nat → Prop} {r : Nat} {v : Value} {all : List UInt8} {i e : Nat} {w : World} (h : WR F r v all i e w) :
    Calls Try.prog 122 #[.pointer (some ⟨r, 0, none⟩)] w fun x w' => x = .returned (.int .u64 ((numW (all.drop i) e).1 : Int)) ∧ WR F r v all (i + (numW (all.drop i) e).2.1) (numW (all.drop i) e).2.2 w' ∧ Wrote (· = r) w w' := by
  have H := Lib.hid h
  have k3 := h.c3
  by_cases he : e = 0
  · subst he
    obtain ⟨a, c, rfl⟩ := h.bytes.isSlice
    have k0 := h.c0
    have k1 := h.c1
    obtain ⟨v1, hv1, hb1⟩ := h.bytes.slice_l i h.le
    have hok := shortG_ok (all.drop i) 0 0 (by decide) (by decide)
    have hle := h.le
    have hsh := h.short
    rw [Nat.zero_add, List.length_drop] at hok
    obtain ⟨s, hs⟩ : ∃ s, shortG 0 0 (all.drop i) = s := ⟨_, rfl⟩
    obtain ⟨x, n, e2⟩ := s
    have hnum : numW (all.drop i) 0 = (x, n, e2) := by simp [numW, hs]
    rw [hs] at hok
    rw [hnum]
    have hSH : ∀ k, Calls Try.prog 125 #[v1] (w.drewN k) fun y w' => y = .returned (.tuple #[.int .u64 (x : Int), .int .i64 (n : Int), .int .i64 (e2 : Int)]) ∧ w' = w.drewN k := fun k => by
      have := short_any F v1 (all.drop i) (w.drewN k) (hb1.keep fun _ _ _ => rfl)
      rw [hs] at this
      exact this
    have HSH := Lib.hid hSH
    have HOK := Lib.hid hok
    have ho1 := hok.2.1
    have f3 := h.blk.free 3
    have f1 := h.blk.free 1
    obtain ⟨ra, rc, rfl⟩ := hb1.isSlice
    clear h hb1 hs hok hnum hSH
    have HN : Hid (i + n ≤ all.length) := by show _ ≤ _; simp only [] at ho1; omega
    have HAL : Hid (i + n ≤ 1000000000) := Nat.le_trans HN.out hsh
    have hil : i + n ≤ 1000000000 := HAL.out
    clear ho1 hle hsh
    generalize (all.drop i).length = m at hv1 HSH
    obtain ⟨L, hL⟩ : ∃ L, all.length = L := ⟨_, rfl⟩
    rw [hL] at k0 hv1 H ⊢
    clear hL
    go_enter Try.func122, Try.ntmps122
    go_wp2_with fail
    refine Calls.mono (none_any H.out) ?_
    rintro _ _ ⟨rfl, rfl⟩
    go_wp2_with fail
    go_quiet ((go_at_call 125; refine Calls.quiet_of_same (HSH.out _)))
    all_goals
      go_wp2_with fail
      go_ret
      refine ⟨rfl, ((H.out.drewN _).setErr e2 (Nat.le_trans HOK.out.2.2 (by decide))).setAt n HN.out, ?_⟩
      exact (((Wrote.refl (· = r) _).drewN _).setCell ⟨r, 3, none⟩ _ (.inl rfl)).setCell ⟨r, 1, none⟩ _ (.inl rfl)
  · have t0 : ((e : Int) != 0) = true := by rw [bne_iff_ne]; omega
    have hnum : numW (all.drop i) e = (0, 0, e) := by simp [numW, he]
    rw [hnum]
    clear h hnum
    go_enter Try.func122, Try.ntmps122
    go_wp2_with fail
    refine Calls.mono (none_any H.out) ?_
    rintro _ _ ⟨rfl, rfl⟩
    go_wp2_with fail
    go_ret
    exact ⟨rfl, H.out, Wrote.refl _ _⟩
set_option maxRecDepth 100000 in
set_option maxHeartbeats 2000000 in
theorem rfixed_any {F : Nat → Prop} {r : Nat} {v : Value} {all : List UInt8} {i : Nat} {w : World} (n : Nat) (h : WR F r v all i 0 w) (hn : i + n ≤ all.length) :
    Calls Try.prog 127 #[.pointer (some ⟨r, 0, none⟩), .int .i64 (n : Int)] w fun x w' => ∃ u, x = .returned u ∧ Owned w.heap.size w' u ((all.drop i).take n) ∧ WR F r v all (i + n) 0 w' ∧ Wrote (· = r) w w' := by
  have H := Lib.hid h
  have k3 := h.c3
  obtain ⟨a, c, rfl⟩ := h.bytes.isSlice
  have HN := Lib.hid hn
  have hle := h.le
  have hsh := h.short
  have t1 : ¬ (n : Int) < 0 := by omega
  have t2 : ¬ ((all.length - i : Nat) : Int) < (n : Int) := by omega
  have f1 := h.blk.free 1
  have k1 := h.c1
  clear h
  go_enter Try.func127, Try.ntmps127
  go_wp2_with fail
  refine Calls.mono (none_any H.out) ?_
  rintro _ w0 ⟨rfl, hw0⟩
  rw [hw0]
  clear hw0 w0
  go_wp2_with fail
  refine Calls.mono (rleft_any H.out) ?_
  rintro _ _ ⟨rfl, k, rfl⟩
  generalize all.length - i = m at t2
  go_upto_region 10 with fail
  refine wp_gen fun w1 hw1 => ?_
  have H1 : Hid (WR F r (.slice a all.length c) all (i + n) 0 w1) := by rw [hw1]; exact (H.out.drewN _).setAt n HN.out
  have HW1 : Hid (Wrote (· = r) w w1) := by rw [hw1]; exact ((Wrote.refl (· = r) _).drewN _).setCell ⟨r, 1, none⟩ _ (.inl rfl)
  clear hw1 k1 k3 f1 H
  have k0 := H1.out.c0
  have k1 := H1.out.c1
  obtain ⟨v1, hv1, hb1⟩ := H1.out.bytes.slice_lh i (i + n) (by omega) HN.out
  rw [Nat.add_sub_cancel_left] at hb1
  have HCL : Hid (∀ k, Calls Try.prog 61 #[v1] (w1.drewN k) fun e w' => ∃ v', e = .returned v' ∧ Owned w1.heap.size w' v' ((all.drop i).take n) ∧ Below w1.heap.size w1 w') := fun k => by
    refine (clone_any F v1 _ (w1.drewN k) (hb1.keep fun _ _ _ => rfl) (by rw [List.length_take, List.length_drop]; omega)).mono ?_
    rintro e w' ⟨v', h1, h2, h3⟩
    exact ⟨v', h1, h2, ⟨h3.os, h3.tape, h3.output, h3.size, h3.block⟩⟩
  obtain ⟨J, hJ⟩ : ∃ J, i + n = J := ⟨_, rfl⟩
  have he : (i : Int) = (J : Int) - (n : Int) := by omega
  rw [hJ] at k1 hv1
  rw [he] at hv1
  have hjn : n ≤ J := by omega
  have hjl : J ≤ 1000000000 := by omega
  have hwr : IntKind.i64.wrap ((J : Int) - (n : Int)) = (J : Int) - (n : Int) := wrap_small (by omega) (by omega)
  rw [← hwr] at hv1
  clear he hwr
  obtain ⟨ra, rc, rfl⟩ := hb1.isSlice
  generalize (List.take n (List.drop i all)).length = q at *
  obtain ⟨L, hL⟩ : ∃ L, all.length = L := ⟨_, rfl⟩
  have HLL : Hid (all.length = L) := hL
  rw [hL] at k0 hv1 H1
  clear hL hb1 hle hsh hn
  go_region_law (first
    | (go_simp; go_at_call 61; refine Calls.mono (HCL.out _) ?_; rintro _ w2 ⟨v2, rfl, ho, hb⟩))
  all_goals
    obtain ⟨va, vn, vc, rfl⟩ := ho.isSlice
    go_wp2_with fail
    go_ret
    refine ⟨_, rfl, ho.base HW1.out.size, ?_, HW1.out.trans (Wrote.of_below hb)⟩
    rw [HLL.out]
    exact H1.out.wrote (Wrote.of_below (S := fun _ => False) hb) (fun h => h) (fun _ _ h => h)
/-- What Piece tells: the piece, where the reader is then, its code. -/
def pieceW (all : List UInt8) (i e : Nat) : List UInt8 × Nat × Nat :=
  if e ≠ 0 then ([], i, e)
  else
    let s := shortG 0 0 (all.drop i)
    if s.2.2 ≠ 0 then ([], i, s.2.2)
    else if 1048576 < s.1 then ([], i, 3)
    else if all.length - i - s.2.1 < s.1 then ([], i, 12)
    else ((all.drop (i + s.2.1)).take s.1, i + s.2.1 + s.1, 0)
set_option maxRecDepth 100000 in
set_option maxHeartbeats 2000000 in
theorem rpiece_any {F : Nat → Prop} {r : Nat} {v : Value} {all : List UInt8} {i e : Nat} {w : World} (h : WR F r v all i e w) :
    Calls Try.prog 98 #[.pointer (some ⟨r, 0, none⟩)] w fun x w' => ∃ u, x = .returned u ∧ Owned w.heap.size w' u (pieceW all i e).1 ∧ WR F r v all (pieceW all i e).2.1 (pieceW all i e).2.2 w' ∧ Wrote (· = r) w w' := by
  have H := Lib.hid h
  have k3 := h.c3
  by_cases he : e = 0
  · subst he
    obtain ⟨a, c, rfl⟩ := h.bytes.isSlice
    have k0 := h.c0
    have k1 := h.c1
    obtain ⟨v1, hv1, hb1⟩ := h.bytes.slice_l i h.le
    have hok := shortG_ok (all.drop i) 0 0 (by decide) (by decide)
    have hle := h.le
    have hsh := h.short
    rw [Nat.zero_add, List.length_drop] at hok
    obtain ⟨s, hs⟩ : ∃ s, shortG 0 0 (all.drop i) = s := ⟨_, rfl⟩
    obtain ⟨x, n, e2⟩ := s
    have hP : Hid (pieceW all i 0 = if e2 ≠ 0 then ([], i, e2) else if 1048576 < x then ([], i, 3) else if all.length - i - n < x then ([], i, 12) else ((all.drop (i + n)).take x, i + n + x, 0)) := by
      show _ = _
      unfold pieceW
      rw [hs, if_neg (by decide)]
    rw [hs] at hok
    have hSH : ∀ k, Calls Try.prog 125 #[v1] (w.drewN k) fun y w' => y = .returned (.tuple #[.int .u64 (x : Int), .int .i64 (n : Int), .int .i64 (e2 : Int)]) ∧ w' = w.drewN k := fun k => by
      have := short_any F v1 (all.drop i) (w.drewN k) (hb1.keep fun _ _ _ => rfl)
      rw [hs] at this
      exact this
    have HSH := Lib.hid hSH
    have HOK := Lib.hid hok
    have ho1 := hok.2.1
    have f3 := h.blk.free 3
    have f1 := h.blk.free 1
    obtain ⟨ra, rc, rfl⟩ := hb1.isSlice
    clear h hb1 hs hok hSH
    have HN : Hid (i + n ≤ all.length) := by show _ ≤ _; simp only [] at ho1; omega
    have HAL : Hid (all.length ≤ 1000000000) := hsh
    have hil : i + n ≤ 1000000000 := Nat.le_trans HN.out hsh
    obtain ⟨m, hm⟩ : ∃ m, all.length - i = m := ⟨_, rfl⟩
    have hmn : n ≤ m := by rw [← hm]; exact ho1
    have hm9 : m ≤ 1000000000 := by omega
    have HM : Hid (all.length - i = m) := hm
    rw [hm] at hP
    clear ho1 hle hsh hm
    generalize (all.drop i).length = q at hv1 HSH
    have HLL := Lib.hid (rfl : all.length = all.length)
    obtain ⟨L, hL⟩ : ∃ L, all.length = L := ⟨_, rfl⟩
    have HL : Hid (all.length = L) := hL
    rw [hL] at k0 hv1 H ⊢
    clear hL HLL
    have HX : Hid (x < 18446744073709551616) := HOK.out.1
    have hxx := HX.out
    go_enter Try.func98, Try.ntmps98
    go_wp2_with fail
    refine Calls.mono (none_any H.out) ?_
    rintro _ w0 ⟨rfl, hw0⟩
    rw [hw0]
    clear hw0 w0
    go_wp2_with fail
    go_quiet ((go_at_call 125; refine Calls.quiet_of_same (HSH.out _)))
    all_goals
      have HK : Hid (WR F r (.slice a L c) all i 0 (w.drewN nq)) := H.out.drewN _
      have HW : Hid (Wrote (· = r) w (w.drewN nq)) := (Wrote.refl (· = r) _).drewN _
      generalize w.drewN nq = w1 at *
      clear HSH hv1 k3 k0 k1 f3 f1 H
      have k3 := HK.out.c3
      have k1 := HK.out.c1
      have f3 := HK.out.blk.free 3
      have f1 := HK.out.blk.free 1
      by_cases h2 : e2 = 0
      · subst h2
        by_cases h3 : 1048576 < x
        · have t3 : (1048576 : Int) < (x : Int) := by omega
          have HP : Hid (pieceW all i 0 = ([], i, 3)) := by show _ = _; rw [hP, if_neg (by decide), if_pos h3]
          clear hP
          go_wp2_with fail
          go_ret
          rw [HP.out]
          exact ⟨_, rfl, Owned.nil _ _, HK.out.setErr 3 (by decide), HW.out.setCell ⟨r, 3, none⟩ _ (.inl rfl)⟩
        · have t3 : ¬ (1048576 : Int) < (x : Int) := by omega
          have hx2 : x ≤ 1048576 := by omega
          have HMI : Hid (∀ w', WR F r (.slice a L c) all i 0 w' → Calls Try.prog 126 #[.pointer (some ⟨r, 0, none⟩)] w' fun x w'' => x = .returned (.int .i64 (m : Int)) ∧ ∃ n, w'' = w'.drewN n) := fun w' h => by
            have := rleft_any h
            rw [HM.out] at this
            exact this
          go_wp2_with fail
          refine Calls.mono (HMI.out _ HK.out) ?_
          rintro _ w2 ⟨rfl, k, hw2⟩
          rw [hw2]
          have HK2 : Hid (WR F r (.slice a L c) all i 0 (w1.drewN k)) := HK.out.drewN _
          have HW2 : Hid (Wrote (· = r) w (w1.drewN k)) := HW.out.drewN _
          clear hw2 w2 HW k3 k1 f3 f1
          generalize w1.drewN k = w3 at *
          have k1 := HK2.out.c1
          have k3 := HK2.out.c3
          have f3 := HK2.out.blk.free 3
          have f1 := HK2.out.blk.free 1
          have hu : IntKind.u64.wrap ((m : Int) - (n : Int)) = (m : Int) - (n : Int) := by rw [IntKind.wrap_u64]; omega
          by_cases h4 : m - n < x
          · have t4 : (m : Int) - (n : Int) < (x : Int) := by omega
            have HP : Hid (pieceW all i 0 = ([], i, 12)) := by show _ = _; rw [hP, if_neg (by decide), if_neg h3, if_pos h4]
            clear hP
            go_wp2_with fail
            go_ret
            rw [HP.out]
            exact ⟨_, rfl, Owned.nil _ _, HK2.out.setErr 12 (by decide), HW2.out.setCell ⟨r, 3, none⟩ _ (.inl rfl)⟩
          · have t4 : ¬ (m : Int) - (n : Int) < (x : Int) := by omega
            have HP : Hid (pieceW all i 0 = ((all.drop (i + n)).take x, i + n + x, 0)) := by show _ = _; rw [hP, if_neg (by decide), if_neg h3, if_neg h4]
            clear hP
            have HN2 : Hid (i + n + x ≤ all.length) := by
              show _ ≤ _
              have := HM.out
              have := HN.out
              omega
            go_wp2_with fail
            have HK4 : Hid (WR F r (.slice a L c) all (i + n) 0 (w3.setCell ⟨r, 1, none⟩ (.int .i64 ((i : Int) + (n : Int))))) := HK2.out.setAt n HN.out
            have HW4 : Hid (Wrote (· = r) w (w3.setCell ⟨r, 1, none⟩ (.int .i64 ((i : Int) + (n : Int))))) := HW2.out.setCell ⟨r, 1, none⟩ _ (.inl rfl)
            refine Calls.mono (rfixed_any x HK4.out HN2.out) ?_
            rintro _ w5 ⟨u, rfl, ho, hr, hww⟩
            obtain ⟨ua, un, uc, rfl⟩ := ho.isSlice
            go_wp2_with fail
            go_ret
            rw [HP.out]
            exact ⟨_, rfl, ho.base (by have := HW4.out.size; exact this), hr, HW4.out.trans hww⟩
      · have t2 : ((e2 : Int) != 0) = true := by rw [bne_iff_ne]; omega
        have HP : Hid (pieceW all i 0 = ([], i, e2)) := by show _ = _; rw [hP, if_pos h2]
        clear hP
        go_wp2_with fail
        go_ret
        rw [HP.out]
        exact ⟨_, rfl, Owned.nil _ _, HK.out.setErr e2 (Nat.le_trans HOK.out.2.2 (by decide)), HW.out.setCell ⟨r, 3, none⟩ _ (.inl rfl)⟩
  · have t0 : ((e : Int) != 0) = true := by rw [bne_iff_ne]; omega
    have hnum : pieceW all i e = ([], i, e) := by simp [pieceW, he]
    rw [hnum]
    clear h hnum
    go_enter Try.func98, Try.ntmps98
    go_wp2_with fail
    refine Calls.mono (none_any H.out) ?_
    rintro _ w0 ⟨rfl, hw0⟩
    rw [hw0]
    clear hw0 w0
    go_wp2_with fail
    go_ret
    exact ⟨_, rfl, Owned.nil _ _, H.out, Wrote.refl _ _⟩
end Go.Proofs.Ytkcohhldmhdcfaa

namespace Go.Proofs.Ytkcohhldmhdcfaa
open Go.RowKit

set_option maxRecDepth 100000 in
set_option maxHeartbeats 1000000 in
theorem wnew_any (F : Nat → Prop) (v : Value) (bs : List UInt8) (w : World) (h : Bytes F w v bs) (hl : bs.length ≤ 1000000000) :
    Calls Try.prog 94 #[v] w fun e w' => ∃ r u, e = .returned (.pointer (some ⟨r, 0, none⟩)) ∧ WR (fun k => w.heap.size ≤ k ∧ k ≠ r) r u bs 0 0 w' ∧ w.heap.size ≤ r ∧ Below w.heap.size w w' := by
  obtain ⟨a, c, rfl⟩ := h.isSlice
  have HC := Lib.hid (clone_any F _ bs w h (by omega))
  have HL := Lib.hid hl
  clear h hl
  go_enter Try.func94, Try.ntmps94
  go_wp2_with fail
  refine Calls.mono HC.out ?_
  rintro _ w1 ⟨u, rfl, ho, hb⟩
  have HU : Hid (Bytes (fun k => w.heap.size ≤ k) w1 u bs) := ho.bytesFrom
  have HB : Hid (Below w.heap.size w w1) := hb
  obtain ⟨ua, un, uc, rfl⟩ := ho.isSlice
  clear ho hb HC
  go_wp2_with fail
  have HR : Hid (Blk (w1.alloc (.cells (rdBlk (.slice ua un uc) 0 0) 153)) w1.heap.size (rdBlk (.slice ua un uc) 0 0) 153) := Blk.at_new rfl rfl
  have HB2 : Hid (Below w1.heap.size w1 (w1.alloc (.cells (rdBlk (.slice ua un uc) 0 0) 153))) := (Below.refl _ _).alloc (Nat.le_refl _) _
  go_ret
  refine ⟨_, _, rfl, ⟨HR.out, ?_, fun x => x.2 rfl, Nat.zero_le _, by decide, HL.out⟩, HB.out.size, HB.out.trans (HB2.out.mono HB.out.size)⟩
  exact (HU.out.mono fun k hk hF => (⟨hF, Nat.ne_of_lt hk⟩ : w.heap.size ≤ k ∧ k ≠ w1.heap.size)).below HB2.out

/-- version's reader: its block is q, wire's is r. -/
structure RD (A B q r : Nat) (v : Value) (all : List UInt8) (i e ve : Nat) (w : World) : Prop where
  wr : WR (fun k => (A ≤ k ∧ k < B) ∧ k ≠ r ∧ k ≠ q) r v all i e w
  blk : Blk w q #[.pointer (some ⟨r, 0, none⟩), .int .i64 (ve : Int)] 128
  ne : r ≠ q
  lr : A ≤ r ∧ r < B
  lq : A ≤ q ∧ q < B
  small : ve ≤ 100
section
variable {A B q r : Nat} {v : Value} {all : List UInt8} {i e ve : Nat} {w : World}
theorem RD.q0 (h : RD A B q r v all i e ve w) : w.cell? ⟨q, 0, none⟩ = some (.pointer (some ⟨r, 0, none⟩)) := h.blk.cell rfl
theorem RD.q1 (h : RD A B q r v all i e ve w) : w.cell? ⟨q, 1, none⟩ = some (.int .i64 (ve : Int)) := h.blk.cell rfl
theorem RD.wire {i2 e2 : Nat} {w' : World} (h : RD A B q r v all i e ve w) (hw : WR (fun k => (A ≤ k ∧ k < B) ∧ k ≠ r ∧ k ≠ q) r v all i2 e2 w') (hh : Wrote (· = r) w w') : RD A B q r v all i2 e2 ve w' :=
  ⟨hw, h.blk.same (hh.block _ h.blk.lt (fun x => h.ne x.symm)), h.ne, h.lr, h.lq, h.small⟩
theorem RD.setE (h : RD A B q r v all i e ve w) (e2 : Nat) (he : e2 ≤ 100) : RD A B q r v all i e e2 (w.setCell ⟨q, 1, none⟩ (.int .i64 (e2 : Int))) :=
  ⟨h.wr.wrote ((Wrote.refl (· = q) w).setCell ⟨q, 1, none⟩ _ (.inl rfl)) h.ne (fun _ hk => hk.2.2), h.blk.set 1 _, h.ne, h.lr, h.lq, he⟩
theorem RD.wrote {S : Nat → Prop} {w' : World} (h : RD A B q r v all i e ve w) (hw : Wrote S w w') (hr : ¬ S r) (hq : ¬ S q) (hA : ∀ k, A ≤ k → k < B → k ≠ r → k ≠ q → ¬ S k) : RD A B q r v all i e ve w' :=
  ⟨h.wr.wrote hw hr (fun k hk => hA k hk.1.1 hk.1.2 hk.2.1 hk.2.2), h.blk.same (hw.block _ h.blk.lt hq), h.ne, h.lr, h.lq, h.small⟩
theorem RD.below {w' : World} (h : RD A B q r v all i e ve w) (hb : Below w.heap.size w w') : RD A B q r v all i e ve w' :=
  h.wrote (S := fun _ => False) (.of_below hb) (fun h => h) (fun h => h) (fun _ _ _ _ _ h => h)
end
/-- The first fault so far. -/
def faultW (e ve : Nat) : Nat := if ve = 0 then e else ve
set_option maxRecDepth 100000 in
set_option maxHeartbeats 1000000 in
theorem vfault_any {A B q r : Nat} {v : Value} {all : List UInt8} {i e ve : Nat} {w : World} (h : RD A B q r v all i e ve w) :
    Calls Try.prog 97 #[.pointer (some ⟨q, 0, none⟩)] w fun x w' => x = .returned (.int .i64 (faultW e ve : Int)) ∧ RD A B q r v all i e (faultW e ve) w' ∧ Wrote (fun k => k = r ∨ k = q) w w' := by
  have H := Lib.hid h
  have q0 := h.q0
  have q1 := h.q1
  have f1 := h.blk.free 1
  clear h
  go_enter Try.func97, Try.ntmps97
  by_cases hv : ve = 0
  · subst hv
    have HF : Hid (faultW e 0 = e) := rfl
    go_wp2_with fail
    refine Calls.mono (rerr_any H.out.wr) ?_
    rintro _ w0 ⟨rfl, hw0⟩
    rw [hw0]
    clear hw0 w0
    go_wp2_with fail
    go_ret
    rw [HF.out]
    exact ⟨rfl, H.out.setE e H.out.wr.small, (Wrote.refl _ _).setCell ⟨q, 1, none⟩ _ (.inl (.inr rfl))⟩
  · have t0 : ((ve : Int) == 0) = false := by rw [beq_eq_false_iff_ne]; omega
    have HF : Hid (faultW e ve = ve) := by show _ = _; simp [faultW, hv]
    go_wp2_with fail
    go_ret
    rw [HF.out]
    exact ⟨rfl, H.out, Wrote.refl _ _⟩
/-- Where a reader is: its place, wire's code, version's code. -/
structure RS where
  i : Nat
  e : Nat
  ve : Nat
/-- What num tells, and where the reader is then. -/
def numS (all : List UInt8) (s : RS) : Nat × RS :=
  if faultW s.e s.ve ≠ 0 then (0, ⟨s.i, s.e, faultW s.e s.ve⟩)
  else
    let t := numW (all.drop s.i) s.e
    (t.1, ⟨s.i + t.2.1, t.2.2, if t.2.2 = 0 ∧ 4611686018427387904 < t.1 then 4 else t.2.2⟩)
theorem numW_lt (bs : List UInt8) (e : Nat) : (numW bs e).1 < 18446744073709551616 := by
  unfold numW
  by_cases h : e ≠ 0
  · rw [if_pos h]; exact (by decide : (0 : Nat) < 18446744073709551616)
  · rw [if_neg h]; exact (shortG_ok bs 0 0 (by decide) (by decide)).1
set_option maxRecDepth 100000 in
set_option maxHeartbeats 1000000 in
theorem vnum_any {A B q r : Nat} {v : Value} {all : List UInt8} {s : RS} {w : World} (h : RD A B q r v all s.i s.e s.ve w) :
    Calls Try.prog 95 #[.pointer (some ⟨q, 0, none⟩)] w fun x w' => x = .returned (.int .u64 ((numS all s).1 : Int)) ∧ RD A B q r v all (numS all s).2.i (numS all s).2.e (numS all s).2.ve w' ∧ Wrote (fun k => k = r ∨ k = q) w w' := by
  obtain ⟨i, e, ve⟩ := s
  have H : Hid (RD A B q r v all i e ve w) := h
  clear h
  have HS : Hid (numS all ⟨i, e, ve⟩ = if faultW e ve ≠ 0 then (0, ⟨i, e, faultW e ve⟩) else ((numW (all.drop i) e).1, ⟨i + (numW (all.drop i) e).2.1, (numW (all.drop i) e).2.2, if (numW (all.drop i) e).2.2 = 0 ∧ 4611686018427387904 < (numW (all.drop i) e).1 then 4 else (numW (all.drop i) e).2.2⟩)) := rfl
  obtain ⟨s2, hs2⟩ : ∃ s2, numS all ⟨i, e, ve⟩ = s2 := ⟨_, rfl⟩
  rw [hs2] at HS ⊢
  clear hs2
  go_enter Try.func95, Try.ntmps95
  go_wp2_with fail
  refine Calls.mono (vfault_any H.out) ?_
  rintro _ w1 ⟨rfl, hr1, hw1⟩
  have H1 := Lib.hid hr1
  have HW1 := Lib.hid hw1
  clear hr1 hw1
  obtain ⟨f, hf⟩ : ∃ f, faultW e ve = f := ⟨_, rfl⟩
  rw [hf] at HS H1 ⊢
  by_cases h0 : f = 0
  · subst h0
    have he : e = 0 := by
      unfold faultW at hf
      by_cases hv : ve = 0
      · rw [if_pos hv] at hf; exact hf
      · rw [if_neg hv] at hf; exact absurd hf hv
    subst he
    have q0 := H1.out.q0
    obtain ⟨t, ht⟩ : ∃ t, numW (all.drop i) 0 = t := ⟨_, rfl⟩
    obtain ⟨x, n, e2⟩ := t
    have hx := numW_lt (all.drop i) 0
    have HNU := Lib.hid (rnumber_any H1.out.wr)
    rw [ht] at HS HNU hx
    have hx : x < 18446744073709551616 := hx
    have HS2 : Hid (s2 = (x, ⟨i + n, e2, if e2 = 0 ∧ 4611686018427387904 < x then 4 else e2⟩)) := by
      show _ = _
      rw [HS.out, if_neg (by decide)]
    clear HS ht hf H
    go_wp2_with fail
    refine Calls.mono HNU.out ?_
    rintro _ w2 ⟨rfl, hr2, hw2⟩
    have H2 : Hid (RD A B q r v all (i + n) e2 0 w2) := H1.out.wire hr2 hw2
    have HW2 : Hid (Wrote (fun k => k = r ∨ k = q) w w2) := HW1.out.trans ⟨hw2.os, hw2.tape, hw2.output, hw2.size, fun k hk hn => hw2.block k hk (fun e => hn (.inl e))⟩
    clear hr2 hw2 HNU H1 HW1 q0
    go_wp2_with fail
    refine Calls.mono (vfault_any H2.out) ?_
    rintro _ w3 ⟨rfl, hr3, hw3⟩
    have hfe : faultW e2 0 = e2 := rfl
    rw [hfe] at hr3 ⊢
    have H3 := Lib.hid hr3
    have HW3 := Lib.hid (HW2.out.trans hw3)
    clear hr3 hw3 H2 HW2 hfe
    by_cases h2 : e2 = 0
    · subst h2
      by_cases h4 : 4611686018427387904 < x
      · have t4 : (4611686018427387904 : Int) < (x : Int) := by omega
        have HS3 : Hid (s2 = (x, ⟨i + n, 0, 4⟩)) := by
          show _ = _
          rw [HS2.out, if_pos ⟨rfl, h4⟩]
        have q1 := H3.out.q1
        have f1 := H3.out.blk.free 1
        go_wp2_with fail
        go_ret
        rw [HS3.out]
        exact ⟨rfl, H3.out.setE 4 (by decide), HW3.out.setCell ⟨q, 1, none⟩ _ (.inl (.inr rfl))⟩
      · have t4 : ¬ (4611686018427387904 : Int) < (x : Int) := by omega
        have HS3 : Hid (s2 = (x, ⟨i + n, 0, 0⟩)) := by
          show _ = _
          rw [HS2.out, if_neg (fun h => h4 h.2)]
        go_wp2_with fail
        go_ret
        rw [HS3.out]
        exact ⟨rfl, H3.out, HW3.out⟩
    · have t2 : ((e2 : Int) == 0) = false := by rw [beq_eq_false_iff_ne]; omega
      have HS3 : Hid (s2 = (x, ⟨i + n, e2, e2⟩)) := by
        show _ = _
        rw [HS2.out, if_neg (fun h => h2 h.1)]
      go_wp2_with fail
      go_ret
      rw [HS3.out]
      exact ⟨rfl, H3.out, HW3.out⟩
  · have t0 : ((f : Int) != 0) = true := by rw [bne_iff_ne]; omega
    have HS2 : Hid (s2 = (0, ⟨i, e, f⟩)) := by
      show _ = _
      rw [HS.out, if_pos h0]
    go_wp2_with fail
    go_ret
    rw [HS2.out]
    exact ⟨rfl, H1.out, HW1.out⟩
/-- What count tells, and where the reader is then. -/
def countS (all : List UInt8) (s : RS) : Nat × RS :=
  let t := numS all s
  let f := faultW t.2.e t.2.ve
  if f ≠ 0 then (0, ⟨t.2.i, t.2.e, f⟩)
  else if 10000 < t.1 then (0, ⟨t.2.i, t.2.e, 3⟩) else (t.1, ⟨t.2.i, t.2.e, 0⟩)
theorem numS_lt (all : List UInt8) (s : RS) : (numS all s).1 < 18446744073709551616 := by
  unfold numS
  by_cases h : faultW s.e s.ve ≠ 0
  · rw [if_pos h]; exact (by decide : (0 : Nat) < 18446744073709551616)
  · rw [if_neg h]; exact numW_lt _ _
set_option maxRecDepth 100000 in
set_option maxHeartbeats 1000000 in
theorem vcount_any {A B q r : Nat} {v : Value} {all : List UInt8} {s : RS} {w : World} (h : RD A B q r v all s.i s.e s.ve w) :
    Calls Try.prog 96 #[.pointer (some ⟨q, 0, none⟩)] w fun x w' => x = .returned (.int .i64 ((countS all s).1 : Int)) ∧ RD A B q r v all (countS all s).2.i (countS all s).2.e (countS all s).2.ve w' ∧ Wrote (fun k => k = r ∨ k = q) w w' := by
  have HNU := Lib.hid (vnum_any h)
  have hxl := numS_lt all s
  obtain ⟨t, ht⟩ : ∃ t, numS all s = t := ⟨_, rfl⟩
  obtain ⟨x, i, e, ve⟩ := t
  have HS : Hid (countS all s = if faultW e ve ≠ 0 then (0, ⟨i, e, faultW e ve⟩) else if 10000 < x then (0, ⟨i, e, 3⟩) else (x, ⟨i, e, 0⟩)) := by
    show _ = _
    unfold countS
    rw [ht]
  rw [ht] at HNU hxl
  have hx : x < 18446744073709551616 := hxl
  obtain ⟨s2, hs2⟩ : ∃ s2, countS all s = s2 := ⟨_, rfl⟩
  rw [hs2] at HS ⊢
  clear h ht hs2 hxl
  go_enter Try.func96, Try.ntmps96
  go_wp2_with fail
  refine Calls.mono HNU.out ?_
  rintro _ w1 ⟨rfl, hr1, hw1⟩
  have H1 : Hid (RD A B q r v all i e ve w1) := hr1
  have HW1 := Lib.hid hw1
  clear hr1 hw1 HNU
  go_wp2_with fail
  refine Calls.mono (vfault_any H1.out) ?_
  rintro _ w2 ⟨rfl, hr2, hw2⟩
  have H2 := Lib.hid hr2
  have HW2 := Lib.hid (HW1.out.trans hw2)
  clear hr2 hw2 H1 HW1
  obtain ⟨f, hf⟩ : ∃ f, faultW e ve = f := ⟨_, rfl⟩
  rw [hf] at HS H2 ⊢
  have q1 := H2.out.q1
  have f1 := H2.out.blk.free 1
  by_cases h0 : f = 0
  · subst h0
    by_cases h4 : 10000 < x
    · have t4 : (10000 : Int) < (x : Int) := by omega
      have HS3 : Hid (s2 = (0, ⟨i, e, 3⟩)) := by
        show _ = _
        rw [HS.out, if_neg (by decide), if_pos h4]
      go_wp2_with fail
      go_ret
      rw [HS3.out]
      exact ⟨rfl, H2.out.setE 3 (by decide), HW2.out.setCell ⟨q, 1, none⟩ _ (.inl (.inr rfl))⟩
    · have t4 : ¬ (10000 : Int) < (x : Int) := by omega
      have HS3 : Hid (s2 = (x, ⟨i, e, 0⟩)) := by
        show _ = _
        rw [HS.out, if_neg (by decide), if_neg h4]
      have hx2 : (x : Int) ≤ 10000 := by omega
      have hx3 : 0 ≤ (x : Int) := by omega
      go_wp2_with fail
      go_ret
      rw [HS3.out]
      exact ⟨rfl, H2.out, HW2.out⟩
  · have t0 : ((f : Int) == 0) = false := by rw [beq_eq_false_iff_ne]; omega
    have t1 : ((f : Int) != 0) = true := by rw [bne_iff_ne]; omega
    have HS3 : Hid (s2 = (0, ⟨i, e, f⟩)) := by
      show _ = _
      rw [HS.out, if_pos h0]
    go_wp2_with fail
    go_ret
    rw [HS3.out]
    exact ⟨rfl, H2.out, HW2.out⟩
end Go.Proofs.Ytkcohhldmhdcfaa
