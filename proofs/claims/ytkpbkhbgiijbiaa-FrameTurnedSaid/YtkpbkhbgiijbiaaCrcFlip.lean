/- Plain mathematics: a change of 32 bits side by side is seen by the sum. -/
import Derived.Test.YtkpbkhbgiijbiaaCrcMath
namespace Go.Proofs.Ytkpbkhbgiijbiaa
namespace Crc

def flipByte (b : UInt8) (s : Nat) : UInt8 := UInt8.ofNat (b.toNat ^^^ 2 ^ s)

theorem flipByte_nat (b : UInt8) (s : Nat) (hs : s < 8) : (flipByte b s).toNat = b.toNat ^^^ 2 ^ s := by
  unfold flipByte
  rw [UInt8.toNat_ofNat']
  apply Nat.mod_eq_of_lt
  refine Nat.xor_lt_two_pow b.toNat_lt ?_
  exact Nat.pow_lt_pow_right (by omega) hs

theorem byte8_flip (r : BitVec 32) (b : UInt8) (s : Nat) (hs : s < 8) : byte8 r (flipByte b s) = byte8 r b ^^^ iter 8 (1#32 <<< s) := by
  unfold byte8
  rw [flipByte_nat b s hs, ← iter_xor, BitVec.xor_assoc]
  congr 2
  have hb := b.toNat_lt
  apply BitVec.eq_of_toNat_eq
  have h2 : 2 ^ s < 2 ^ 32 := Nat.pow_lt_pow_right (by omega) (by omega)
  have h3 : b.toNat ^^^ 2 ^ s < 2 ^ 32 := Nat.xor_lt_two_pow (by omega) h2
  simp only [BitVec.toNat_xor, BitVec.toNat_ofNat, BitVec.toNat_shiftLeft, Nat.shiftLeft_eq, Nat.mod_eq_of_lt h3]
  rw [Nat.mod_eq_of_lt (show b.toNat < 2 ^ 32 by omega)]
  congr 1
  simp only [Nat.reducePow, Nat.reduceMod, Nat.one_mul]
  exact (Nat.mod_eq_of_lt h2).symm

def flipBit (l : List UInt8) (p : Nat) : List UInt8 := l.set (p / 8) (flipByte (l.getD (p / 8) 0) (p % 8))

theorem upd_set (l : List UInt8) : ∀ (r : BitVec 32) (q s : Nat), q < l.length → s < 8 → upd r (l.set q (flipByte (l.getD q 0) s)) = upd r l ^^^ iter (8 * (l.length - q)) (1#32 <<< s) := by
  induction l with
  | nil => intro r q s hq; simp at hq
  | cons b l ih =>
    intro r q s hq hs
    cases q with
    | zero =>
      have h1 : upd r ((b :: l).set 0 (flipByte ((b :: l).getD 0 0) s)) = upd (byte8 r (flipByte b s)) l := rfl
      rw [h1, byte8_flip r b s hs, upd_lin, ← iter_add]
      have h3 : 8 + 8 * l.length = 8 * ((b :: l).length - 0) := by simp; omega
      rw [h3]; rfl
    | succ q =>
      have h1 : upd r ((b :: l).set (q + 1) (flipByte ((b :: l).getD (q + 1) 0) s)) = upd (byte8 r b) (l.set q (flipByte (l.getD q 0) s)) := rfl
      rw [h1, ih (byte8 r b) q s (by simpa using hq) hs]
      have h3 : l.length - q = (b :: l).length - (q + 1) := by simp
      rw [h3]; rfl

theorem iter_one (i : Nat) (hi : i < 32) : iter i (1#32 <<< i) = 1#32 := by
  induction i with
  | zero => rfl
  | succ i ih =>
    show iter i (step (1#32 <<< (i + 1))) = _
    rw [step_bit i (by omega)]; exact ih (by omega)

theorem iter_bit (n i : Nat) (hi : i < 32) (hn : i ≤ n) : iter n (1#32 <<< i) = iter (n - i) 1#32 := by
  have : n = i + (n - i) := by omega
  conv => lhs; rw [this]
  rw [iter_add, iter_one i hi]

theorem flipBit_length (l : List UInt8) (p : Nat) : (flipBit l p).length = l.length := by simp [flipBit]

theorem upd_flipBit (r : BitVec 32) (l : List UInt8) (p : Nat) (hp : p < 8 * l.length) : upd r (flipBit l p) = upd r l ^^^ iter (8 * l.length - p) 1#32 := by
  unfold flipBit
  rw [upd_set l r (p / 8) (p % 8) (by omega) (by omega), iter_bit _ (p % 8) (by omega) (by omega)]
  have : 8 * (l.length - p / 8) - p % 8 = 8 * l.length - p := by omega
  rw [this]

def flips (l : List UInt8) (k : Nat) (c : BitVec 32) : Nat → List UInt8
  | 0 => l
  | i + 1 => if c.getLsbD i then flipBit (flips l k c i) (k + i) else flips l k c i

theorem flips_length (l : List UInt8) (k : Nat) (c : BitVec 32) (i : Nat) : (flips l k c i).length = l.length := by
  induction i with
  | zero => rfl
  | succ i ih => simp only [flips]; split <;> simp [flipBit_length, ih]

theorem upd_flips (r : BitVec 32) (l : List UInt8) (k : Nat) (c : BitVec 32) (hk : k + 32 ≤ 8 * l.length) (i : Nat) (hi : i ≤ 32) :
    upd r (flips l k c i) = upd r l ^^^ iter (8 * l.length - k) (low i c) := by
  induction i with
  | zero => simp only [flips, low_zero, iter_zero, BitVec.xor_zero]
  | succ i ih =>
    have ih := ih (by omega)
    simp only [flips, low_succ]
    by_cases h : c.getLsbD i
    · rw [if_pos h, if_pos h, upd_flipBit _ _ _ (by rw [flips_length]; omega), ih, flips_length, iter_xor, iter_bit _ i (by omega) (by omega), BitVec.xor_assoc]
      have : 8 * l.length - (k + i) = 8 * l.length - k - i := by omega
      rw [this]
    · rw [if_neg h, if_neg h, ih, BitVec.xor_zero]

theorem flips_seen (l : List UInt8) (k : Nat) (c : BitVec 32) (hk : k + 32 ≤ 8 * l.length) (hc : c ≠ 0#32) : update 0#32 (flips l k c 32) ≠ update 0#32 l := by
  intro h
  unfold update at h
  have h1 := congrArg (fun x => ~~~ x) h
  simp only [BitVec.not_not] at h1
  rw [upd_flips _ l k c hk 32 (Nat.le_refl _)] at h1
  generalize upd (~~~ 0#32) l = X at h1
  have h2 : iter (8 * l.length - k) (low 32 c) = 0#32 := by
    have := congrArg (fun y => X ^^^ y) h1
    simp only [← BitVec.xor_assoc, BitVec.xor_self, BitVec.zero_xor] at this
    exact this
  have h3 := iter_inj0 _ _ h2
  rw [low_all 32 c (by have := c.isLt; omega)] at h3
  exact hc h3
end Crc
end Go.Proofs.Ytkpbkhbgiijbiaa
