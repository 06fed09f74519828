/- Plain mathematics of CRC-32C over 32-bit vectors: no program in sight. -/
namespace Go.Proofs.Ytkpbkhbgiijbiaa
namespace Crc

/-- The register behind one bit 0. -/
def step (c : BitVec 32) : BitVec 32 := (c >>> 1) ^^^ (if c.getLsbD 0 then 0x82F63B78#32 else 0#32)

theorem step_xor (a b : BitVec 32) : step (a ^^^ b) = step a ^^^ step b := by
  unfold step
  rw [BitVec.getLsbD_xor]
  cases a.getLsbD 0 <;> cases b.getLsbD 0 <;> simp <;> ext i hi <;> simp <;> grind

theorem step_zero : step 0#32 = 0#32 := by decide

def iter : Nat → BitVec 32 → BitVec 32
  | 0, c => c
  | n + 1, c => iter n (step c)

theorem iter_xor (n : Nat) : ∀ a b, iter n (a ^^^ b) = iter n a ^^^ iter n b := by
  induction n with
  | zero => intro a b; rfl
  | succ n ih => intro a b; simp only [iter, step_xor, ih]

theorem iter_zero (n : Nat) : iter n 0#32 = 0#32 := by
  induction n with
  | zero => rfl
  | succ n ih => simp only [iter, step_zero, ih]

theorem iter_add (m n : Nat) (c : BitVec 32) : iter (m + n) c = iter n (iter m c) := by
  induction m generalizing c with
  | zero => simp [iter]
  | succ m ih => rw [show m + 1 + n = (m + n) + 1 by omega]; simp only [iter, ih]

theorem iter_succ (n : Nat) (c : BitVec 32) : iter (n + 1) c = step (iter n c) := by rw [iter_add]; rfl

/-- The step can be undone: none but 0 goes to 0. -/
theorem step_inj0 (c : BitVec 32) (h : step c = 0#32) : c = 0#32 := by
  unfold step at h
  by_cases h0 : c.getLsbD 0
  · exfalso
    rw [if_pos h0] at h
    have := congrArg (fun x => x.getLsbD 31) h
    simp at this
  · rw [if_neg h0] at h
    simp only [BitVec.xor_zero] at h
    ext i hi
    have h1 := congrArg (fun x => x.getLsbD (i - 1)) h
    by_cases hz : i = 0
    · subst hz; simpa using h0
    · simp at h1
      have : 1 + (i - 1) = i := by omega
      rw [this] at h1
      simpa [BitVec.getLsbD_eq_getElem hi] using h1

theorem iter_inj0 (n : Nat) : ∀ c, iter n c = 0#32 → c = 0#32 := by
  induction n with
  | zero => intro c h; exact h
  | succ n ih => intro c h; exact step_inj0 c (ih _ h)

theorem iter_ne (n : Nat) {a b : BitVec 32} (h : a ≠ b) : iter n a ≠ iter n b := by
  intro e
  apply h
  have : iter n (a ^^^ b) = 0#32 := by rw [iter_xor, e]; simp
  have := iter_inj0 n _ this
  calc a = (a ^^^ b) ^^^ b := by rw [BitVec.xor_assoc]; simp
    _ = b := by rw [this]; simp

/-- Eight bits, the register of one byte. -/
def byte8 (r : BitVec 32) (b : UInt8) : BitVec 32 := iter 8 (r ^^^ BitVec.ofNat 32 b.toNat)

def upd (r : BitVec 32) (l : List UInt8) : BitVec 32 := l.foldl byte8 r

def tab (i : Nat) : BitVec 32 := iter 8 (BitVec.ofNat 32 i)

theorem step_shl (y : BitVec 32) (n : Nat) (hy : y < 0x1000000#32) (hn : n < 8) : step (y <<< (n + 1)) = y <<< n := by
  unfold step
  have h0 : (y <<< (n + 1)).getLsbD 0 = false := by simp
  rw [h0]
  have hy' : y.toNat < 16777216 := hy
  simp only [Bool.false_eq_true, ↓reduceIte, BitVec.xor_zero]
  apply BitVec.eq_of_toNat_eq
  simp only [BitVec.toNat_ushiftRight, BitVec.toNat_shiftLeft, Nat.shiftLeft_eq, Nat.shiftRight_eq_div_pow]
  have hp : 2 ^ n ≤ 128 := by
    have : n ≤ 7 := by omega
    calc 2 ^ n ≤ 2 ^ 7 := Nat.pow_le_pow_right (by omega) this
      _ = 128 := by decide
  have : y.toNat * 2 ^ n ≤ y.toNat * 128 := Nat.mul_le_mul_left _ hp
  rw [Nat.pow_succ, ← Nat.mul_assoc]
  omega

theorem iter_shl (n : Nat) (hn : n ≤ 8) (y : BitVec 32) (hy : y < 0x1000000#32) : iter n (y <<< n) = y := by
  induction n with
  | zero => simp [iter]
  | succ n ih => simp only [iter]; rw [step_shl y n hy (by omega)]; exact ih (by omega)

theorem split8 (r : BitVec 32) : r = ((r >>> 8) <<< 8) ^^^ BitVec.ofNat 32 (r.toNat % 256) := by
  apply BitVec.eq_of_getLsbD_eq
  intro i hi
  have : (256 : Nat) = 2 ^ 8 := by decide
  rw [this]
  simp only [BitVec.getLsbD_xor, BitVec.getLsbD_shiftLeft, BitVec.getLsbD_ushiftRight, BitVec.getLsbD_ofNat, Nat.testBit_mod_two_pow, BitVec.testBit_toNat]
  by_cases h : i < 8
  · simp [h, hi]
  · have h8 : 8 + (i - 8) = i := by omega
    simp [h, h8, hi]

/-- The table's way is the bits' way. -/
theorem tab_way (r : BitVec 32) : iter 8 r = tab (r.toNat % 256) ^^^ (r >>> 8) := by
  have h := split8 r
  have hlt : r >>> 8 < 0x1000000#32 := by
    show (r >>> 8).toNat < _
    simp only [BitVec.toNat_ushiftRight, Nat.shiftRight_eq_div_pow]
    have := r.isLt
    simp; omega
  calc iter 8 r = iter 8 (((r >>> 8) <<< 8) ^^^ BitVec.ofNat 32 (r.toNat % 256)) := by rw [← h]
    _ = _ := by rw [iter_xor, iter_shl 8 (by omega) _ hlt, BitVec.xor_comm]; rfl

theorem byte8_tab (r : BitVec 32) (b : UInt8) : byte8 r b = tab ((r.toNat % 256) ^^^ b.toNat) ^^^ (r >>> 8) := by
  unfold byte8
  rw [tab_way]
  have hb : b.toNat < 256 := b.toNat_lt
  congr 1
  · congr 1
    simp only [BitVec.toNat_xor, BitVec.toNat_ofNat]
    rw [Nat.mod_eq_of_lt (show b.toNat < 2 ^ 32 by omega), Nat.xor_mod_two_pow (n := 8) |> fun h => h, Nat.mod_eq_of_lt (show b.toNat < 2 ^ 8 by omega)]
  · apply BitVec.eq_of_toNat_eq
    simp only [BitVec.toNat_ushiftRight, BitVec.toNat_xor, BitVec.toNat_ofNat, Nat.shiftRight_xor_distrib]
    rw [Nat.mod_eq_of_lt (show b.toNat < 2 ^ 32 by omega)]
    have : b.toNat >>> 8 = 0 := by rw [Nat.shiftRight_eq_div_pow]; omega
    rw [this]; simp
theorem upd_snoc (r : BitVec 32) (l : List UInt8) (b : UInt8) : upd r (l ++ [b]) = byte8 (upd r l) b := by simp [upd]
/-- A map that keeps sums of bits. -/
structure Lin (f : BitVec 32 → BitVec 32) : Prop where
  add : ∀ a b, f (a ^^^ b) = f a ^^^ f b
  zero : f 0#32 = 0#32

theorem lin_iter (n : Nat) : Lin (iter n) := ⟨iter_xor n, iter_zero n⟩

/-- The lowest i bits. -/
def low (i : Nat) (v : BitVec 32) : BitVec 32 := BitVec.ofNat 32 (v.toNat % 2 ^ i)

theorem low_zero (v : BitVec 32) : low 0 v = 0#32 := by simp [low, Nat.mod_one]

theorem low_bit (i : Nat) (v : BitVec 32) (k : Nat) : (low i v).getLsbD k = (decide (k < i) && v.getLsbD k) := by
  unfold low
  simp only [BitVec.getLsbD_ofNat, Nat.testBit_mod_two_pow, BitVec.testBit_toNat]
  by_cases h : k < 32
  · simp [h]
  · have : v.getLsbD k = false := by simp [BitVec.getLsbD_of_ge, Nat.le_of_not_lt h]
    simp [h, this]

theorem low_succ (i : Nat) (v : BitVec 32) : low (i + 1) v = low i v ^^^ (if v.getLsbD i then 1#32 <<< i else 0#32) := by
  apply BitVec.eq_of_getLsbD_eq
  intro k hk
  rw [BitVec.getLsbD_xor, low_bit, low_bit]
  by_cases hv : v.getLsbD i
  · rw [if_pos hv]
    simp only [BitVec.getLsbD_shiftLeft, BitVec.getLsbD_one]
    by_cases h : k = i
    · subst h; simp [hv, hk]
    · by_cases h2 : k < i
      · simp [h2]; intro _; omega
      · have : ¬ k < i + 1 := by omega
        simp [h2, this]; omega
  · rw [if_neg hv]
    by_cases h : k = i
    · subst h; simp [hv]
    · by_cases h2 : k < i
      · have : k < i + 1 := by omega
        simp [h2, this]
      · have : ¬ k < i + 1 := by omega
        simp [h2, this]

theorem low_all (i : Nat) (v : BitVec 32) (h : v.toNat / 2 ^ i = 0) : low i v = v := by
  unfold low
  have : v.toNat % 2 ^ i = v.toNat := by
    rw [Nat.div_eq_zero_iff] at h
    rcases h with h | h
    · have := Nat.two_pow_pos i; omega
    · exact Nat.mod_eq_of_lt h
  rw [this]; simp

theorem lin_low (f : BitVec 32 → BitVec 32) (hf : Lin f) (i : Nat) (v : BitVec 32) : f (low (i + 1) v) = if v.getLsbD i then f (low i v) ^^^ f (1#32 <<< i) else f (low i v) := by
  rw [low_succ, hf.add]
  by_cases h : v.getLsbD i
  · simp [h]
  · simp [h, hf.zero]

theorem step_one : step (1#32 <<< 0) = 0x82F63B78#32 := by decide
theorem step_bit (i : Nat) (h : i < 31) : step (1#32 <<< (i + 1)) = 1#32 <<< i := by
  revert h
  revert i
  decide

/-- What Join tells, of a length that may be. -/
def join (a b : BitVec 32) (n : Nat) : BitVec 32 := iter (8 * n) a ^^^ b

/-- What Update tells. -/
def update (s : BitVec 32) (l : List UInt8) : BitVec 32 := ~~~ upd (~~~ s) l
theorem upd_lin (l : List UInt8) : ∀ r s : BitVec 32, upd (r ^^^ s) l = upd r l ^^^ iter (8 * l.length) s := by
  induction l with
  | nil => intro r s; simp [upd, iter]
  | cons b l ih =>
    intro r s
    have h1 : byte8 (r ^^^ s) b = byte8 r b ^^^ iter 8 s := by
      unfold byte8
      rw [BitVec.xor_assoc, BitVec.xor_comm s, ← BitVec.xor_assoc, iter_xor]
    have h2 : upd (r ^^^ s) (b :: l) = upd (byte8 (r ^^^ s) b) l := rfl
    rw [h2, h1, ih, ← iter_add]
    have h3 : 8 + 8 * l.length = 8 * (b :: l).length := by simp; omega
    rw [h3]; rfl

theorem upd_append (r : BitVec 32) (a b : List UInt8) : upd r (a ++ b) = upd (upd r a) b := by simp [upd]

theorem update_append (s : BitVec 32) (a b : List UInt8) : update (update s a) b = update s (a ++ b) := by
  simp only [update, upd_append, BitVec.not_not]

theorem join_sum (a b : List UInt8) : join (update 0#32 a) (update 0#32 b) b.length = update 0#32 (a ++ b) := by
  unfold join update
  rw [upd_append]
  generalize upd (~~~0#32) a = X
  have h : ~~~ (0#32) = X ^^^ ~~~ X := by
    apply BitVec.eq_of_getLsbD_eq
    intro i hi
    simp only [BitVec.getLsbD_xor, BitVec.getLsbD_not, hi, decide_true, Bool.true_and]
    cases X.getLsbD i <;> simp
  rw [h, upd_lin]
  generalize upd X b = Y
  generalize iter (8 * b.length) (~~~ X) = Z
  ext i hi
  simp
  cases Z[i] <;> cases Y[i] <;> rfl
end Crc

def rotL (x : BitVec 32) : BitVec 32 := (x <<< 15) ||| (x >>> 17)
def rotR (x : BitVec 32) : BitVec 32 := (x <<< 17) ||| (x >>> 15)
def maskW (x : BitVec 32) : BitVec 32 := rotR x + 0xA282EAD8#32
def unmaskW (x : BitVec 32) : BitVec 32 := rotL (x - 0xA282EAD8#32)

theorem unmask_mask (x : BitVec 32) : unmaskW (maskW x) = x := by
  unfold unmaskW maskW
  rw [BitVec.add_sub_cancel]
  unfold rotL rotR
  apply BitVec.eq_of_getLsbD_eq
  intro i hi
  simp only [BitVec.getLsbD_or, BitVec.getLsbD_shiftLeft, BitVec.getLsbD_ushiftRight, hi, decide_true, Bool.true_and]
  by_cases h1 : i < 15
  · have h2 : 17 + i < 32 := by omega
    have h3 : ¬ (17 + i < 17) := by omega
    have h4 : 17 + i - 17 = i := by omega
    have h5 : ¬ 15 + (17 + i) < 32 := by omega
    simp [h1, h2, h4, BitVec.getLsbD_of_ge x (15 + (17 + i)) (by omega)]
  · have h2 : i - 15 < 17 := by omega
    have h3 : 15 + (i - 15) = i := by omega
    have h4 : ¬ 17 + i < 32 := by omega
    simp [h1, h2, h3, h4, BitVec.getLsbD_of_ge x (15 + (17 + i)) (by omega)]

end Go.Proofs.Ytkpbkhbgiijbiaa
