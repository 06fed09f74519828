/- Plain words of chapter 3: frames, and rows of them, as lists of bytes. -/
import Derived.Test.YtkpbkhbgiijbiaaCrcMath
namespace Go.Proofs.Ytkpbkhbgiijbiaa
namespace Fr

/-- A number's four bytes, the lowest first. -/
def four (x : BitVec 32) : List UInt8 := [UInt8.ofNat (x.toNat % 256), UInt8.ofNat (x.toNat / 256 % 256), UInt8.ofNat (x.toNat / 65536 % 256), UInt8.ofNat (x.toNat / 16777216 % 256)]

/-- The masked sum's bytes. -/
def sum4 (l : List UInt8) : List UInt8 := four (maskW (Crc.update 0#32 l))

theorem sum4_len (l : List UInt8) : (sum4 l).length = 4 := rfl

def head (kind : UInt8) (n : Nat) : List UInt8 := [kind, UInt8.ofNat (n % 256), UInt8.ofNat (n / 256 % 256), UInt8.ofNat (n / 65536 % 256)]

/-- A frame's bytes. -/
def enc (kind : UInt8) (body : List UInt8) : List UInt8 := head kind body.length ++ sum4 (head kind body.length) ++ (body ++ sum4 body)

theorem enc_len (kind : UInt8) (body : List UInt8) : (enc kind body).length = body.length + 12 := by
  simp [enc, head, sum4_len]; omega

/-- A frame as a thing of Lean. -/
structure T where
  kind : UInt8
  body : List UInt8
  deriving DecidableEq

def zero : T := ⟨0, []⟩

def lenOf (b : List UInt8) : Nat := (b.getD 1 0).toNat + 256 * (b.getD 2 0).toNat + 65536 * (b.getD 3 0).toNat

/-- What Read tells: the frame, its length, the error's number. -/
def read (b : List UInt8) : T × Nat × Nat :=
  if b.length < 8 then (zero, 0, 12)
  else if (b.drop 4).take 4 ≠ sum4 (b.take 4) then (zero, 0, 4)
  else if 1048576 < lenOf b then (zero, 0, 3)
  else if b.length < lenOf b + 12 then (zero, 0, 12)
  else if (b.drop (8 + lenOf b)).take 4 ≠ sum4 ((b.drop 8).take (lenOf b)) then (zero, 0, 4)
  else (⟨b.getD 0 0, (b.drop 8).take (lenOf b)⟩, lenOf b + 12, 0)

/-- What Row tells, of what is behind the place at; at most fuel frames. -/
def rowFrom (b : List UInt8) : (fuel : Nat) → (at_ : Nat) → (l : List T) → List T × Nat × Nat
  | 0, at_, l => (l, at_, 0)
  | fuel + 1, at_, l =>
    if at_ < b.length then
      let r := read (b.drop at_)
      if r.2.2 ≠ 0 then (l, at_, r.2.2) else rowFrom b fuel (at_ + r.2.1) (l ++ [r.1])
    else (l, at_, 0)

def row (b : List UInt8) : List T × Nat × Nat := rowFrom b b.length 0 []

theorem read_size (b : List UInt8) (h : (read b).2.2 = 0) : (read b).2.1 = lenOf b + 12 ∧ (read b).2.1 ≤ b.length := by
  unfold read at h ⊢
  split at h
  · simp at h
  · split at h
    · simp at h
    · split at h
      · simp at h
      · split at h
        · simp at h
        · split at h
          · simp at h
          · rename_i h1 h2 h3 h4 h5
            rw [if_neg h1, if_neg h2, if_neg h3, if_neg h4, if_neg h5]
            exact ⟨rfl, by simp only; omega⟩
end Fr
end Go.Proofs.Ytkpbkhbgiijbiaa
