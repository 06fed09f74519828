/- Entries: what they are, how they lie in memory; their order, as a plain function. -/
import Derived.Test.YtkcohhldmhdcfaaVzBytes
import Derived.Test.YtkcohhldmhdcfaaVzElsF
namespace Go.Proofs.Ytkcohhldmhdcfaa
open Go.RowKit

structure Ent where
  key : List UInt8
  seq : Int
  kind : Int
  value : List UInt8

namespace Ent
def lex (x y : Int) : Int := if x ≠ 0 then x else y
def sgn (a b : Int) : Int := if a < b then -1 else if b < a then 1 else 0
def bcmp (a b : List UInt8) : Int := if Op.bytesLess a b = true then -1 else if Op.bytesLess b a = true then 1 else 0
def cmp (a b : Ent) : Int := lex (bcmp a.key b.key) (sgn b.seq a.seq)
end Ent

theorem Bytes.oneCell {F : Nat → Prop} {w : World} {v : Value} {bs : List UInt8} (h : Bytes F w v bs) : v.oneCell' = true := by
  obtain ⟨a, c, rfl⟩ := h.isSlice; rfl

def u64K : Kind Int := plainK 1 (by decide) (fun n => [.int .u64 n]) (fun _ => rfl) (fun n u hu => by simp at hu; rw [hu]; rfl)
theorem u64s_at {F : Nat → Prop} {w : World} {v : Value} {ns : List Int} (h : Rw u64K F w v ns) (hne : 0 < ns.length) :
    ∃ b off cap, v = .slice (some ⟨b, off, none⟩) ns.length cap ∧ b < w.heap.size ∧ ∀ i (hi : i < ns.length), w.cell? ⟨b, off + i, none⟩ = some (.int .u64 ns[i]) := by
  obtain ⟨b, off, cap, e, _, hb, _, _, hc⟩ := h.place hne
  refine ⟨b, off, cap, e, hb, fun i hi => ?_⟩
  obtain ⟨es, he, hes⟩ := hc i hi
  have he' : es = [.int .u64 ns[i]] := he
  subst he'
  have := hes 0 _ rfl
  rwa [show u64K.sz = 1 from rfl, Nat.mul_one, Nat.add_zero] at this
end Go.Proofs.Ytkcohhldmhdcfaa
