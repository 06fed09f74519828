/- Entries: what they are, how they lie in memory; their order, as a plain function. -/
import Derived.Test.YtkcohhldmhdcfaaBytes
import Derived.Test.YtkcohhldmhdcfaaElsF
namespace Go.Proofs.Ytkcohhldmhdcfaa
open Go.RowKit

structure Ent where
  key : List UInt8
  seq : Int
  kind : Int
  value : List UInt8

namespace Ent
def lex (x y : Int) : Int := if x ≠ 0 then x else y
def sgn (a b : Int) : Int := if a < b then -1 else if b < a then 1 else 0
def bcmp (a b : List UInt8) : Int := if Op.bytesLess a b = true then -1 else if Op.bytesLess b a = true then 1 else 0
def cmp (a b : Ent) : Int := lex (bcmp a.key b.key) (sgn b.seq a.seq)
end Ent

def entCells (e : Ent) (vk vv : Value) : List Value := [vk, .int .u64 e.seq, .int .i64 e.kind, vv]

theorem Bytes.oneCell {F : Nat → Prop} {w : World} {v : Value} {bs : List UInt8} (h : Bytes F w v bs) : v.oneCell' = true := by
  obtain ⟨a, c, rfl⟩ := h.isSlice; rfl

def entK : Kind Ent where
  sz := 4
  R F w cs e := ∃ vk vv, cs = entCells e vk vv ∧ Bytes F w vk e.key ∧ Bytes F w vv e.value
  pos := by decide
  len := by rintro F w cs x ⟨vk, vv, rfl, _⟩; rfl
  keep := by rintro F w w' cs x ⟨vk, vv, rfl, h1, h2⟩ hk; exact ⟨vk, vv, rfl, h1.keep hk, h2.keep hk⟩
  mono := by rintro F F' w cs x ⟨vk, vv, rfl, h1, h2⟩ hk; exact ⟨vk, vv, rfl, h1.mono hk, h2.mono hk⟩
  one := by
    rintro F w cs x ⟨vk, vv, rfl, h1, h2⟩ u hu
    have g1 := h1.oneCell
    have g2 := h2.oneCell
    simp only [entCells, List.mem_cons, List.not_mem_nil, or_false] at hu
    rcases hu with rfl | rfl | rfl | rfl <;> first | rfl | exact g1 | exact g2

theorem ents_at {F : Nat → Prop} {w : World} {v : Value} {es : List Ent} (h : Rw entK F w v es) (hne : 0 < es.length) :
    ∃ b off cap, v = .slice (some ⟨b, off, none⟩) es.length cap ∧ F b ∧ b < w.heap.size ∧ ∀ i (hi : i < es.length), ∃ vk vv, Bytes F w vk es[i].key ∧ Bytes F w vv es[i].value ∧
      w.cell? ⟨b, off + i * 4, none⟩ = some vk ∧ w.cell? ⟨b, off + i * 4 + 1, none⟩ = some (.int .u64 es[i].seq) ∧ w.cell? ⟨b, off + i * 4 + 2, none⟩ = some (.int .i64 es[i].kind) ∧ w.cell? ⟨b, off + i * 4 + 3, none⟩ = some vv := by
  obtain ⟨b, off, cap, e, hF, hb, _, _, hc⟩ := h.place hne
  refine ⟨b, off, cap, e, hF, hb, fun i hi => ?_⟩
  obtain ⟨cs, ⟨vk, vv, rfl, h1, h2⟩, hes⟩ := hc i hi
  exact ⟨vk, vv, h1, h2, hes 0 _ rfl, hes 1 _ rfl, hes 2 _ rfl, hes 3 _ rfl⟩

def u64K : Kind Int := plainK 1 (by decide) (fun n => [.int .u64 n]) (fun _ => rfl) (fun n u hu => by simp at hu; rw [hu]; rfl)
theorem u64s_at {F : Nat → Prop} {w : World} {v : Value} {ns : List Int} (h : Rw u64K F w v ns) (hne : 0 < ns.length) :
    ∃ b off cap, v = .slice (some ⟨b, off, none⟩) ns.length cap ∧ b < w.heap.size ∧ ∀ i (hi : i < ns.length), w.cell? ⟨b, off + i, none⟩ = some (.int .u64 ns[i]) := by
  obtain ⟨b, off, cap, e, _, hb, _, _, hc⟩ := h.place hne
  refine ⟨b, off, cap, e, hb, fun i hi => ?_⟩
  obtain ⟨es, he, hes⟩ := hc i hi
  have he' : es = [.int .u64 ns[i]] := he
  subst he'
  have := hes 0 _ rfl
  rwa [show u64K.sz = 1 from rfl, Nat.mul_one, Nat.add_zero] at this
end Go.Proofs.Ytkcohhldmhdcfaa
