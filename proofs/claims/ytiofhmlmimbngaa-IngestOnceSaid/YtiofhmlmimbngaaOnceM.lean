/- The law IngestOnce: what lies in memory while it runs: the intake, the row of what was taken, the row of what was handed on. -/
import Derived.Test.YtiofhmlmimbngaaOnceP
import Derived.Test.YtiofhmlmimbngaaElsF
import Derived.Test.YtiofhmlmimbngaaIngOpen
namespace Go.Proofs.Ytiofhmlmimbngaa
open Go.RowKit

def ap (vi vo : Value) (k : Nat) : Prop := vi.ownBlock = some k ∨ vo.ownBlock = some k
def fo (lo b rb hb : Nat) (vi : Value) (k : Nat) : Prop := lo ≤ k ∧ k ≠ b ∧ k ≠ rb ∧ k ≠ hb ∧ vi.ownBlock ≠ some k

structure Onc (B lo b rb hb : Nat) (W w : World) (q : Iq) (vi vo : Value) (i o : List Sp.T) : Prop where
  I : Intk (ap vi vo) lo w.heap.size w b rb hb q
  vin : ROwnF spanK (· < B) lo 35 w vi i
  vout : ROwnF spanK (fo lo b rb hb vi) lo 35 w vo o
  d : ∀ k, vi.ownBlock = some k → vo.ownBlock ≠ some k
  ni : ∀ k, ap vi vo k → k ≠ b ∧ k ≠ rb ∧ k ≠ hb
  l1 : B ≤ lo
  W : Below B W w

theorem Grew.wrote {w w' : World} {v v' : Value} (h : Grew w w' v v') : Wrote (fun k => v.ownBlock = some k) w w' :=
  ⟨h.grown.os, h.grown.tape, h.grown.output, h.grown.size, fun k hk hn => h.grown.block k hk fun e => hn e.symm⟩

section
variable {B lo b rb hb : Nat} {W w w' : World} {q q2 : Iq} {vi vo vi' vo' : Value} {i o i' o' : List Sp.T}

theorem Onc.base (h : Onc B lo b rb hb W w q vi vo i o) : B ≤ w.heap.size ∧ lo ≤ w.heap.size := by
  have := h.l1
  have := h.I.l1
  have := h.I.u1
  omega

theorem Onc.below (h : Onc B lo b rb hb W w q vi vo i o) (k : Below w.heap.size w w') : Onc B lo b rb hb W w' q vi vo i o :=
  ⟨(h.I.next_ k).up k.size (Nat.le_refl _), h.vin.below k, h.vout.below k, h.d, h.ni, h.l1, h.W.trans (k.mono h.base.1)⟩
theorem Onc.dn (h : Onc B lo b rb hb W w q vi vo i o) (n : Nat) : Onc B lo b rb hb W (w.drewN n) q vi vo i o := h.below (below_dn (Below.refl _ _) n)

/-- The intake was called. -/
theorem Onc.impl {S : Nat → Prop} (h : Onc B lo b rb hb W w q vi vo i o) (hw : Wrote S w w') (hS : ∀ k, S k → k = b ∨ k = rb ∨ k = hb) (hI : Intk (ap vi vo) lo w'.heap.size w' b rb hb q2) : Onc B lo b rb hb W w' q2 vi vo i o := by
  have hB : ∀ k, S k → B ≤ k ∧ lo ≤ k := fun k hk => by
    have := h.l1
    rcases hS k hk with rfl | rfl | rfl
    · have := h.I.l1; omega
    · have := h.I.l2; omega
    · have := h.I.l3; omega
  have hn : ∀ k, ap vi vo k → ¬ S k := fun k hk hs => by
    have := h.ni k hk
    rcases hS k hs with e | e | e
    · exact this.1 e
    · exact this.2.1 e
    · exact this.2.2 e
  refine ⟨hI, h.vin.keep fun k hk hF => hw.block k hk ?_, h.vout.keep fun k hk hF => hw.block k hk ?_, h.d, h.ni, h.l1, h.W.trans (hw.below h.base.1 fun k hk => (hB k hk).1)⟩
  · rcases hF with e | e
    · exact hn k (.inl e)
    · intro hs
      have := (hB k hs).1
      have := e.1
      omega
  · rcases hF with e | e
    · exact hn k (.inr e)
    · intro hs
      obtain ⟨_, e1, e2, e3, _⟩ := e.1
      rcases hS k hs with e | e | e
      · exact e1 e
      · exact e2 e
      · exact e3 e

/-- More was taken. -/
theorem Onc.addIn (h : Onc B lo b rb hb W w q vi vo i o) (ho : ROwnF spanK (· < B) lo 35 w' vi' i') (hg : Grew w w' vi vi') : Onc B lo b rb hb W w' q vi' vo i' o := by
  have hn := fun k (e : vi.ownBlock = some k) => h.ni k (.inl e)
  have hu := h.I.u1
  have hu2 := h.I.u2
  have hu3 := h.I.u3
  have hlt := h.vin.lt
  have hlo := h.vout.lt
  refine ⟨((h.I.wrote hg.wrote (fun k e => .inl e) (fun e => (hn b e).1 rfl) (fun e => (hn rb e).2.1 rfl) (fun e => (hn hb e).2.2 rfl)).xmono (X' := ap vi' vo) fun k hk e => ?_).up hg.grown.size (Nat.le_refl _), ho, ?_, ?_, ?_, h.l1, ?_⟩
  · rcases e with e | e
    · rcases hg.own k e with e | e
      · exact .inl e
      · omega
    · exact .inr e
  · have h1 : ROwnF spanK (fun k => fo lo b rb hb vi k ∧ vi'.ownBlock ≠ some k) lo 35 w vo o := h.vout.mono fun k hk hF _ => ⟨hF, fun e => by
      rcases hg.own k e with e | e
      · exact hF.2.2.2.2 e
      · omega⟩
    refine (h1.keep fun k hk hF => hg.grown.block k hk ?_).mono fun k _ hF _ => ⟨hF.1.1, hF.1.2.1, hF.1.2.2.1, hF.1.2.2.2.1, hF.2⟩
    intro e
    rcases hF with e2 | e2
    · exact h.d k e.symm e2
    · exact e2.1.1.2.2.2.2 e.symm
  · intro k e e2
    rcases hg.own k e with e | e
    · exact h.d k e e2
    · have := (hlo k e2).2; omega
  · intro k e
    rcases e with e | e
    · rcases hg.own k e with e | e
      · exact h.ni k (.inl e)
      · omega
    · exact h.ni k (.inr e)
  · exact h.W.trans (hg.below h.base.1 fun k e => by have := (hlt k e).1; have := h.l1; omega)

/-- More was handed on. -/
theorem Onc.addOut (h : Onc B lo b rb hb W w q vi vo i o) (ho : ROwnF spanK (fo lo b rb hb vi) lo 35 w' vo' o') (hg : Grew w w' vo vo') : Onc B lo b rb hb W w' q vi vo' i o' := by
  have hn := fun k (e : vo.ownBlock = some k) => h.ni k (.inr e)
  have hu := h.I.u1
  have hu2 := h.I.u2
  have hu3 := h.I.u3
  have hlt := h.vin.lt
  have hlo := h.vout.lt
  refine ⟨((h.I.wrote hg.wrote (fun k e => .inr e) (fun e => (hn b e).1 rfl) (fun e => (hn rb e).2.1 rfl) (fun e => (hn hb e).2.2 rfl)).xmono (X' := ap vi vo') fun k hk e => ?_).up hg.grown.size (Nat.le_refl _), ?_, ho, ?_, ?_, h.l1, ?_⟩
  · rcases e with e | e
    · exact .inl e
    · rcases hg.own k e with e | e
      · exact .inr e
      · omega
  · refine h.vin.keep fun k hk hF => hg.grown.block k hk ?_
    intro e
    rcases hF with e2 | e2
    · exact h.d k e2 e.symm
    · have := (hlo k e.symm).1
      have := h.l1
      have := e2.1
      omega
  · intro k e e2
    rcases hg.own k e2 with e3 | e3
    · exact h.d k e e3
    · have := (hlt k e).2; omega
  · intro k e
    rcases e with e | e
    · exact h.ni k (.inl e)
    · rcases hg.own k e with e | e
      · exact h.ni k (.inr e)
      · omega
  · exact h.W.trans (hg.below h.base.1 fun k e => by have := (hlo k e).1; have := h.l1; omega)

theorem Onc.apLt (h : Onc B lo b rb hb W w q vi vo i o) : ∀ k, ap vi vo k → k < w.heap.size := fun k hk => by
  rcases hk with e | e
  · exact (h.vin.lt k e).2
  · exact (h.vout.lt k e).2

theorem onc_new (n m : Nat) (hI : Intk NoX lo w.heap.size w b rb hb ⟨n, m, 0, 0, [], List.replicate m []⟩) (hl : B ≤ lo) (hW : Below B W w) :
    Onc B lo b rb hb W w ⟨n, m, 0, 0, [], List.replicate m []⟩ (.slice none 0 0) (.slice none 0 0) [] [] := by
  refine ⟨hI.xmono fun k _ e => ?_, ROwnF.nil _ _ _ _ _, ROwnF.nil _ _ _ _ _, fun k e => (by cases e), fun k e => ?_, hl, hW⟩
  · rcases e with e | e <;> cases e
  · rcases e with e | e <;> cases e

/-- A batch as the source of an append to what was taken. -/
theorem Onc.src (h : Onc B lo b rb hb W w q vi vo i o) {v : Value} {l : List Sp.T} (hl : Rw spanK (· < B) w v l) : ∃ cs, Sl (· < B) w spanK.sz v l.length cs ∧ Els spanK (fun k => k < B ∧ vi.ownBlock ≠ some k) w cs l := by
  obtain ⟨cs, h1, h2⟩ := hl
  refine ⟨cs, h1, h2.mono fun k _ hk => ⟨hk, fun e => ?_⟩⟩
  have := (h.vin.lt k e).1
  have := h.l1
  omega

/-- A span that was handed on, as the source of an append. -/
theorem Onc.el (h : Onc B lo b rb hb W w q vi vo i o) {v : Value} {ts : List Sp.Tag} {hi : Nat} (hl : Rw tagK (ft (ap vi vo) lo hi b rb hb) w v ts) : Rw tagK (fun k => fo lo b rb hb vi k ∧ vo.ownBlock ≠ some k) w v ts :=
  hl.mono fun k _ hk => ⟨⟨hk.1, hk.2.2.1, hk.2.2.2.1, hk.2.2.2.2.1, fun e => hk.2.2.2.2.2 (.inl e)⟩, fun e => hk.2.2.2.2.2 (.inr e)⟩
end

/-- Whole numbers of any size that an int may have. -/
def izK : Kind Int where
  sz := 1
  R _ _ cs n := cs = [.int .i64 n] ∧ (-9223372036854775808 ≤ n ∧ n ≤ 9223372036854775807)
  pos := by decide
  len := by rintro F w cs x ⟨rfl, _⟩; rfl
  keep := by rintro F w w' cs x h _; exact h
  mono := by rintro F F' w cs x h _; exact h
  one := by
    rintro F w cs x ⟨rfl, _⟩ u hu
    simp only [List.mem_cons, List.not_mem_nil, or_false] at hu
    subst hu; rfl

theorem izs_at {F : Nat → Prop} {w : World} {v : Value} {ns : List Int} (h : Rw izK F w v ns) (hne : 0 < ns.length) :
    ∃ b off cap, v = .slice (some ⟨b, off, none⟩) ns.length cap ∧ b < w.heap.size ∧ ∀ i (hi : i < ns.length), w.cell? ⟨b, off + i, none⟩ = some (.int .i64 ns[i]) ∧ (-9223372036854775808 ≤ ns[i] ∧ ns[i] ≤ 9223372036854775807) := by
  obtain ⟨b, off, cap, e, _, hb, _, _, hc⟩ := h.place hne
  refine ⟨b, off, cap, e, hb, fun i hi => ?_⟩
  obtain ⟨es, ⟨rfl, hr⟩, hes⟩ := hc i hi
  have := hes 0 _ rfl
  exact ⟨by rwa [show izK.sz = 1 from rfl, Nat.mul_one, Nat.add_zero] at this, hr⟩

section
open Go.ChangeShapes Go.WideShapes Go.ChangeAt
variable {H : Type} {enc : TypeId × Value → H} {W : World} {base : Nat} {sp : Nat → Bool} {hd : Bool}
theorem opens_iz : Opens enc W base sp hd izK 3 := by
  intro fuel cs x hf
  obtain ⟨n, e, _, wf⟩ := DataW.trod_int Try.underlying3 hf
  exact ⟨n, e, bounds_i64 wf⟩
theorem open_ints {r : Reach} {b0 : Nat} {v : Value} {d : DataW H} {ps : List MemPlace} (hv : Value.okWide Try.prog W r b0 38 v) (h : DataW.Trod enc Try.prog W base sp hd 38 v d ps) :
    ∃ ns, Rw izK (· < W.heap.size) W v ns := by
  obtain ⟨a0, len, cap, rfl⟩ := okWide_slice Try.underlying38 hv
  obtain ⟨fuel, hf⟩ := h
  obtain ⟨xs, v', e, hr⟩ := opens_rows (K := izK) Try.underlying38 (by kernel_rfl) opens_iz _ _ _ hf
  simp [Value.cells] at e
  subst e
  exact ⟨xs, hr⟩
end
end Go.Proofs.Ytiofhmlmimbngaa
