/- A range over a function whose iterator keeps a captured variable of its own in a cell: the law of the loop; no program. -/
import Derived.RangeFuncNested
import Derived.RangeFuncBound
import Derived.RangeFuncCalls
import Derived.RangeFuncLeaves
import Derived.Shelf.Abstract
import Derived.Shelf.RegionOpen
import Derived.WalkKit
import Derived.OwnWalkIn
import Derived.TacticsInMore
import Derived.LoopNIn
import Derived.LoopIn
namespace Go.Proofs.Ytdjjkdhhjdafmaa
open Go.RowKit

/-- All blocks but those of D lie as they lay. -/
structure But (D : Nat → Prop) (w w' : World) : Prop where
  os : w'.os = w.os
  tape : w'.tape = w.tape
  output : w'.output = w.output
  size : w.heap.size ≤ w'.heap.size
  block : ∀ k, k < w.heap.size → ¬ D k → w'.heap[k]? = w.heap[k]?

theorem But.refl (D : Nat → Prop) (w : World) : But D w w := ⟨rfl, rfl, rfl, Nat.le_refl _, fun _ _ _ => rfl⟩
theorem But.mono {D D' : Nat → Prop} {w w' : World} (h : But D w w') (hD : ∀ k, D k → D' k) : But D' w w' := ⟨h.os, h.tape, h.output, h.size, fun k hk hn => h.block k hk fun e => hn (hD k e)⟩
theorem But.trans {D : Nat → Prop} {a b c : World} (h : But D a b) (k : But D b c) : But D a c :=
  ⟨k.os.trans h.os, k.tape.trans h.tape, k.output.trans h.output, Nat.le_trans h.size k.size, fun i hi hn => (k.block i (Nat.lt_of_lt_of_le hi h.size) hn).trans (h.block i hi hn)⟩
theorem But.of_below {D : Nat → Prop} {w w' : World} (h : Below w.heap.size w w') : But D w w' := ⟨h.os, h.tape, h.output, h.size, fun k hk _ => h.block k hk⟩
theorem But.putObj {D : Nat → Prop} (w : World) {k : Nat} (o : Obj) (hk : D k) : But D w (w.putObj k o) :=
  ⟨rfl, rfl, rfl, by simp, fun i _ hn => World.putObj_heap_other fun e => hn (e ▸ hk)⟩
theorem But.setCell {D : Nat → Prop} (w : World) {a : Addr} (v : Value) (hk : D a.block) : But D w (w.setCell a v) :=
  ⟨rfl, rfl, rfl, by simp [World.setCell], fun i _ hn => Below.heap_setCell _ _ _ _ fun e => hn (e ▸ hk)⟩
theorem But.below {D : Nat → Prop} {w w' : World} {B : Nat} (h : But D w w') (hB : ∀ k, D k → B ≤ k) (hs : B ≤ w.heap.size) : Below B w w' :=
  ⟨h.os, h.tape, h.output, h.size, fun k hk => h.block k (Nat.lt_of_lt_of_le hk hs) fun e => by have := hB k e; omega⟩

def Stays {α : Type} (D : Nat → Prop) (J : List α → World → Prop) : Prop := ∀ pre A B, J pre A → But D A B → J pre B

/-- Blocks of D lie as they lay. -/
def Same (D : Nat → Prop) (w w' : World) : Prop := ∀ k, D k → w'.heap[k]? = w.heap[k]?
theorem Same.refl (D : Nat → Prop) (w : World) : Same D w w := fun _ _ => rfl
theorem Same.trans {D : Nat → Prop} {a b c : World} (h : Same D a b) (k : Same D b c) : Same D a c := fun i hi => (k i hi).trans (h i hi)

/-- The iterator's contract: the function gf, that keeps a cell of its own in block X, hands over xs, one by one. -/
def Iter {α : Type} (F : Fence) (n : Nat) (P : Program) (gf : Nat) (lb : Array Value) (X n₀ : Nat) (xs : List α) (enc : World → World → α → Array Value → Prop) (w : World) : Prop :=
  ∀ (l : Nat) (J Jx : List α → World → Prop) (W : World), Below w.heap.size w W → Stays (fun k => k = X) J →
    (∀ pre x rest vs Wp W', xs = pre ++ x :: rest → J pre Wp → Below Wp.heap.size Wp W' → enc Wp W' x vs → YieldAt F (n - 1) P l vs W' fun e W'' =>
      (e = .returned (.bool true) ∧ J (pre ++ [x]) W'' ∧ Below n₀ W' W'' ∧ W''.heap[X]? = W'.heap[X]?) ∨ (e = .returned (.bool false) ∧ Jx (pre ++ [x]) W'')) →
    J [] W → CallsIn F n P gf (#[.func (.yield l) #[] #[]] ++ lb) W fun e W' => (∃ v, e = .returned v) ∧ (J xs W' ∨ ∃ pre, pre <+: xs ∧ Jx pre W')

/-- The blocks of the loop's book-keeping, and the iterator's own. -/
def Kept3 (X B : Nat) (k : Nat) : Prop := k = X ∨ k = B ∨ k = B + 1

def postX {α : Type} (X B n₀ : Nat) (I : List α → World → Prop) (Ix : Code → List α → World → Prop) (pre : List α) (w : World) : Exit → Act → World → Prop
  | .normal, _, w' => Same (Kept3 X B) w w' ∧ Below n₀ w w' ∧ I pre w'
  | .ret, _, w' => Same (Kept3 X B) w w' ∧ Ix .ret pre w'
  | .exit i, _, w' => Same (Kept3 X B) w w' ∧ Ix (.exit i) pre w'
  | .goto i, _, w' => Same (Kept3 X B) w w' ∧ Ix (.goto i) pre w'
  | .panic _, _, _ => False
  | .outgrown, _, _ => False

theorem wpIn_rangeX {F : Fence} {n : Nat} {P : Program} {α : Type} {g : Operand} {ps : Array Tmp} {assign body : Code} {Q : Exit → Act → World → Prop} {a : Act} {w : World}
    (hro : F.round = none) (h1 : 1 ≤ n) {gf : Nat} {lb : Array Value} (hg : a.eval g = .func (.func gf) #[] lb) (hFg : F.fn gf) (eg : ∀ args w, (callFunc gf args).run P w = .ok (.enter gf args) w)
    (X n₀ : Nat) (hX : X < w.heap.size) (hn : n₀ ≤ w.heap.size) (xs : List α) (enc : World → World → α → Array Value → Prop) (hiter : Iter F (n - 1) P gf lb X n₀ xs enc w)
    (hps : ∀ A B x vs, enc A B x vs → vs.size = ps.size) (I : List α → World → Prop) (Ix : Code → List α → World → Prop)
    (hI : Stays (Kept3 X w.heap.size) I) (hIx : ∀ c, Stays (Kept3 X w.heap.size) (Ix c)) (h0 : I [] w)
    (hround : ∀ pre x rest vs Wp W, xs = pre ++ x :: rest → I pre Wp → Below Wp.heap.size Wp W → enc Wp W x vs → w.heap.size + 1 < Wp.heap.size → I pre W →
      assign.wpIn (F.inRound (w.heap.size + 1)) (n - 1 - 1) P (Exit.then (fun a' W1 => Same (Kept3 X w.heap.size) W W1 ∧ Below n₀ W W1 ∧ ∀ W2, But (fun k => k = w.heap.size + 1) W1 W2 →
        body.wpIn (F.inRound (w.heap.size + 1)) (n - 1 - 1) P (postX X w.heap.size n₀ I Ix (pre ++ [x]) W2) a' W2) (fun _ _ _ => False))
        { tmps := (ps.zip vs).foldl (fun t (p, v) => t.setIfInBounds p v) a.tmps, defers := [] } W)
    (hdone : ∀ W : World, I xs W → W.heap[w.heap.size]? = some (.deferred (some [])) → Q .normal { a with defers := { target := .collected w.heap.size, args := #[] } :: a.defers } W)
    (hstop : ∀ (c : Code) (pre : List α) (W : World), pre <+: xs → Ix c pre W → W.heap[w.heap.size]? = some (.deferred (some [])) → c.wpIn F n P Q { a with defers := { target := .collected w.heap.size, args := #[] } :: a.defers } W) :
    (Code.rangeFunc g ps assign body).wpIn F n P Q a w := by
  refine wpIn_rangeFunc ?_
  intro fn hfn
  rw [hro]
  obtain ⟨rec, hrec⟩ : ∃ rec : LoopState → Option Code → Loop, rec = fun st pe => { state := st, pending := pe, fn, tmps := a.tmps, params := ps, assign, body, defers := w.heap.size } := ⟨_, rfl⟩
  obtain ⟨W1, hW1⟩ : ∃ W1, (w.alloc (.deferred (some []))).alloc (.loop (rec .ready none)) = W1 := ⟨_, rfl⟩
  have hL1 : W1.heap[w.heap.size + 1]? = some (.loop (rec .ready none)) := by
    rw [← hW1]; have := World.alloc_heap_new (w.alloc (.deferred (some []))) (.loop (rec .ready none)); rwa [World.size_alloc] at this
  have hK1 : W1.heap[w.heap.size]? = some (.deferred (some [])) := by
    rw [← hW1]; exact (Below.heap_alloc _ _ _ (by simp)).trans (World.alloc_heap_new w _)
  have hb1 : Below w.heap.size w W1 := by
    rw [← hW1]; exact ((Below.refl _ w).alloc (Nat.le_refl _) _).alloc (by simp) _
  have hI1 : I [] W1 := hI _ _ _ h0 (But.of_below hb1)
  refine ⟨w.heap.size + 1, [{ target := .collected w.heap.size, args := #[] }], W1, { target := .fn (.func gf) lb, args := #[.func (.yield (w.heap.size + 1)) #[] #[]] }, W1, gf,
    #[.func (.yield (w.heap.size + 1)) #[] #[]] ++ lb, W1, ?_, ?_, ?_, ?_, fun _ => h1, ?_⟩
  · rw [← hW1, hrec]; exact run_enterLoop_outer _ _ _ _ _
  · simp only [resolve, hg]
    simp [go_sem]
  · intro f' hf'; simp [Target.leads] at hf'; subst hf'; exact hFg
  · simp [invoke, go_sem, eg]
  · have hXne : X ≠ w.heap.size + 1 := by omega
    have hXne' : X ≠ w.heap.size := by omega
    refine (hiter (w.heap.size + 1)
      (fun pre W => I pre W ∧ W.heap[w.heap.size + 1]? = some (.loop (rec .ready none)) ∧ W.heap[w.heap.size]? = some (.deferred (some [])))
      (fun pre W => ∃ c, Ix c pre W ∧ W.heap[w.heap.size + 1]? = some (.loop (rec .done (some c))) ∧ W.heap[w.heap.size]? = some (.deferred (some [])))
      W1 hb1
      (fun s A B hs hg' => ⟨hI s A B hs.1 (hg'.mono fun k e => .inl e), (hg'.block _ (Array.getElem?_eq_some_iff.1 hs.2.1).1 (fun e => hXne e.symm)).trans hs.2.1, (hg'.block _ (Array.getElem?_eq_some_iff.1 hs.2.2).1 (fun e => hXne' e.symm)).trans hs.2.2⟩)
      ?_ ⟨hI1, hL1, hK1⟩).mono ?_
    · -- ONE ROUND
      rintro pre x rest vs Wp W hxs ⟨hip, hlp, hkp⟩ hbp henc
      have hltp : w.heap.size + 1 < Wp.heap.size := (Array.getElem?_eq_some_iff.1 hlp).1
      have hl : W.heap[w.heap.size + 1]? = some (.loop (rec .ready none)) := (hbp.block _ hltp).trans hlp
      have hk : W.heap[w.heap.size]? = some (.deferred (some [])) := (hbp.block _ (by omega)).trans hkp
      have hi : I pre W := hI _ _ _ hip (But.of_below hbp)
      have hy := run_yield (P := P) (args := vs) hl (by rw [hrec]; exact hps _ _ _ _ henc)
      rw [hrec] at hy
      refine ⟨fn, _, assign, body, hy, roundIn_of_wpIn hfn (wpIn_mono (hround pre x rest vs Wp W hxs hip hbp henc hltp hi) ?_)⟩
      clear hy
      intro e a' Wa hq
      cases e with
      | ret => exact hq.elim
      | exit _ => exact hq.elim
      | goto _ => exact hq.elim
      | panic _ => exact hq.elim
      | outgrown => exact hq.elim
      | normal =>
      obtain ⟨hsa, hba, hbody⟩ := hq
      have hla : Wa.heap[w.heap.size + 1]? = some (.loop (rec .ready none)) := (hsa _ (.inr (.inr rfl))).trans hl
      have hka : Wa.heap[w.heap.size]? = some (.deferred (some [])) := (hsa _ (.inr (.inl rfl))).trans hk
      have hlta : w.heap.size + 1 < Wa.heap.size := (Array.getElem?_eq_some_iff.1 hla).1
      refine ⟨_, run_beginRound hla (by rw [hrec]), ?_⟩
      obtain ⟨W2, hW2⟩ : ∃ W2, Wa.putObj (w.heap.size + 1) (.loop { rec .ready none with state := .busy }) = W2 := ⟨_, rfl⟩
      rw [hW2]
      have hl2 : W2.heap[w.heap.size + 1]? = some (.loop { rec .ready none with state := .busy }) := by rw [← hW2]; exact World.putObj_heap_same hlta
      have hk2 : W2.heap[w.heap.size]? = some (.deferred (some [])) := by rw [← hW2]; exact (World.putObj_heap_other (by omega)).trans hka
      have hx2 : W2.heap[X]? = W.heap[X]? := by rw [← hW2]; exact (World.putObj_heap_other hXne).trans (hsa _ (.inl rfl))
      have hbt2 : But (fun k => k = w.heap.size + 1) Wa W2 := by rw [← hW2]; exact But.putObj _ _ rfl
      have hbw2 : Below n₀ W W2 := hba.trans (hbt2.below (fun k e => by omega) (by omega))
      clear hW2
      refine wpIn_mono (hbody W2 hbt2) ?_
      have fin : ∀ (jump : Option Code) (W3 : World), Same (Kept3 X w.heap.size) W2 W3 →
          ∃ W4, (Instr.endRound (w.heap.size + 1) jump).run P W3 = .ok (.bool jump.isNone) W4 ∧ But (Kept3 X w.heap.size) W3 W4 ∧ Below n₀ W3 W4 ∧ W4.heap[X]? = W.heap[X]? ∧
          W4.heap[w.heap.size + 1]? = some (.loop (rec (if jump.isNone then .ready else .done) jump)) ∧ W4.heap[w.heap.size]? = some (.deferred (some [])) := fun jump W3 hk3 => by
        have hl3 := (hk3 _ (.inr (.inr rfl))).trans hl2
        have hlt3 := (Array.getElem?_eq_some_iff.1 hl3).1
        have := run_endRound (P := P) jump hl3
        rw [hrec] at this
        refine ⟨W3.putObj (w.heap.size + 1) (.loop (rec (if jump.isNone then .ready else .done) jump)), by rw [hrec]; exact this, But.putObj _ _ (.inr (.inr rfl)), (But.putObj (D := fun k => k = w.heap.size + 1) _ _ rfl).below (fun k e => by omega) (by omega), ?_, World.putObj_heap_same hlt3, ?_⟩
        · exact (World.putObj_heap_other hXne).trans ((hk3 _ (.inl rfl)).trans hx2)
        · exact (World.putObj_heap_other (by omega)).trans ((hk3 _ (.inr (.inl rfl))).trans hk2)
      rintro e a3 W3 hp
      cases e with
      | normal =>
        obtain ⟨hk3, hb3, hi3⟩ := hp
        obtain ⟨W4, hr, hbt, hb4, hx4, hl4, hk4⟩ := fin none W3 hk3
        exact ⟨_, _, hr, .inl ⟨rfl, ⟨hI _ _ _ hi3 hbt, hl4, hk4⟩, (hbw2.trans hb3).trans hb4, hx4⟩⟩
      | ret =>
        obtain ⟨hk3, hi3⟩ := hp
        obtain ⟨W4, hr, hbt, hb4, hx4, hl4, hk4⟩ := fin (some .ret) W3 hk3
        exact ⟨_, _, hr, .inr ⟨rfl, .ret, hIx _ _ _ _ hi3 hbt, hl4, hk4⟩⟩
      | exit id =>
        obtain ⟨hk3, hi3⟩ := hp
        obtain ⟨W4, hr, hbt, hb4, hx4, hl4, hk4⟩ := fin (some (.exit id)) W3 hk3
        exact ⟨_, _, hr, .inr ⟨rfl, .exit id, hIx _ _ _ _ hi3 hbt, hl4, hk4⟩⟩
      | goto t =>
        obtain ⟨hk3, hi3⟩ := hp
        obtain ⟨W4, hr, hbt, hb4, hx4, hl4, hk4⟩ := fin (some (.goto t)) W3 hk3
        exact ⟨_, _, hr, .inr ⟨rfl, .goto t, hIx _ _ _ _ hi3 hbt, hl4, hk4⟩⟩
      | panic ch => exact hp.elim
      | outgrown => exact hp.elim
    · -- BEHIND THE ITERATOR
      rintro e W2 ⟨⟨v, rfl⟩, (⟨hi, hl, hk⟩ | ⟨pre, hSp, c, hi, hl, hk⟩)⟩
      · exact ⟨none, _, by have := run_endLoop (P := P) hl (by rw [hrec]; simp); rw [hrec] at this; exact this, hdone _ (hI _ _ _ hi (But.putObj _ _ (.inr (.inr rfl)))) ((World.putObj_heap_other (by omega)).trans hk)⟩
      · exact ⟨some c, _, by have := run_endLoop (P := P) hl (by rw [hrec]; simp); rw [hrec] at this; exact this, hstop c pre _ hSp (hIx c _ _ _ hi (But.putObj _ _ (.inr (.inr rfl)))) ((World.putObj_heap_other (by omega)).trans hk)⟩

/-- An operation that defers nothing goes in a round as anywhere. -/
theorem wpIn_of_wp {l n : Nat} {P : Program} {o : Oper} {a : Act} {w : World} {K : Act → World → Prop} {Q : Exit → Act → World → Prop} (hd : ∀ c, o.op ≠ .defer c) (h : o.wp P a w K Q) : o.wpIn (Fence.wide.inRound l) n P a w K Q := by
  refine ⟨fun _ _ => trivial, ?_⟩
  rw [Oper.semAt_plain _ _ _ hd]
  unfold Oper.wp at h
  revert h
  cases hr : (execOp a.eval o).run P w with
  | halt e w' => cases e <;> exact id
  | ok v w' =>
    cases v with
    | value v => exact id
    | skip => exact id
    | defer d => exact id
    | enter f args =>
      intro h
      refine ⟨fun h0 => ?_, CallsIn.inRound l (callsIn_wide.2 h)⟩
      simp [Fence.wide] at h0
    | row r args =>
      intro h
      refine ⟨fun h0 => ?_, fun c cs _ => ?_⟩
      · simp [Fence.wide] at h0
      · obtain ⟨v, w', hR, hs⟩ := h c cs
        exact ⟨v, w', hR, stepsIn_wide.2 hs⟩
    | _ => exact fun h => h.elim
end Go.Proofs.Ytdjjkdhhjdafmaa
