/- append onto an empty literal, and onto what comes of it, as one step's law of a region that draws its order. -/
import Derived.Test.YtkcohhldmhdcfaaElsF
import Derived.Test.YtkcohhldmhdcfaaBytes
import Derived.Deep.AppendSrc
namespace Go.Proofs.Ytkcohhldmhdcfaa
open Go.RowKit

section
variable {α : Type} {K : Kind α} {F : Nat → Prop} {w w' : World} {v : Value} {xs : List α} {base e : Nat}

theorem Sl.src {P : Program} {G : Nat → Prop} {sz : Nat} {x : Value} {m : Nat} {news : List Value} {t e' : TypeId} (h : Sl G w sz x m news) (ht : P.underlying t = some (.slice e')) (h1 : ∀ u ∈ news, u.oneCell' = true) : Src P sz t x m news w := by
  obtain ⟨a, cap, rfl, h2, h3, h4, h5, h6⟩ := h.ex
  cases a with
  | some a => exact Src.ofSlice w ht a m cap news h5 (fun j u hj => by obtain ⟨ad, e1, _, e3⟩ := h6 j u hj; injection e1 with e1; subst e1; exact e3) h1
  | none =>
    have hc := h4 rfl
    obtain rfl : m = 0 := by omega
    obtain rfl : news = [] := List.eq_nil_of_length_eq_zero (by omega)
    exact Src.ofNil w ht cap

/-- append onto an empty literal. -/
theorem run_append_new {P : Program} (t ty e : TypeId) (i : TypeInfo) (z : Value) (size bytes : Nat) (ht : P.underlying t = some (.slice e)) (hi : P.info? e = some i) (hz : i.zero = some z)
    (hsize : i.size = size) (hby : i.bytes = bytes) (hzs : z.cells.size = size) (hsz : 0 < size) (k : Nat) (w : World)
    {G : Nat → Prop} (x : Value) (m : Nat) (news : List Value) (hsl : Sl G w size x m news) (h1 : ∀ u ∈ news, u.oneCell' = true) (hbytes : m * bytes ≤ 140737488355328) :
    ∃ v' w', (Builtin.append_ #[t, t] ty #[.slice (some ⟨k, 0, none⟩) 0 0, x]).run P w = .ok v' w' ∧ Below w.heap.size w w' ∧
      ((m = 0 ∧ v' = .slice (some ⟨k, 0, none⟩) 0 0 ∧ w' = w) ∨ (0 < m ∧ w'.ownsRow w.heap.size e size v' m news)) := by
  subst hsize hby
  have hs := hsl.src (P := P) ht h1
  have hml := hsl.le
  have hnl := hs.newsLen
  by_cases hm : m = 0
  · subst hm
    obtain rfl : news = [] := List.eq_nil_of_length_eq_zero (by omega)
    have hr := run_append_room_src (P := P) w t t ty e i ht hi k 0 0 0 x 0 [] hs (Nat.le_refl _) (fun j hj => by cases hj) (fun j hj => by cases hj)
    exact ⟨_, _, hr, Below.refl _ _, .inl ⟨rfl, rfl, rfl⟩⟩
  · have hr := run_append_grow_src (P := P) w t t ty e i z ht hi hz (some ⟨k, 0, none⟩) 0 0 [] (run_firstCells_some w.drew i.size 0 ⟨k, 0, none⟩ 0 0 [] (by simp) (fun j u hj => by simp at hj)) x m news hs (by omega)
      (by simp only [maxLen] at hml; omega) (growslice_fits (by omega) (by simpa using hbytes))
    have hge := grownCap_ge w (0 + m) 0 e
    have hcm := grownCap_le_maxLen w (0 + m) 0 e (by omega)
    refine ⟨_, _, hr, (below_of_drew (Below.refl _ _)).alloc (Nat.le_refl _) _, .inr ⟨by omega, hnl, .inr ⟨w.heap.size, grownCap w (0 + m) 0 e, _, ?_, Nat.le_refl _, heap_alloc_new w.drew _, by omega, hcm, ?_, ?_⟩⟩⟩
    · rw [Nat.zero_add]
    · simp only [Array.size_append, List.size_toArray, List.nil_append, hnl, size_zeroCells, hzs]
      rw [← Nat.add_mul]
      congr 1
      omega
    · simp only [Array.toList_append, List.nil_append]
      rw [List.take_append_of_le_length (by omega), List.take_of_length_le (by omega)]

/-- A row of the call's own; an empty one may be a literal. -/
def RO {α : Type} (K : Kind α) (F : Nat → Prop) (base e : Nat) (w : World) (v : Value) (xs : List α) : Prop := (xs = [] ∧ ∃ k, base ≤ k ∧ v = .slice (some ⟨k, 0, none⟩) 0 0) ∨ ROwnF K F base e w v xs

theorem RO.below (h : RO K F base e w v xs) (hb : Below w.heap.size w w') : RO K F base e w' v xs := h.imp id fun h => h.below hb
theorem RO.rows (h : RO K F base e w v xs) : Rw K (fun k => v.ownBlock = some k ∨ (F k ∧ v.ownBlock ≠ some k)) w v xs := by
  rcases h with ⟨rfl, k, _, rfl⟩ | h
  · exact ⟨[], ⟨_, 0, rfl, Nat.le_refl _, by simp [maxLen], (fun h => by cases h), by simp, fun j u hj => by simp at hj⟩, rfl⟩
  · exact h.rows
theorem RO.isSlice (h : RO K F base e w v xs) : ∃ a c, v = .slice a xs.length c := h.rows.isSlice
theorem RO.base_le (h : RO K F base e w v xs) : ∀ k, v.ownBlock = some k → base ≤ k := by
  rcases h with ⟨_, k, hk, rfl⟩ | h
  · intro j e
    injection e with e
    exact Nat.le_trans hk (Nat.le_of_eq e)
  · exact fun k e => (h.lt k e).1

theorem wp_append_RO {P : Program} {o : Oper} {a : Act} {C : Act → World → Prop} {Q : Exit → Act → World → Prop} (t e : TypeId) (z : Value) (bytes : Nat) (ht : P.underlying t = some (.slice e))
    (hinfo : (P.info? e).map (fun i => (i.zero, i.size, i.bytes)) = some (some z, K.sz, bytes)) (hzs : z.cells.size = K.sz)
    (F : Nat → Prop) (base : Nat) (v : Value) (xs : List α) (v2 : Value) (ys : List α) (s x : Operand)
    (ho : o.op = .call { callee := .builtin .append, args := #[s, x], argTypes := #[t, t] })
    (hs : a.eval s = v) (hx : a.eval x = v2) (hown : RO K F base e w v xs) (cs2 : List Value) (G : Nat → Prop) (hsrc : Sl G w K.sz v2 ys.length cs2)
    (hels : Els K (fun k => F k ∧ v.ownBlock ≠ some k) w cs2 ys) (hFw : ∀ k, F k → k < w.heap.size) (hm : xs.length + ys.length ≤ 1000000) (hby : bytes ≤ 100000) (hbase : base ≤ w.heap.size)
    (h : ∀ v' w', RO K F base e w' v' (xs ++ ys) → Below base w w' → (∀ k, k < w.heap.size → v.ownBlock ≠ some k → w'.heap[k]? = w.heap[k]?) → C (a.put o.dst v') w') : o.wp P a w C Q := by
  rcases hown with ⟨rfl, k, hk, rfl⟩ | hown
  · obtain ⟨i0, hi, hz0, hz1, hz2⟩ := info_parts hinfo
    have hbt : ys.length * bytes ≤ 140737488355328 := by
      simp only [List.length_nil, Nat.zero_add] at hm
      exact Nat.le_trans (Nat.mul_le_mul hm hby) (by decide)
    obtain ⟨v', w', hr, hb, hc⟩ := run_append_new (P := P) t o.type e i0 z K.sz bytes ht hi hz0 hz1 hz2 hzs K.pos k w v2 ys.length cs2 hsrc hels.one hbt
    unfold Oper.wp execOp
    simp only [ho, resolve, invoke, builtin, Sem.run_bind, Sem.run_pure, Result.andThen_ok, List.map_toArray, List.map_cons, List.map_nil, hs, hx, hr]
    refine h v' w' ?_ (hb.mono hbase) (fun j hj _ => hb.block j hj)
    rcases hc with ⟨h0, rfl, rfl⟩ | ⟨h0, how⟩
    · exact .inl ⟨by rw [List.nil_append]; exact List.eq_nil_of_length_eq_zero h0, k, hk, rfl⟩
    · refine .inr ⟨cs2, ?_, ((hels.mono (F' := fun j => F j ∧ j < w.heap.size) (fun j _ hF => ⟨hF.1, hFw j hF.1⟩)).keep (fun j hj _ => hb.block j hj)).mono fun j _ hF => ⟨hF.1, fun e => ?_⟩⟩
      · rw [List.nil_append]
        obtain ⟨g0, g1⟩ := how
        refine ⟨g0, g1.imp id fun ⟨g, cap, cur, r1, r2, r3⟩ => ⟨g, cap, cur, r1, Nat.le_trans hbase r2, r3⟩⟩
      · have := World.ownsRow.lt how j e
        omega
  · exact wp_append_elsF t e z bytes ht hinfo hzs F base v xs v2 ys s x ho hs hx hown cs2 G hsrc hels hm hby hbase fun v' w' hr hg =>
      h v' w' (.inr hr) (hg.below hbase fun k e => (hown.lt k e).1) fun k hk hne => hg.grown.block k hk fun e => hne e.symm

/-- At a step of a region that draws its order. -/
theorem step_append_RO {P : Program} {ops : Array Oper} {o : Oper} {a : Act} {C : Act → World → Prop} {Q : Exit → Act → World → Prop} {E : Prop} (hgd : o.guard = none) (t e : TypeId) (z : Value) (bytes : Nat) (ht : P.underlying t = some (.slice e))
    (hinfo : (P.info? e).map (fun i => (i.zero, i.size, i.bytes)) = some (some z, K.sz, bytes)) (hzs : z.cells.size = K.sz)
    (F : Nat → Prop) (base : Nat) (v : Value) (xs : List α) (v2 : Value) (ys : List α) (s x : Operand)
    (ho : o.op = .call { callee := .builtin .append, args := #[s, x], argTypes := #[t, t] })
    (hs : a.eval s = v) (hx : a.eval x = v2) (hown : RO K F base e w v xs) (cs2 : List Value) (G : Nat → Prop) (hsrc : Sl G w K.sz v2 ys.length cs2)
    (hels : Els K (fun k => F k ∧ v.ownBlock ≠ some k) w cs2 ys) (hFw : ∀ k, F k → k < w.heap.size) (hm : xs.length + ys.length ≤ 1000000) (hby : bytes ≤ 100000) (hbase : base ≤ w.heap.size)
    (h : ∀ v' w', RO K F base e w' v' (xs ++ ys) → Below base w w' → (∀ k, k < w.heap.size → v.ownBlock ≠ some k → w'.heap[k]? = w.heap[k]?) → C (a.put o.dst v') w') :
    if Region.wanted o (yielded ops a.tmps) = true then Oper.wp P o a w C Q else E := by
  have hw : Region.wanted o (yielded ops a.tmps) = true := by simp [Region.wanted, hgd]
  rw [if_pos hw]
  exact wp_append_RO t e z bytes ht hinfo hzs F base v xs v2 ys s x ho hs hx hown cs2 G hsrc hels hFw hm hby hbase h

/-- append of bytes onto an empty literal, at a step of a region that draws its order. -/
theorem step_append_new {ops : Array Oper} {o : Oper} {a : Act} {C : Act → World → Prop} {Q : Exit → Act → World → Prop} {E : Prop} (hgd : o.guard = none) (k : Nat) (G : Nat → Prop) (x' : Value) (bs : List UInt8) (s x : Operand)
    (ho : o.op = .call { callee := .builtin .append, args := #[s, x], argTypes := #[34, 34] })
    (hs : a.eval s = .slice (some ⟨k, 0, none⟩) 0 0) (hx : a.eval x = x') (hsrc : Bytes G w x' bs) (hl : bs.length ≤ 140737488355328)
    (h : ∀ v' w', Bytes (fun j => w.heap.size ≤ j) w' v' bs → Below w.heap.size w w' → C (a.put o.dst v') w') :
    if Region.wanted o (yielded ops a.tmps) = true then Oper.wp Try.prog o a w C Q else E := by
  have hw : Region.wanted o (yielded ops a.tmps) = true := by simp [Region.wanted, hgd]
  rw [if_pos hw]
  obtain ⟨i0, hi, hz0, hz1, hz2⟩ := info_parts info_u8
  obtain ⟨v', w', hr, hb, hc⟩ := run_append_new (P := Try.prog) 34 o.type 5 i0 (.int .u8 0) 1 1 Try.underlying34 hi hz0 hz1 hz2 rfl (by decide) k w x' bs.length (u8s bs) hsrc (u8s_one bs) (by omega)
  unfold Oper.wp execOp
  simp only [ho, resolve, invoke, builtin, Sem.run_bind, Sem.run_pure, Result.andThen_ok, List.map_toArray, List.map_cons, List.map_nil, hs, hx, hr]
  refine h v' w' ?_ hb
  rcases hc with ⟨h0, rfl, rfl⟩ | ⟨h0, how⟩
  · obtain rfl : bs = [] := List.eq_nil_of_length_eq_zero h0
    exact ⟨_, 0, rfl, Nat.le_refl _, by simp [maxLen], (fun h => by cases h), by simp [u8s], fun j u hj => by simp [u8s] at hj⟩
  · exact (Sl.of_owns how).mono fun j _ e => (World.ownsRow.lt how j e).1
end
end Go.Proofs.Ytkcohhldmhdcfaa
