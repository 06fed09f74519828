/- Rows of one's own whose things point into blocks of any kind told; a row cut short; append as one operation's law. -/
import Derived.Test.YtkcohhldmhdcfaaVzEls
import Derived.Lib.SlBytesConst
import Derived.Lib.SliceRun
namespace Go.Proofs.Ytkcohhldmhdcfaa
open Go.RowKit

/-- v is a row of the call's own (from block base on) that reads as xs; what its things point to lies in blocks of F, not in the row. -/
def ROwnF {α : Type} (K : Kind α) (F : Nat → Prop) (base e : Nat) (w : World) (v : Value) (xs : List α) : Prop := ∃ cs, w.ownsRow base e K.sz v xs.length cs ∧ Els K (fun k => F k ∧ v.ownBlock ≠ some k) w cs xs

section
variable {α : Type} {K : Kind α} {F F' : Nat → Prop} {w w' : World} {v : Value} {xs : List α} {base e : Nat}
theorem ROwnF.nil (K : Kind α) (F : Nat → Prop) (base e : Nat) (w : World) : ROwnF K F base e w (.slice none 0 0) [] := ⟨[], World.ownsRow_nil _ _ _ _, rfl⟩
theorem ROwnF.lt (h : ROwnF K F base e w v xs) : ∀ k, v.ownBlock = some k → base ≤ k ∧ k < w.heap.size := by
  obtain ⟨cs, h1, _⟩ := h
  exact World.ownsRow.lt h1
theorem ROwnF.keep (h : ROwnF K F base e w v xs) (hk : ∀ k, k < w.heap.size → (v.ownBlock = some k ∨ (F k ∧ v.ownBlock ≠ some k)) → w'.heap[k]? = w.heap[k]?) : ROwnF K F base e w' v xs := by
  obtain ⟨cs, h1, h2⟩ := h
  exact ⟨cs, ownsRow_same h1 fun k hk' e => hk k hk' (.inl e), h2.keep fun k hk' hF => hk k hk' (.inr hF)⟩
theorem ROwnF.below (h : ROwnF K F base e w v xs) (hb : Below w.heap.size w w') : ROwnF K F base e w' v xs := h.keep fun k hk _ => hb.block k hk
theorem ROwnF.mono (h : ROwnF K F base e w v xs) (hF : ∀ k, k < w.heap.size → F k → v.ownBlock ≠ some k → F' k) : ROwnF K F' base e w v xs := by
  obtain ⟨cs, h1, h2⟩ := h
  exact ⟨cs, h1, h2.mono fun k hk h => ⟨hF k hk h.1 h.2, h.2⟩⟩
theorem ROwnF.rows (h : ROwnF K F base e w v xs) : Rw K (fun k => v.ownBlock = some k ∨ (F k ∧ v.ownBlock ≠ some k)) w v xs := by
  obtain ⟨cs, h1, h2⟩ := h
  exact ⟨cs, (Sl.of_owns h1).mono (fun k _ hk => .inl hk), h2.mono (fun k _ hk => .inr hk)⟩
theorem ROwnF.isSlice (h : ROwnF K F base e w v xs) : ∃ a c, v = .slice a xs.length c := h.rows.isSlice
/-- What is left of the row from lo on. -/
theorem ROwnF.slice_l {P : Program} {t : TypeId} (ht : P.underlying t = some (.slice (P.elem t))) (hsz : (P.info? (P.elem t)).map (·.size) = some K.sz) (h : ROwnF K F base e w v xs) (lo : Nat) (h1 : lo ≤ xs.length) :
    ∃ a c cs, (∀ w', (Instr.slice t v (some (.int .i64 (lo : Int))) none none).run P w' = .ok (.slice a (xs.drop lo).length c) w') ∧ Sl (fun k => v.ownBlock = some k) w K.sz (.slice a (xs.drop lo).length c) (xs.drop lo).length cs ∧ Els K (fun k => F k ∧ v.ownBlock ≠ some k) w cs (xs.drop lo) := by
  obtain ⟨cs, g0, g2⟩ := h
  obtain ⟨v', hr, hs⟩ := (Sl.of_owns g0).slice_l ht hsz lo h1
  have e : (xs.drop lo).length = xs.length - lo := by simp
  have hl := g2.len
  rw [List.take_of_length_le (by rw [List.length_drop, hl, Nat.sub_mul]; omega), ← e] at hs
  obtain ⟨a, c, ev, _⟩ := hs.ex
  subst ev
  exact ⟨a, c, _, hr, hs, g2.drop lo⟩

/-- append of things, as one operation's law. -/
theorem wp_append_elsF {P : Program} {o : Oper} {a : Act} {C : Act → World → Prop} {Q : Exit → Act → World → Prop} (t e : TypeId) (z : Value) (bytes : Nat) (ht : P.underlying t = some (.slice e))
    (hinfo : (P.info? e).map (fun i => (i.zero, i.size, i.bytes)) = some (some z, K.sz, bytes)) (hzs : z.cells.size = K.sz)
    (F : Nat → Prop) (base : Nat) (v : Value) (xs : List α) (v2 : Value) (ys : List α) (s x : Operand)
    (ho : o.op = .call { callee := .builtin .append, args := #[s, x], argTypes := #[t, t] })
    (hs : a.eval s = v) (hx : a.eval x = v2) (hown : ROwnF K F base e w v xs) (cs2 : List Value) (G : Nat → Prop) (hsrc : Sl G w K.sz v2 ys.length cs2)
    (hels : Els K (fun k => F k ∧ v.ownBlock ≠ some k) w cs2 ys) (hm : xs.length + ys.length ≤ 1000000) (hby : bytes ≤ 100000) (hbase : base ≤ w.heap.size)
    (h : ∀ v' w', ROwnF K F base e w' v' (xs ++ ys) → Grew w w' v v' → C (a.put o.dst v') w') : o.wp P a w C Q := by
  obtain ⟨i0, hi, hz0, hz1, hz2⟩ := info_parts hinfo
  obtain ⟨cs, h1, h2⟩ := hown
  have hbt : (xs.length + ys.length) * bytes ≤ 140737488355328 := Nat.le_trans (Nat.mul_le_mul hm hby) (by decide)
  refine wp_append_grew (F := G) s x t ho base e i0 _ K.sz bytes ht hi hz0 hz1 hz2 hzs K.pos v xs.length cs hs h1 v2 ys.length cs2 hx hsrc hels.one (by simp only [maxLen]; omega) hbt hbase ?_
  intro v' w' g1 g2 _
  refine h v' w' ?_ g2
  have hsame : ∀ k, k < w.heap.size → (F k ∧ v.ownBlock ≠ some k) → w'.heap[k]? = w.heap[k]? := fun k hk hF => g2.grown.block k hk (fun e => hF.2 e.symm)
  have hmono : ∀ k, k < w.heap.size → (F k ∧ v.ownBlock ≠ some k) → (F k ∧ v'.ownBlock ≠ some k) := fun k hk hF => ⟨hF.1, fun e => by
    rcases g2.own k e with e1 | e1
    · exact hF.2 e1
    · omega⟩
  have lift : ∀ {ds : List Value} {zs : List α}, Els K (fun k => F k ∧ v.ownBlock ≠ some k) w ds zs → Els K (fun k => F k ∧ v'.ownBlock ≠ some k) w' ds zs := fun hd =>
    ((hd.mono (F' := fun k => (F k ∧ v.ownBlock ≠ some k) ∧ k < w.heap.size) (fun k hk hF => ⟨hF, hk⟩)).keep (fun k hk hF => hsame k hk hF.1)).mono (fun k _ hF => hmono k hF.2 hF.1)
  refine ⟨cs ++ cs2, ?_, (lift hels).append (lift h2)⟩
  rw [List.length_append]; exact g1

/-- append of one thing, that lies in a block of its own. -/
theorem wp_append_elF {P : Program} {o : Oper} {a : Act} {C : Act → World → Prop} {Q : Exit → Act → World → Prop} (t e : TypeId) (z : Value) (bytes : Nat) (ht : P.underlying t = some (.slice e))
    (hinfo : (P.info? e).map (fun i => (i.zero, i.size, i.bytes)) = some (some z, K.sz, bytes)) (hzs : z.cells.size = K.sz)
    (F : Nat → Prop) (base : Nat) (v : Value) (xs : List α) (b : Nat) (T : TypeId) (c : Array Value) (y : α) (s x : Operand)
    (ho : o.op = .call { callee := .builtin .append, args := #[s, x], argTypes := #[t, t] })
    (hs : a.eval s = v) (hx : a.eval x = .slice (some ⟨b, 0, none⟩) 1 1) (hown : ROwnF K F base e w v xs) (hsrc : Blk w b c T)
    (hel : K.R (fun k => F k ∧ v.ownBlock ≠ some k) w c.toList y) (hm : xs.length < 1000000) (hby : bytes ≤ 100000) (hbase : base ≤ w.heap.size)
    (h : ∀ v' w', ROwnF K F base e w' v' (xs ++ [y]) → Grew w w' v v' → C (a.put o.dst v') w') : o.wp P a w C Q := by
  have hcl := K.len hel
  have hsl : Sl (fun k => k = b) w K.sz (.slice (some ⟨b, 0, none⟩) 1 1) ([y] : List α).length c.toList := by
    refine ⟨_, _, rfl, Nat.le_refl _, by simp [maxLen], by simp, by rw [hcl]; simp, fun j u hj => ⟨_, rfl, rfl, ?_⟩⟩
    rw [add_plain']
    exact hsrc.cell (by simpa using hj)
  exact wp_append_elsF t e z bytes ht hinfo hzs F base v xs _ [y] s x ho hs hx hown _ _ hsl (Els.single hel) (by simp only [List.length_singleton]; omega) hby hbase h
theorem wpList_append_elF {P : Program} {ops : Array Oper} {rest : List Oper} {o : Oper} {a : Act} {Q : Exit → Act → World → Prop} (t e : TypeId) (z : Value) (bytes : Nat) (ht : P.underlying t = some (.slice e))
    (hinfo : (P.info? e).map (fun i => (i.zero, i.size, i.bytes)) = some (some z, K.sz, bytes)) (hzs : z.cells.size = K.sz)
    (F : Nat → Prop) (base : Nat) (v : Value) (xs : List α) (b : Nat) (T : TypeId) (c : Array Value) (y : α) (hgd : o.guard = none) (s x : Operand)
    (ho : o.op = .call { callee := .builtin .append, args := #[s, x], argTypes := #[t, t] })
    (hs : a.eval s = v) (hx : a.eval x = .slice (some ⟨b, 0, none⟩) 1 1) (hown : ROwnF K F base e w v xs) (hsrc : Blk w b c T)
    (hel : K.R (fun k => F k ∧ v.ownBlock ≠ some k) w c.toList y) (hm : xs.length < 1000000) (hby : bytes ≤ 100000) (hbase : base ≤ w.heap.size)
    (h : ∀ v' w', ROwnF K F base e w' v' (xs ++ [y]) → Grew w w' v v' → wpList P ops Q rest (a.put o.dst v') w') : wpList P ops Q (o :: rest) a w :=
  wpList_plain hgd fun _ hK => wp_append_elF t e z bytes ht hinfo hzs F base v xs b T c y s x ho hs hx hown hsrc hel hm hby hbase fun v' w' g1 g2 => hK _ _ (h v' w' g1 g2)
end
end Go.Proofs.Ytkcohhldmhdcfaa
