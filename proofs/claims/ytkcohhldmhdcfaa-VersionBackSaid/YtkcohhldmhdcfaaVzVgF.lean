/- Chapter 12: the whole edit of a version; the document's Whole. -/
import Derived.Test.YtkcohhldmhdcfaaVzVgE
namespace Go.Proofs.Ytkcohhldmhdcfaa
open Go.RowKit

def levAdds (i : Nat) (l : List Fil) : List (Int × Fil) := l.map fun f => ((i : Int), f)
/-- The files of the first levels, as added ones. -/
def wAdds (ls : List (List Fil)) : Nat → List (Int × Fil)
  | 0 => []
  | i + 1 => wAdds ls i ++ levAdds i (lat ls i)
def wholeE (v : Ver) : Edi := ⟨[], wAdds v.levels 5, v.next, v.seq, v.log⟩
def zeroE : Edi := ⟨[], [], 0, 0, 0⟩
/-- What Whole tells. -/
noncomputable def wholeW (v : Ver) : Edi × Int := if chkW v = 0 then (wholeE v, 0) else (zeroE, chkW v)
theorem wholeW_ok {v : Ver} (h : chkW v = 0) : wholeW v = (wholeE v, 0) := if_pos h
theorem wholeW_bad {v : Ver} (h : chkW v ≠ 0) : wholeW v = (zeroE, chkW v) := if_neg h
theorem levAdds_more {i k : Nat} {l : List Fil} (hk : k < l.length) : levAdds i (l.take k) ++ [((i : Int), fat l k)] = levAdds i (l.take (k + 1)) := by
  unfold levAdds
  rw [List.take_succ_eq_append_getElem hk, List.map_append, fat_eq hk]
  rfl
theorem wAdds_len {ls : List (List Fil)} {n : Nat} (h : ∀ i, i < 5 → (lat ls i).length ≤ n) : ∀ i, i ≤ 5 → (wAdds ls i).length ≤ i * n
  | 0, _ => Nat.zero_le _
  | i + 1, hi => by
    have h1 := wAdds_len h i (by omega)
    have h2 := h i (by omega)
    show (wAdds ls i ++ levAdds i (lat ls i)).length ≤ _
    unfold levAdds
    rw [List.length_append, List.length_map, Nat.add_mul]
    omega
def zero5 : Array Value := #[.slice none 0 0, .slice none 0 0, .int .u64 0, .int .u64 0, .int .u64 0]
theorem zero5_cells {w : World} {rb : Nat} {T : TypeId} (h : Blk w rb zero5 T) : w.cell? ⟨rb, 0, none⟩ = some (.slice none 0 0) ∧ w.cell? ⟨rb, 1, none⟩ = some (.slice none 0 0) ∧ w.cell? ⟨rb, 2, none⟩ = some (.int .u64 0) ∧ w.cell? ⟨rb, 3, none⟩ = some (.int .u64 0) ∧ w.cell? ⟨rb, 4, none⟩ = some (.int .u64 0) ∧ w.frozen? ⟨rb, 0, none⟩ = false ∧ w.frozen? ⟨rb, 1, none⟩ = false ∧ w.frozen? ⟨rb, 2, none⟩ = false ∧ w.frozen? ⟨rb, 3, none⟩ = false ∧ w.frozen? ⟨rb, 4, none⟩ = false :=
  ⟨h.cell rfl, h.cell rfl, h.cell rfl, h.cell rfl, h.cell rfl, h.free 0, h.free 1, h.free 2, h.free 3, h.free 4⟩
theorem below_set5 {b0 b : Nat} {w W : World} {x0 x1 x2 x3 x4 : Value} (h : Below b0 w W) (hr : b0 ≤ b) : Below b0 w (((((W.setCell ⟨b, 0, none⟩ x0).setCell ⟨b, 1, none⟩ x1).setCell ⟨b, 2, none⟩ x2).setCell ⟨b, 3, none⟩ x3).setCell ⟨b, 4, none⟩ x4) := ((((h.setCell hr _).setCell hr _).setCell hr _).setCell hr _).setCell hr _
theorem wrote_set5 (b : Nat) (w : World) (x0 x1 x2 x3 x4 : Value) : Wrote (fun k => k = b) w (((((w.setCell ⟨b, 0, none⟩ x0).setCell ⟨b, 1, none⟩ x1).setCell ⟨b, 2, none⟩ x2).setCell ⟨b, 3, none⟩ x3).setCell ⟨b, 4, none⟩ x4) :=
  Wrote.setCell (S := fun k => k = b) (Wrote.setCell (S := fun k => k = b) (Wrote.setCell (S := fun k => k = b) (Wrote.setCell (S := fun k => k = b) (Wrote.setCell (S := fun k => k = b) (Wrote.of_below (Below.refl _ _)) _ _ (.inl rfl)) _ _ (.inl rfl)) _ _ (.inl rfl)) _ _ (.inl rfl)) _ _ (.inl rfl)
theorem blk_set5 {w : World} {rb : Nat} {T : TypeId} {c : Array Value} (h : Blk w rb c T) (hs : c.size = 5) (x0 x1 x2 x3 x4 : Value) : Blk (((((w.setCell ⟨rb, 0, none⟩ x0).setCell ⟨rb, 1, none⟩ x1).setCell ⟨rb, 2, none⟩ x2).setCell ⟨rb, 3, none⟩ x3).setCell ⟨rb, 4, none⟩ x4) rb #[x0, x1, x2, x3, x4] T := by
  have h1 := ((((h.set 0 x0).set 1 x1).set 2 x2).set 3 x3).set 4 x4
  have : ((((c.setIfInBounds 0 x0).setIfInBounds 1 x1).setIfInBounds 2 x2).setIfInBounds 3 x3).setIfInBounds 4 x4 = #[x0, x1, x2, x3, x4] := by
    apply Array.ext_getElem?
    intro i
    simp only [Array.getElem?_setIfInBounds, Array.size_setIfInBounds, hs]
    rcases (show i = 0 ∨ i = 1 ∨ i = 2 ∨ i = 3 ∨ i = 4 ∨ 5 ≤ i by omega) with rfl | rfl | rfl | rfl | rfl | hi
    · simp
    · simp
    · simp
    · simp
    · simp
    · rw [if_neg (by omega), if_neg (by omega), if_neg (by omega), if_neg (by omega), if_neg (by omega), Array.getElem?_eq_none (by omega), Array.getElem?_eq_none (by simp; omega)]
  rw [this] at h1
  exact h1
theorem info_addO : (Try.prog.info? 104).map (fun i => (i.zero, i.size, i.bytes)) = some (some (.agg #[.int .i64 0, .int .u64 0, .int .i64 0, .slice none 0 0, .slice none 0 0, .int .i64 0, .int .u64 0]), addK.sz, 88) := by kernel_rfl
theorem step_append_elG {α : Type} {K : Kind α} {P : Program} {ops : Array Oper} {w : World} {o : Oper} {a : Act} {C : Act → World → Prop} {Q : Exit → Act → World → Prop} {E : Prop} (hgd : o.guard = none) (t e : TypeId) (z : Value) (bytes : Nat) (ht : P.underlying t = some (.slice e))
    (hinfo : (P.info? e).map (fun i => (i.zero, i.size, i.bytes)) = some (some z, K.sz, bytes)) (hzs : z.cells.size = K.sz)
    (F : Nat → Prop) (base : Nat) (v : Value) (xs : List α) (b : Nat) (T : TypeId) (c : Array Value) (y : α) (s x : Operand)
    (ho : o.op = .call { callee := .builtin .append, args := #[s, x], argTypes := #[t, t] })
    (hs : a.eval s = v) (hx : a.eval x = .slice (some ⟨b, 0, none⟩) 1 1) (hown : ROwnF K F base e w v xs) (hsrc : Blk w b c T)
    (hel : K.R (fun k => F k ∧ v.ownBlock ≠ some k) w c.toList y) (hm : xs.length < 1000000) (hby : bytes ≤ 100000) (hbase : base ≤ w.heap.size)
    (h : ∀ v' w', ROwnF K F base e w' v' (xs ++ [y]) → Grew w w' v v' → C (a.put o.dst v') w') :
    if Region.wanted o (yielded ops a.tmps) = true then Oper.wp P o a w C Q else E := by
  have hw : Region.wanted o (yielded ops a.tmps) = true := by simp [Region.wanted, hgd]
  rw [if_pos hw]
  exact wp_append_elF t e z bytes ht hinfo hzs F base v xs b T c y s x ho hs hx hown hsrc hel hm hby hbase h

def WholePost (r : Edi × Int) (w : World) (x : Ending) (w' : World) : Prop :=
  ∃ dv av, x = .returned (.tuple #[.agg (ediCells r.1 dv av).toArray, .int .i64 r.2]) ∧ EdiAt Any w' r.1 dv av ∧ Below w.heap.size w w'
theorem wholePost_bad {r : Edi × Int} {w w' : World} {c : Int} (h : r = (zeroE, c)) (hb : Below w.heap.size w w') : WholePost r w (.returned (.tuple #[.agg zero5, .int .i64 c])) w' := by
  subst h
  exact ⟨.slice none 0 0, .slice none 0 0, rfl, ⟨Rw.nil _ _ _, Rw.nil _ _ _, u64_0, u64_0, u64_0⟩, hb⟩

end Go.Proofs.Ytkcohhldmhdcfaa
