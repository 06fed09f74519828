/- Merge: heads in memory; a merger. -/
import Derived.Test.YtmpapipobjoboaaMgP
import Derived.Test.YtmpapipobjoboaaMgA
namespace Go.Proofs.Ytmpapipobjoboaa
open Go.RowKit

def headK : Kind Hd where
  sz := 2
  R F w cs x := ∃ v, cs = [v, .int .i64 x.no] ∧ Rw entK F w v x.l
  pos := by decide
  len := by rintro _ _ _ _ ⟨v, rfl, _⟩; rfl
  keep := by rintro _ _ _ _ _ ⟨v, rfl, h⟩ hk; exact ⟨v, rfl, h.keep hk⟩
  mono := by rintro _ _ _ _ _ ⟨v, rfl, h⟩ hk; exact ⟨v, rfl, h.mono hk⟩
  one := by
    rintro _ _ _ _ ⟨v, rfl, h⟩ u hu
    simp only [List.mem_cons, List.not_mem_nil, or_false] at hu
    rcases hu with rfl | rfl
    · exact h.oneCell
    · rfl

section
variable {F : Nat → Prop} {w w' : World} {v : Value} {l : List Hd} {B e : Nat}
/-- Where heads lie. -/
theorem hds_at (h : ROwnF headK F B e w v l) (hne : 0 < l.length) :
    ∃ g cap, v = .slice (some ⟨g, 0, none⟩) l.length cap ∧ B ≤ g ∧ g < w.heap.size ∧ (∀ j, w.frozen? ⟨g, j, none⟩ = false) ∧
      ∀ i, i < l.length → ∃ u, Rw entK (fun k => F k ∧ k ≠ g) w u (hat l i).l ∧ w.cell? ⟨g, i * 2, none⟩ = some u ∧ w.cell? ⟨g, i * 2 + 1, none⟩ = some (.int .i64 (hat l i).no) := by
  have hlt := h.lt
  obtain ⟨cs, h1, h2⟩ := h
  have hcl := h2.len
  obtain ⟨_, g, cap, cur, e1, hb, hg, hn, hc, hs, htk⟩ : cs.length = l.length * headK.sz ∧ ∃ g cap cur, v = .slice (some ⟨g, 0, none⟩) l.length cap ∧ B ≤ g ∧ w.heap[g]? = some (.cells cur e (0, 0)) ∧ l.length ≤ cap ∧ cap ≤ maxLen ∧ cur.size = cap * headK.sz ∧ cur.toList.take (l.length * headK.sz) = cs := by
    rcases h1 with ⟨hl, ⟨_, h0⟩ | h3⟩
    · omega
    · exact ⟨hl, h3⟩
  subst e1
  refine ⟨g, cap, rfl, hb, (hlt g rfl).2, fun j => World.ownsRow.frozenAt h1 j, fun i hi => ?_⟩
  obtain ⟨u, hu, hr⟩ := h2.get i hi
  have hsz : headK.sz = 2 := rfl
  rw [hsz] at hcl hu
  have c0 : (cs.drop (i * 2))[0]? = some u := by
    have := congrArg (fun z => z[0]?) hu
    simpa [List.getElem?_take] using this
  have c1 : (cs.drop (i * 2))[1]? = some (.int .i64 l[i].no) := by
    have := congrArg (fun z => z[1]?) hu
    simpa [List.getElem?_take] using this
  rw [List.getElem?_drop] at c0 c1
  rw [hat_eq hi]
  refine ⟨u, hr.mono fun k _ hk => ⟨hk.1, fun e => hk.2 (by rw [e]; rfl)⟩, ?_, ?_⟩
  · rw [World.ownsRow.cellAt h1 (i * 2) (by rw [hsz]; omega)]; simpa using c0
  · rw [World.ownsRow.cellAt h1 (i * 2 + 1) (by rw [hsz]; omega)]; exact c1

/-- A head is written. -/
theorem hds_set {g cap : Nat} {u : Value} {x : Hd} (h : ROwnF headK F B e w (.slice (some ⟨g, 0, none⟩) l.length cap) l) {i : Nat} (hi : i < l.length) (hu : Rw entK (fun k => F k ∧ k ≠ g) w u x.l) :
    ROwnF headK F B e ((w.setCell ⟨g, i * 2, none⟩ u).setCell ⟨g, i * 2 + 1, none⟩ (.int .i64 x.no)) (.slice (some ⟨g, 0, none⟩) l.length cap) (l.set i x) := by
  obtain ⟨cs, h1, h2⟩ := h
  have hcl := h2.len
  have hsz : headK.sz = 2 := rfl
  rw [hsz] at hcl
  have hF : ∀ k, (F k ∧ (Value.slice (some ⟨g, 0, none⟩) l.length cap).ownBlock ≠ some k) → k ≠ g := fun k hk e => hk.2 (by rw [e]; rfl)
  have hel := h2.set (x := x) (ecs := [u, .int .i64 x.no]) ⟨u, rfl, hu.mono fun k _ hk => ⟨hk.1, fun e => by injection e with e; exact hk.2 e.symm⟩⟩ i hi
  rw [hsz] at hel
  have hcs : (cs.set (i * 2) u).set (i * 2 + 1) (.int .i64 x.no) = cs.take (i * 2) ++ ([u, .int .i64 x.no] ++ cs.drop (i * 2 + 2)) := by
    apply List.ext_getElem?
    intro k
    simp only [List.getElem?_set, List.length_set, List.getElem?_append, List.length_take, List.getElem?_take, List.length_cons, List.length_nil, List.getElem?_drop]
    rcases Nat.lt_trichotomy k (i * 2) with hk | hk | hk
    · rw [if_neg (by omega), if_neg (by omega), if_pos (by omega), if_pos (by omega)]
    · subst hk; rw [if_neg (by omega), if_pos rfl, if_pos (by omega), if_neg (by omega), if_pos (by omega)]; simp [Nat.min_eq_left (show i * 2 ≤ cs.length by omega)]
    · by_cases hk2 : k = i * 2 + 1
      · subst hk2; rw [if_pos rfl, if_pos (by omega), if_neg (by omega), if_pos (by omega)]; simp [Nat.min_eq_left (show i * 2 ≤ cs.length by omega)]
      · rw [if_neg (by omega), if_neg (by omega), if_neg (by omega), if_neg (by omega)]
        congr 1
        omega
  refine ⟨(cs.set (i * 2) u).set (i * 2 + 1) (.int .i64 x.no), ?_, ?_⟩
  · rw [List.length_set]
    exact (World.ownsRow.stored (World.ownsRow.stored h1 (i * 2) u).1 (i * 2 + 1) _).1
  · rw [hcs]
    exact hel.keep fun k _ hk => (heap_setCell_other _ _ _ _ (hF k hk)).trans (heap_setCell_other _ _ _ _ (hF k hk))
end

theorem Wrote.mono {S S' : Nat → Prop} {w w' : World} (h : Wrote S w w') (hS : ∀ k, S k → S' k) : Wrote S' w w' := ⟨h.os, h.tape, h.output, h.size, fun k hk hn => h.block k hk fun e => hn (hS k e)⟩
theorem Wrote.drew {S : Nat → Prop} {w w' : World} (h : Wrote S w w') : Wrote S w w'.drew := ⟨h.os, h.tape, h.output, h.size, h.block⟩

/-- A merger in block m: its heads l lie in a row of its own, from block B on; their entries in blocks of F. -/
structure Hp (B : Nat) (F : Nat → Prop) (w : World) (m : Nat) (l : List Hd) : Prop where
  ex : ∃ v, Blk w m #[v, .bool true] 53 ∧ ROwnF headK F B 80 w v l ∧ v.ownBlock ≠ some m
  lo : B ≤ m
  nm : ¬ F m
theorem Hp.below {B : Nat} {F : Nat → Prop} {w w' : World} {m : Nat} {l : List Hd} (h : Hp B F w m l) (hb : Below w.heap.size w w') : Hp B F w' m l := by
  obtain ⟨⟨v, h1, h2, h3⟩, h4, h5⟩ := h
  exact ⟨⟨v, h1.below hb h1.lt, h2.below hb, h3⟩, h4, h5⟩
end Go.Proofs.Ytmpapipobjoboaa
