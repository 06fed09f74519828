/- Chapter 12: rows of files of one's own, made and read. -/
import Derived.Test.YtkcohhldmhdcfaaVeK
import Derived.Deep.AppendSrc
namespace Go.Proofs.Ytkcohhldmhdcfaa
open Go.RowKit

/-- append of one thing, that lies in a block of its own, at a step of a region that draws its order. -/
theorem step_append_elF {α : Type} {K : Kind α} {P : Program} {ops : Array Oper} {w : World} {o : Oper} {a : Act} {C : Act → World → Prop} {Q : Exit → Act → World → Prop} {E : Prop} (t e : TypeId) (z : Value) (bytes : Nat) (ht : P.underlying t = some (.slice e))
    (hinfo : (P.info? e).map (fun i => (i.zero, i.size, i.bytes)) = some (some z, K.sz, bytes)) (hzs : z.cells.size = K.sz)
    (F : Nat → Prop) (base : Nat) (v : Value) (xs : List α) (b : Nat) (T : TypeId) (c : Array Value) (y : α) (hgd : o.guard = none) (s x : Operand)
    (ho : o.op = .call { callee := .builtin .append, args := #[s, x], argTypes := #[t, t] })
    (hs : a.eval s = v) (hx : a.eval x = .slice (some ⟨b, 0, none⟩) 1 1) (hown : ROwnF K F base e w v xs) (hsrc : Blk w b c T)
    (hel : K.R (fun k => F k ∧ v.ownBlock ≠ some k) w c.toList y) (hm : xs.length < 1000000) (hby : bytes ≤ 100000) (hbase : base ≤ w.heap.size)
    (h : ∀ v' w', ROwnF K F base e w' v' (xs ++ [y]) → Grew w w' v v' → C (a.put o.dst v') w') : if Region.wanted o (yielded ops a.tmps) = true then Oper.wp P o a w C Q else E :=
  step_of_wp hgd (wp_append_elF t e z bytes ht hinfo hzs F base v xs b T c y s x ho hs hx hown hsrc hel hm hby hbase h)

theorem below_al {w W : World} (h : Below w.heap.size w W) (o : Obj) : Below w.heap.size w (W.alloc o) := h.alloc h.size o
theorem Blk.drewP {w : World} {b : Nat} {c : Array Value} {T : TypeId} (h : Blk w b c T) : Blk w.drew b c T := h
theorem info_filO : (Try.prog.info? 42).map (fun i => (i.zero, i.size, i.bytes)) = some (some (.agg #[.int .u64 0, .int .i64 0, .slice none 0 0, .slice none 0 0, .int .i64 0, .int .u64 0]), filK.sz, 80) := by kernel_rfl
theorem make_rows5 (w : World) : (Instr.makeSlice 22 (.int .i64 5) (.int .i64 5)).run Try.prog w = .ok (.slice (some ⟨w.heap.size, 0, none⟩) 5 5) (w.alloc (.cells #[.slice none 0 0, .slice none 0 0, .slice none 0 0, .slice none 0 0, .slice none 0 0] 33)) := by kernel_rfl
def nil5 : List Value := [.slice none 0 0, .slice none 0 0, .slice none 0 0, .slice none 0 0, .slice none 0 0]
theorem uq_nil5 (i : Nat) : uq nil5 i = .slice none 0 0 := by
  match i with
  | 0 | 1 | 2 | 3 | 4 => rfl
  | i + 5 => rfl
theorem Fl.made {D : Nat → Prop} {A b : Nat} {w : World} (hb : Blk w b #[.slice none 0 0, .slice none 0 0, .slice none 0 0, .slice none 0 0, .slice none 0 0] 33) (hA : A ≤ b) (hD : D b) : Fl D A w (.slice (some ⟨b, 0, none⟩) 5 5) nil5 [[], [], [], [], []] := by
  refine ⟨⟨nil5, ⟨rfl, .inr ⟨b, 5, _, rfl, hA, hb, Nat.le_refl _, by simp [maxLen], rfl, rfl⟩⟩, vals_els fun u hu => ?_⟩, rfl, fun i hi => ?_, fun i j k _ _ _ e => ?_, fun i k _ e => ?_, fun k e => ?_, fun i k _ e => ?_⟩
  · simp only [nil5, List.mem_cons, List.not_mem_nil, or_false, or_self] at hu
    subst hu
    rfl
  · rw [uq_nil5]
    have hi : i < 5 := hi
    rw [show ([[], [], [], [], []] : List (List Fil)).getD i [] = [] by match i, hi with | 0, _ | 1, _ | 2, _ | 3, _ | 4, _ => rfl]
    exact ROwnF.nil _ _ _ _ _
  · rw [uq_nil5] at e; cases e
  · rw [uq_nil5] at e; cases e
  · injection e with e; rw [← e]; exact hD
  · rw [uq_nil5] at e; cases e

theorem els_rows {F : Nat → Prop} {w : World} : ∀ (rs : List (List Fil)) (cs : List Value), cs.length = rs.length → (∀ k (hk : k < rs.length), ∃ u, cs[k]? = some u ∧ Rw filK F w u rs[k]) → Els (rowK filK) F w cs rs
  | [], cs, h, _ => List.eq_nil_of_length_eq_zero h
  | r :: rs, [], h, _ => by cases h
  | r :: rs, c :: cs, h, hk => by
    refine ⟨?_, ?_⟩
    · obtain ⟨u, e, hu⟩ := hk 0 (by simp)
      simp at e
      subst e
      exact ⟨c, rfl, hu⟩
    · refine els_rows rs cs (by simpa using h) fun k hk' => ?_
      obtain ⟨u, e, hu⟩ := hk (k + 1) (by simpa using hk')
      exact ⟨u, by simpa using e, by simpa using hu⟩
theorem Fl.rows {D : Nat → Prop} {A : Nat} {w : World} {v : Value} {us : List Value} {files : List (List Fil)} (h : Fl D A w v us files) : Rw (rowK filK) (fun k => A ≤ k) w v files := by
  obtain ⟨cs, h1, h2⟩ := h.arr
  obtain ⟨rfl, _⟩ := els_vals h2
  have hs := (Sl.of_owns h1).mono (F' := fun k => A ≤ k) fun k _ hk => (World.ownsRow.lt h1 k hk).1
  refine ⟨cs, by rw [← h.len]; exact hs, els_rows files cs h.len fun i hi => ?_⟩
  have hi' : i < cs.length := by rw [h.len]; exact hi
  refine ⟨uq cs i, by simp [uq, hi'], ?_⟩
  have h3 := h.row i hi'
  rw [lat_eq hi]
  exact h3.rows.mono fun k _ hk => hk.elim (fun e => (h3.lt k e).1) fun hk => hk.1.1
theorem vals_at {A : Nat} {w : World} {v : Value} {us : List Value} (h : ROwnF valK (fun _ => False) A 33 w v us) (hn : 0 < us.length) :
    ∃ g cap, v = .slice (some ⟨g, 0, none⟩) us.length cap ∧ A ≤ g ∧ g < w.heap.size ∧ (∀ i, i < us.length → w.cell? ⟨g, i, none⟩ = some (uq us i)) ∧ ∀ i, w.frozen? ⟨g, i, none⟩ = false := by
  obtain ⟨cs, h1, h2⟩ := h
  obtain ⟨rfl, _⟩ := els_vals h2
  obtain ⟨h0, ⟨rfl, hz⟩ | ⟨g, cap, cur, rfl, hb, hg, hnc, hcm, hs, htk⟩⟩ := id h1
  · omega
  · refine ⟨g, cap, rfl, hb, (World.ownsRow.lt h1 g rfl).2, fun i hi => ?_, fun i => World.ownsRow.frozenAt h1 i⟩
    rw [World.ownsRow.cellAt h1 i (by show i < _ * 1; omega)]
    simp [uq, hi]
end Go.Proofs.Ytkcohhldmhdcfaa
