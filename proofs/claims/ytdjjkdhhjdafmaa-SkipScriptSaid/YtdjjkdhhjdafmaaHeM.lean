/- The law SkipHeights: what its loops hold in memory. -/
import Derived.Test.YtdjjkdhhjdafmaaHeP
namespace Go.Proofs.Ytdjjkdhhjdafmaa
open Go.RowKit

theorem Skp.move {a b : Nat} {p q : Nat → Prop} {w w' : World} {hd : Tw} {ts : List Tw} (h : Skp ⟨a, p⟩ w b hd ts)
    (hk : ∀ k, k < w.heap.size → (k = b ∨ (∃ t ∈ hd :: ts, t.b = k) ∨ p k) → w'.heap[k]? = w.heap[k]?) (h1 : ∀ k, k < w.heap.size → p k → q k) (h2 : ∀ k, w'.heap.size ≤ k → q k) : Skp ⟨a, q⟩ w' b hd ts := by
  have e1 : ChainTo (fun k => k < w.heap.size ∧ fk ⟨a, p⟩ b (hd :: ts) k) w (hd :: ts) [] := h.ch.mono fun k hk hF => ⟨hk, hF⟩
  have e2 : ChainTo (fun k => k < w.heap.size ∧ fk ⟨a, p⟩ b (hd :: ts) k) w' (hd :: ts) [] := e1.keep fun k hk' hF => hk k hk' (by
    rcases hF with hF | hF
    · exact .inr (.inl hF)
    · exact .inr (.inr hF.2.1))
  exact { h with blk := h.blk.same (hk b h.blk.lt (.inl rfl)), ch := e2.mono fun k _ hF => ⟨h1 k hF.1 hF.2.1, hF.2.2⟩, pu := h2 }

theorem Bytes.none {F F' : Nat → Prop} {w : World} {v : Value} (h : Bytes F w v []) : Bytes F' w v [] := by
  obtain ⟨a, c, e, h1, h2, h3, h4, _⟩ := h
  exact ⟨a, c, e, h1, h2, h3, h4, fun j u hj => by simp [u8s] at hj⟩

/-- An empty table has nothing elsewhere. -/
theorem Skp.empty {a b : Nat} {p q : Nat → Prop} {w : World} {hd : Tw} (h : Skp ⟨a, p⟩ w b hd []) (he : hd.e = noEnt) (hq : ∀ k, w.heap.size ≤ k → q k) : Skp ⟨a, q⟩ w b hd [] := by
  refine { h with ch := ?_, pu := hq }
  obtain ⟨⟨vk, vv, h1, h2, h3⟩, _⟩ := h.ch
  rw [he] at h2 h3
  refine ⟨⟨vk, vv, h1, ?_, ?_⟩, trivial⟩
  · rw [he]; exact Bytes.none h2
  · rw [he]; exact Bytes.none h3

/-- What the first loop holds: the first table, b, hd, ts; the entries that were taken; all else of w3 lies as it lay. -/
structure L1 (n₀ : Nat) (w3 : World) (a b : Nat) (hd : Tw) (ts : List Tw) (p : Nat → Prop) (vt : Value) (took : List Ent) (wr : World) : Prop where
  o : Wrote (fun k => k = b ∨ k = hd.b ∨ w3.heap.size ≤ k) w3 wr
  s : Skp ⟨a, p⟩ wr b hd ts
  p3 : ∀ k, p k → w3.heap.size ≤ k
  po : ∀ k, k < wr.heap.size → p k → vt.ownBlock ≠ some k
  tw : ∀ x ∈ ts, w3.heap.size ≤ x.b ∧ vt.ownBlock ≠ some x.b
  bl : b < w3.heap.size ∧ hd.b < w3.heap.size ∧ n₀ ≤ b ∧ n₀ ≤ hd.b ∧ n₀ ≤ w3.heap.size
  row : ROwnF entK (· < n₀) w3.heap.size 34 wr vt took

section
variable {n₀ a b : Nat} {w3 wr w' : World} {hd : Tw} {ts ts' : List Tw} {p : Nat → Prop} {vt v' : Value} {took : List Ent}
theorem L1.below (h : L1 n₀ w3 a b hd ts p vt took wr) (hb : Below wr.heap.size wr w') : L1 n₀ w3 a b hd ts p vt took w' :=
  { h with o := h.o.trans (Wrote.of_below hb), s := h.s.below hb, row := h.row.below hb, po := fun k _ hp e => h.po k (h.row.lt k e).2 hp e }
theorem L1.ins (h : L1 n₀ w3 a b hd ts p vt took wr) (hw : Wrote (fun k => k = b ∨ ∃ t ∈ hd :: ts, t.b = k) wr w') (hs : Skp ⟨a, p⟩ w' b hd ts') (hn : ∀ t ∈ ts', t ∈ ts ∨ wr.heap.size ≤ t.b) : L1 n₀ w3 a b hd ts' p vt took w' :=
  { h with
    o := ⟨hw.os.trans h.o.os, hw.tape.trans h.o.tape, hw.output.trans h.o.output, Nat.le_trans h.o.size hw.size, fun k hk hne => by
      refine (hw.block k (Nat.lt_of_lt_of_le hk h.o.size) fun e => hne ?_).trans (h.o.block k hk hne)
      rcases e with e | ⟨t, ht, e⟩
      · exact .inl e
      · rcases List.mem_cons.1 ht with rfl | ht
        · exact .inr (.inl e.symm)
        · exact .inr (.inr (by rw [← e]; exact (h.tw t ht).1))⟩
    s := hs
    po := fun k _ hp e => h.po k (h.row.lt k e).2 hp e
    tw := fun x hx => by
      rcases hn x hx with hx | hx
      · exact h.tw x hx
      · refine ⟨Nat.le_trans h.o.size hx, fun e => ?_⟩
        have := (h.row.lt _ e).2
        omega
    row := h.row.keep fun k hk hF => hw.block k hk fun e => by
      have hbl := h.bl
      rcases hF with hF | hF
      · have h3 := (h.row.lt k hF).1
        rcases e with e | ⟨t, ht, e⟩
        · omega
        · rcases List.mem_cons.1 ht with rfl | ht
          · omega
          · exact (h.tw t ht).2 (by rw [e]; exact hF)
      · have h3 := hF.1
        rcases e with e | ⟨t, ht, e⟩
        · omega
        · rcases List.mem_cons.1 ht with rfl | ht
          · omega
          · have := (h.tw t ht).1; omega }
theorem L1.app {es : List Ent} (h : L1 n₀ w3 a b hd ts p vt took wr) (hr : ROwnF entK (· < n₀) w3.heap.size 34 w' v' es) (hg : Grew wr w' vt v') :
    L1 n₀ w3 a b hd ts (fun k => (p k ∧ k < wr.heap.size) ∨ w'.heap.size ≤ k) v' es w' where
  o := ⟨hg.grown.os.trans h.o.os, hg.grown.tape.trans h.o.tape, hg.grown.output.trans h.o.output, Nat.le_trans h.o.size hg.grown.size, fun k hk hne => (hg.grown.block k (Nat.lt_of_lt_of_le hk h.o.size) (fun e => hne (.inr (.inr (h.row.lt k e.symm).1)))).trans (h.o.block k hk hne)⟩
  s := h.s.move (fun k hk e => hg.grown.block k hk fun e0 => by
    have h3 := (h.row.lt k e0.symm).1
    have hbl := h.bl
    rcases e with e | ⟨t, ht, e⟩ | e
    · omega
    · rcases List.mem_cons.1 ht with rfl | ht
      · omega
      · exact (h.tw t ht).2 (by rw [e]; exact e0.symm)
    · exact h.po k hk e e0.symm) (fun k hk hp => .inl ⟨hp, hk⟩) fun k hk => .inr hk
  p3 := fun k hk => by
    rcases hk with hk | hk
    · exact h.p3 k hk.1
    · exact Nat.le_trans h.o.size (Nat.le_trans hg.grown.size hk)
  po := fun k hk hp e => by
    rcases hp with hp | hp
    · rcases hg.own k e with e1 | e1
      · exact h.po k hp.2 hp.1 e1
      · omega
    · omega
  tw := fun x hx => ⟨(h.tw x hx).1, fun e => by
    rcases hg.own _ e with e1 | e1
    · exact (h.tw x hx).2 e1
    · have := h.s.ch.lt x (List.mem_cons_of_mem _ hx)
      omega⟩
  bl := h.bl
  row := hr
theorem L1.low (h : L1 n₀ w3 a b hd ts p vt took wr) {w : World} (hw : Below n₀ w w3) : Below n₀ w wr := by
  have hbl := h.bl
  exact hw.trans (h.o.below (by omega) fun k hk => by rcases hk with hk | hk | hk <;> omega)
/-- The second table, that is empty yet, lies as it lay. -/
theorem L1.other (h : L1 n₀ w3 a b hd ts p vt took wr) {a' b' : Nat} {hd' : Tw} {q : Nat → Prop} (hs : Skp ⟨a', q⟩ w3 b' hd' []) (he : hd'.e = noEnt) (h1 : b' ≠ b ∧ b' ≠ hd.b ∧ hd'.b ≠ b ∧ hd'.b ≠ hd.b) {q' : Nat → Prop} (hq : ∀ k, wr.heap.size ≤ k → q' k) : Skp ⟨a', q'⟩ wr b' hd' [] := by
  have hb := hs.blk.lt
  have hh := hs.ch.lt hd' (List.mem_cons_self ..)
  have h0 : Skp ⟨a', fun k => w3.heap.size ≤ k⟩ w3 b' hd' [] := hs.empty he fun _ h => h
  have h2 : Skp ⟨a', fun k => w3.heap.size ≤ k⟩ wr b' hd' [] := h0.keep h.o.size fun k hk e => h.o.block k hk fun e0 => by
    rcases e with e | ⟨t, ht, e⟩ | e
    · omega
    · rw [List.mem_singleton.1 ht] at e; omega
    · exact absurd hk (Nat.not_lt.2 e)
  exact h2.empty he hq
end

/-- What the second loop holds: the second table, b', hd', tt; all else of w4 lies as it lay. -/
structure L2 (w4 : World) (a b : Nat) (hd : Tw) (tt : List Tw) (wr : World) : Prop where
  o : Wrote (fun k => k = b ∨ k = hd.b ∨ w4.heap.size ≤ k) w4 wr
  s : Skp ⟨a, fun k => w4.heap.size ≤ k⟩ wr b hd tt
  tw : ∀ x ∈ tt, w4.heap.size ≤ x.b

section
variable {a b : Nat} {w4 wr w' : World} {hd : Tw} {tt tt' : List Tw}
theorem L2.below (h : L2 w4 a b hd tt wr) (hb : Below wr.heap.size wr w') : L2 w4 a b hd tt w' :=
  { h with o := h.o.trans (Wrote.of_below hb), s := h.s.below hb }
theorem L2.ins (h : L2 w4 a b hd tt wr) (hw : Wrote (fun k => k = b ∨ ∃ t ∈ hd :: tt, t.b = k) wr w') (hs : Skp ⟨a, fun k => w4.heap.size ≤ k⟩ w' b hd tt') (hn : ∀ t ∈ tt', t ∈ tt ∨ wr.heap.size ≤ t.b) : L2 w4 a b hd tt' w' where
  o := ⟨hw.os.trans h.o.os, hw.tape.trans h.o.tape, hw.output.trans h.o.output, Nat.le_trans h.o.size hw.size, fun k hk hne => by
    refine (hw.block k (Nat.lt_of_lt_of_le hk h.o.size) fun e => hne ?_).trans (h.o.block k hk hne)
    rcases e with e | ⟨t, ht, e⟩
    · exact .inl e
    · rcases List.mem_cons.1 ht with rfl | ht
      · exact .inr (.inl e.symm)
      · exact .inr (.inr (by rw [← e]; exact h.tw t ht))⟩
  s := hs
  tw := fun x hx => by
    rcases hn x hx with hx | hx
    · exact h.tw x hx
    · exact Nat.le_trans h.o.size hx
theorem L2.low (h : L2 w4 a b hd tt wr) {n₀ : Nat} {w : World} (hw : Below n₀ w w4) (h1 : n₀ ≤ b ∧ n₀ ≤ hd.b ∧ n₀ ≤ w4.heap.size) : Below n₀ w wr :=
  hw.trans (h.o.below h1.2.2 fun k hk => by rcases hk with hk | hk | hk <;> omega)
/-- What lies elsewhere is as it was. -/
theorem L2.rows (h : L2 w4 a b hd tt wr) {n₀ w3 : Nat} {v : Value} {es : List Ent} (hr : ROwnF entK (· < n₀) w3 34 w4 v es) (h1 : b < w3 ∧ hd.b < w3 ∧ n₀ ≤ b ∧ n₀ ≤ hd.b) : ROwnF entK (· < n₀) w3 34 wr v es :=
  hr.keep fun k hk hF => h.o.block k hk fun e => by
    rcases hF with hF | hF
    · have := (hr.lt k hF).1
      omega
    · omega
theorem L2.first (h : L2 w4 a b hd tt wr) {a' b' : Nat} {hd' : Tw} {ts : List Tw} {p : Nat → Prop} {w3 : Nat} (hs : Skp ⟨a', p⟩ w4 b' hd' ts) (hp : ∀ k, p k → w3 ≤ k) (ht : ∀ x ∈ ts, w3 ≤ x.b) (h1 : b < w3 ∧ hd.b < w3) (h2 : b' ≠ b ∧ b' ≠ hd.b ∧ hd'.b ≠ b ∧ hd'.b ≠ hd.b) : Skp ⟨a', p⟩ wr b' hd' ts :=
  hs.keep h.o.size fun k hk e => h.o.block k hk fun e0 => by
    rcases e with e | ⟨t, hx, e⟩ | e
    · omega
    · rcases List.mem_cons.1 hx with rfl | hx
      · omega
      · have := ht t hx; omega
    · have := hp k e; omega
end
end Go.Proofs.Ytdjjkdhhjdafmaa
