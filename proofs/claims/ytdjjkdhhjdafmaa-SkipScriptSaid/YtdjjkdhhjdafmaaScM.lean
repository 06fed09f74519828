/- The law SkipScript: what its loop holds in memory. -/
import Derived.Test.YtdjjkdhhjdafmaaHeM
import Derived.Test.YtdjjkdhhjdafmaaRfLaw2
import Derived.Test.YtdjjkdhhjdafmaaKitOwn
namespace Go.Proofs.Ytdjjkdhhjdafmaa
open Go.RowKit

theorem Owned.place {base : Nat} {w : World} {v : Value} {bs : List UInt8} (h : Owned base w v bs) (hne : 0 < bs.length) :
    ∃ g cap, v = .slice (some ⟨g, 0, none⟩) bs.length cap ∧ base ≤ g ∧ g < w.heap.size ∧ bs.length ≤ cap := by
  have h' := h
  rcases h.2 with ⟨_, e⟩ | ⟨g, c, _, e, _, _, h4, _⟩
  · omega
  · subst e
    have := World.ownsRow.lt h' g rfl
    exact ⟨g, c, rfl, this.1, this.2, h4⟩
theorem Owned.cell {base : Nat} {w : World} {g n cap : Nat} {bs : List UInt8} (h : Owned base w (.slice (some ⟨g, 0, none⟩) n cap) bs) (i : Nat) (hi : i < bs.length) :
    w.cell? ⟨g, i, none⟩ = some (.int .u8 ((bs.getD i 0).toNat : Int)) := by
  obtain ⟨_, _, e⟩ := h.bytes.isSlice
  injection e with _ e _
  subst e
  rw [World.ownsRow.cellAt h i (by omega), u8s_get _ _ hi]
theorem Owned.free {base : Nat} {w : World} {g n cap : Nat} {bs : List UInt8} (h : Owned base w (.slice (some ⟨g, 0, none⟩) n cap) bs) (i : Nat) : w.frozen? ⟨g, i, none⟩ = false := by
  obtain ⟨_, _, e⟩ := h.bytes.isSlice
  injection e with _ e _
  subst e
  exact World.ownsRow.frozenAt h _
theorem u8s_set' (ys : List UInt8) (i : Nat) (b : UInt8) : (u8s ys).set i (.int .u8 (b.toNat : Int)) = u8s (ys.set i b) := by
  simp [u8s, List.map_set]
theorem Owned.set {base : Nat} {w : World} {g n cap : Nat} {bs : List UInt8} (h : Owned base w (.slice (some ⟨g, 0, none⟩) n cap) bs) (i : Nat) (x : UInt8) :
    Owned base (w.setCell ⟨g, i, none⟩ (.int .u8 (x.toNat : Int))) (.slice (some ⟨g, 0, none⟩) n cap) (bs.set i x) := by
  obtain ⟨_, _, e⟩ := h.bytes.isSlice
  injection e with _ e _
  subst e
  have hst := World.ownsRow.stored h i (.int .u8 (x.toNat : Int))
  unfold Owned
  rw [u8s_set'] at hst
  rw [List.length_set]
  exact hst.1

/-- Both tables: the code's and the document's. -/
structure Du (B : Nat) (p q : Nat → Prop) (b rb : Nat) (hd : Tw) (ts : List Tw) (es : List Ent) (hs : List Nat) (w : World) : Prop where
  s : Skp ⟨B, p⟩ w b hd ts
  r : RfT q w rb es hs
  n1 : ¬ p rb
  n2 : rb ≠ b
  n3 : ∀ t ∈ hd :: ts, t.b ≠ rb
  n4 : ∀ k, q k → k < w.heap.size ∧ k ≠ b ∧ ∀ t ∈ hd :: ts, t.b ≠ k
  lb : B ≤ rb

section
variable {B b rb : Nat} {p q : Nat → Prop} {hd : Tw} {ts ts' : List Tw} {es es' : List Ent} {hs hs' : List Nat} {w w' : World}
theorem Du.below (h : Du B p q b rb hd ts es hs w) (hb : Below w.heap.size w w') : Du B p q b rb hd ts es hs w' :=
  { h with s := h.s.below hb, r := h.r.below hb, n4 := fun k hk => ⟨Nat.lt_of_lt_of_le (h.n4 k hk).1 hb.size, (h.n4 k hk).2⟩ }

theorem Du.start {w2 w3 w4 : World} (hs : ∀ p : Nat → Prop, (∀ k, w3.heap.size ≤ k → p k) → Skp ⟨w2.heap.size, p⟩ w3 b hd []) (he : hd.e = noEnt) (h2 : Below w2.heap.size w2 w3)
    (hr : RfT (fun _ => False) w4 w3.heap.size [] []) (hb : Below w3.heap.size w3 w4) : Du w2.heap.size (fun k => w4.heap.size ≤ k) (fun _ => False) b w3.heap.size hd [] [] [] w4 where
  s := ((hs (fun k => w3.heap.size ≤ k) fun _ h => h).below hb).empty he fun _ h => h
  r := hr
  n1 := Nat.not_le_of_lt hr.lt
  n2 := fun e => by
    have := (hs (fun k => w3.heap.size ≤ k) fun _ h => h).blk.lt
    omega
  n3 := fun t ht e => by
    have := (hs (fun k => w3.heap.size ≤ k) fun _ h => h).ch.lt t ht
    omega
  n4 := fun _ h => h.elim
  lb := h2.size

/-- What the code's table may use, when blocks from w.heap.size to z came between. -/
def fresh (p : Nat → Prop) (n z : Nat) (k : Nat) : Prop := (p k ∧ k < n) ∨ z ≤ k
theorem Du.pre (h : Du B p q b rb hd ts es hs w) (hb : Below w.heap.size w w') : Du B (fresh p w.heap.size w'.heap.size) q b rb hd ts es hs w' :=
  { h.below hb with
    s := h.s.move (fun k hk _ => hb.block k hk) (fun k hk hp => .inl ⟨hp, hk⟩) fun k hk => .inr hk
    n1 := fun e => by
      rcases e with e | e
      · exact h.n1 e.1
      · have := h.r.lt
        have := hb.size
        omega }
theorem Du.put (h : Du B p q b rb hd ts es hs w) (hs' : Skp ⟨B, p⟩ w' b hd ts') (hw : Wrote (fun k => k = b ∨ ∃ t ∈ hd :: ts, t.b = k) w w') (hn : ∀ t ∈ ts', t ∈ ts ∨ w.heap.size ≤ t.b) : Du B p q b rb hd ts' es hs w' where
  s := hs'
  r := h.r.keep fun k hk hk' => hw.block k hk fun e => by
    rcases hk' with rfl | hk'
    · rcases e with e | ⟨t, ht, e⟩
      · exact h.n2 e
      · exact h.n3 t ht e
    · rcases e with e | ⟨t, ht, e⟩
      · exact (h.n4 k hk'.1).2.1 e
      · exact (h.n4 k hk'.1).2.2 t ht e
  n1 := h.n1
  n2 := h.n2
  n3 := fun t ht => by
    rcases List.mem_cons.1 ht with rfl | ht
    · exact h.n3 _ (List.mem_cons_self ..)
    · rcases hn t ht with ht | ht
      · exact h.n3 t (List.mem_cons_of_mem _ ht)
      · have := h.r.lt
        omega
  n4 := fun k hk => by
    obtain ⟨h1, h2, h3⟩ := h.n4 k hk
    refine ⟨Nat.lt_of_lt_of_le h1 hw.size, h2, fun t ht => ?_⟩
    rcases List.mem_cons.1 ht with rfl | ht
    · exact h3 _ (List.mem_cons_self ..)
    · rcases hn t ht with ht | ht
      · exact h3 t (List.mem_cons_of_mem _ ht)
      · omega
  lb := h.lb
theorem Du.rput (h : Du B p q b rb hd ts es hs w) (hr : RfT (fun k => q k ∨ w.heap.size ≤ k) w' rb es' hs') (hw : Wrote (fun k => k = rb) w w') : Du B p (fun k => (q k ∨ w.heap.size ≤ k) ∧ k < w'.heap.size) b rb hd ts es' hs' w' where
  s := h.s.keep hw.size fun k hk hk' => hw.block k hk fun e => by
    subst e
    rcases hk' with e | ⟨t, ht, e⟩ | e
    · exact h.n2 e
    · exact h.n3 t ht e
    · exact h.n1 e
  r := hr.mono fun k hk hp => ⟨hp, hk⟩
  n1 := h.n1
  n2 := h.n2
  n3 := h.n3
  n4 := fun k hk => by
    refine ⟨hk.2, ?_⟩
    rcases hk.1 with hk | hk
    · exact (h.n4 k hk).2
    · refine ⟨fun e => ?_, fun t ht e => ?_⟩
      · have := h.s.blk.lt
        omega
      · have := h.s.ch.lt t ht
        omega
  lb := h.lb
/-- Blocks that are in no table. -/
def Du.Out (p q : Nat → Prop) (b rb : Nat) (hd : Tw) (ts : List Tw) (k : Nat) : Prop := ¬ p k ∧ ¬ q k ∧ k ≠ b ∧ k ≠ rb ∧ ∀ t ∈ hd :: ts, t.b ≠ k
theorem Du.wipe {S : Nat → Prop} (h : Du B p q b rb hd ts es hs w) (ho' : ∀ g, S g → Du.Out p q b rb hd ts g) (hw : Wrote S w w') : Du B p q b rb hd ts es hs w' where
  s := h.s.keep hw.size fun k hk hk' => hw.block k hk fun e => by
    have ho := ho' k e
    rcases hk' with e | ⟨t, ht, e⟩ | e
    · exact ho.2.2.1 e
    · exact ho.2.2.2.2 t ht e
    · exact ho.1 e
  r := h.r.keep fun k hk hk' => hw.block k hk fun e => by
    have ho := ho' k e
    rcases hk' with e | e
    · exact ho.2.2.2.1 e
    · exact ho.2.1 e.1
  n1 := h.n1
  n2 := h.n2
  n3 := h.n3
  n4 := fun k hk => ⟨Nat.lt_of_lt_of_le (h.n4 k hk).1 hw.size, (h.n4 k hk).2⟩
  lb := h.lb
/-- The blocks that came between stay in no table. -/
theorem Du.out {p0 q0 : Nat → Prop} {n z g : Nat} (h : Du B p0 q0 b rb hd ts es hs w) (hn : n = w.heap.size) (h1 : n ≤ g) (h2 : g < z) (hz : z ≤ w'.heap.size) {m : Nat} (hts : ∀ t ∈ ts', t ∈ ts ∨ z ≤ t.b) :
    Du.Out (fresh p0 n z) (fun k => (q0 k ∨ w'.heap.size ≤ k) ∧ k < m) b rb hd ts' g := by
  subst hn
  refine ⟨fun e => ?_, fun e => ?_, fun e => ?_, fun e => ?_, fun t ht e => ?_⟩
  · rcases e with e | e
    · omega
    · omega
  · rcases e.1 with e | e
    · have := (h.n4 g e).1
      omega
    · omega
  · have := h.s.blk.lt
    omega
  · have := h.r.lt
    omega
  · rcases List.mem_cons.1 ht with rfl | ht
    · have := h.s.ch.lt _ (List.mem_cons_self ..)
      omega
    · rcases hts t ht with ht | ht
      · have := h.s.ch.lt t (List.mem_cons_of_mem _ ht)
        omega
      · omega
/-- What is written for the code's table lies from B on. -/
theorem Du.low {n₀ : Nat} {w0 : World} (h : Du B p q b rb hd ts es hs w) (hw : Wrote (fun k => k = b ∨ ∃ t ∈ hd :: ts, t.b = k) w w') (hb : Below n₀ w0 w) (hB : n₀ ≤ B) : Below n₀ w0 w' :=
  hb.trans (hw.below (Nat.le_trans hB h.s.lo_le) fun k hk => by
    rcases hk with rfl | ⟨t, ht, rfl⟩
    · exact Nat.le_trans hB h.s.l1
    · exact Nat.le_trans hB (h.s.l2 t ht))
theorem Du.rlow {n₀ : Nat} {w0 : World} (h : Du B p q b rb hd ts es hs w) (hw : Wrote (fun k => k = rb) w w') (hb : Below n₀ w0 w) (hB : n₀ ≤ B) : Below n₀ w0 w' :=
  hb.trans (hw.below (Nat.le_trans hB h.s.lo_le) fun k hk => by subst hk; exact Nat.le_trans hB h.lb)
/-- Blocks that came between are not written. -/
theorem Du.same {n g : Nat} (h : Du B p q b rb hd ts es hs w) (hw : Wrote (fun k => k = b ∨ ∃ t ∈ hd :: ts, t.b = k) w w') (hn : b < n ∧ (∀ t ∈ hd :: ts, t.b < n)) (h1 : n ≤ g) (h2 : g < w.heap.size) : w'.heap[g]? = w.heap[g]? :=
  hw.block g h2 fun e => by
    rcases e with rfl | ⟨t, ht, rfl⟩
    · omega
    · have := hn.2 t ht
      omega
end

/-- One thing in a block of its own is a row. -/
theorem rw_one {α : Type} {K : Kind α} {F : Nat → Prop} {w : World} {b : Nat} {c : Array Value} {T : TypeId} {y : α} (h : Blk w b c T) (hy : K.R F w c.toList y) (hF : F b) : Rw K F w (.slice (some ⟨b, 0, none⟩) 1 1) [y] := by
  have hcl := K.len hy
  refine ⟨c.toList, ⟨_, _, rfl, Nat.le_refl _, by simp [maxLen], by simp, by rw [hcl]; simp, fun j u hj => ⟨_, rfl, hF, ?_⟩⟩, Els.single hy⟩
  rw [add_plain']
  exact h.cell (by simpa using hj)

theorem own_one {F : Nat → Prop} {w : World} {v : Value} {e : Ent} (h : Rw ownK F w v [e]) :
    ∃ b off cap vk vv, v = .slice (some ⟨b, off, none⟩) 1 cap ∧ F b ∧ b < w.heap.size ∧ (∃ base, Owned base w vk e.key ∧ ∀ k, vk.ownBlock = some k → F k) ∧ Bytes F w vv e.value ∧
      w.cell? ⟨b, off, none⟩ = some vk ∧ w.cell? ⟨b, off + 1, none⟩ = some (.int .u64 e.seq) ∧ w.cell? ⟨b, off + 2, none⟩ = some (.int .i64 e.kind) ∧ w.cell? ⟨b, off + 3, none⟩ = some vv := by
  obtain ⟨b, off, cap, e1, hF, hb, _, _, hc⟩ := h.place (by simp)
  obtain ⟨cs, ⟨vk, vv, rfl, h1, h2⟩, hes⟩ := hc 0 (by simp)
  refine ⟨b, off, cap, vk, vv, e1, hF, hb, h1, h2, ?_, ?_, ?_, ?_⟩
  · simpa using hes 0 _ rfl
  · simpa using hes 1 _ rfl
  · simpa using hes 2 _ rfl
  · simpa using hes 3 _ rfl
end Go.Proofs.Ytdjjkdhhjdafmaa
