/- The law SkipScript: what both tables tell is the same. -/
import Derived.Test.YtdjjkdhhjdafmaaScN
namespace Go.Proofs.Ytdjjkdhhjdafmaa
open Go.RowKit

theorem cell_below {w w' : World} {a : Addr} {v : Value} (h : w.cell? a = some v) (hb : Below w.heap.size w w') : w'.cell? a = some v := by
  have hlt := World.block_lt_of_cell? _ _ h
  rwa [World.cell?_of_block (hb.block _ hlt)]

/-- An entry and a word came back. -/
def Say (X : Ent) (c : Value) (w : World) (x : Ending) (w' : World) : Prop :=
  ∃ a1 a2 n1 n2, x = .returned (.tuple #[.agg (entCells X (.slice a1 X.key.length n1) (.slice a2 X.value.length n2)).toArray, c]) ∧ (∃ F, Bytes F w' (.slice a1 X.key.length n1) X.key) ∧ (∃ F, Bytes F w' (.slice a2 X.value.length n2) X.value) ∧ Below w.heap.size w w'
theorem EntPost.say {w w' : World} {e : Ent} {c : Value} {x : Ending} (h : EntPost w e c x w') : Say e c w x w' := by
  obtain ⟨vk, vv, rfl, h1, h2, h3⟩ := h
  obtain ⟨a1, n1, rfl⟩ := h1.isSlice
  obtain ⟨a2, n2, rfl⟩ := h2.isSlice
  exact ⟨a1, a2, n1, n2, rfl, ⟨_, h1⟩, ⟨_, h2⟩, h3⟩
theorem EntIn.say {p : Nat → Prop} {w w' : World} {e : Ent} {c : Value} {x : Ending} (h : EntIn p w e c x w') : Say e c w x w' := by
  obtain ⟨vk, vv, rfl, h1, h2, h3⟩ := h
  obtain ⟨a1, n1, rfl⟩ := h1.isSlice
  obtain ⟨a2, n2, rfl⟩ := h2.isSlice
  exact ⟨a1, a2, n1, n2, rfl, ⟨_, h1⟩, ⟨_, h2⟩, h3⟩

/-- An entry in a block of its own. -/
def Res (w : World) (n : Nat) (X : Ent) (a1 a2 : Option Addr) (n1 n2 : Nat) : Prop :=
  Blk w n (entCells X (.slice a1 X.key.length n1) (.slice a2 X.value.length n2)).toArray 34 ∧ (∃ F, Bytes F w (.slice a1 X.key.length n1) X.key) ∧ ∃ F, Bytes F w (.slice a2 X.value.length n2) X.value
theorem Res.below {w w' : World} {n : Nat} {X : Ent} {a1 a2 : Option Addr} {n1 n2 : Nat} (h : Res w n X a1 a2 n1 n2) (hb : Below w.heap.size w w') : Res w' n X a1 a2 n1 n2 := by
  obtain ⟨h1, ⟨F, h2⟩, G, h3⟩ := h
  exact ⟨h1.below' hb, ⟨F, h2.below hb⟩, G, h3.below hb⟩
theorem Res.new {w : World} {X : Ent} {a1 a2 : Option Addr} {n1 n2 : Nat} (h1 : ∃ F, Bytes F w (.slice a1 X.key.length n1) X.key) (h2 : ∃ F, Bytes F w (.slice a2 X.value.length n2) X.value) :
    Res (w.alloc (.cells #[.slice a1 X.key.length n1, .int .u64 X.seq, .int .i64 X.kind, .slice a2 X.value.length n2] 34)) w.heap.size X a1 a2 n1 n2 := by
  obtain ⟨F, h2'⟩ := h1
  obtain ⟨G, h3⟩ := h2
  exact ⟨Blk.at_new rfl rfl, ⟨F, h2'.below ((Below.refl _ _).alloc (Nat.le_refl _) _)⟩, G, h3.below ((Below.refl _ _).alloc (Nat.le_refl _) _)⟩
theorem Res.cells {w : World} {n : Nat} {X : Ent} {a1 a2 : Option Addr} {n1 n2 : Nat} (h : Res w n X a1 a2 n1 n2) :
    w.cell? ⟨n, 0, none⟩ = some (.slice a1 X.key.length n1) ∧ w.cell? ⟨n, 1, none⟩ = some (.int .u64 X.seq) ∧ w.cell? ⟨n, 2, none⟩ = some (.int .i64 X.kind) ∧ w.cell? ⟨n, 3, none⟩ = some (.slice a2 X.value.length n2) :=
  ⟨h.1.cell rfl, h.1.cell rfl, h.1.cell rfl, h.1.cell rfl⟩
theorem res_same {w W' : World} {n n' : Nat} {X : Ent} {a1 a2 b1 b2 : Option Addr} {n1 n2 m1 m2 : Nat} (h : Res w n X a1 a2 n1 n2) (h' : Res w n' X b1 b2 m1 m2) (hb : Below w.heap.size w W') :
    Calls Try.prog 18 #[.agg (entCells X (.slice a1 X.key.length n1) (.slice a2 X.value.length n2)).toArray, .agg (entCells X (.slice b1 X.key.length m1) (.slice b2 X.value.length m2)).toArray] W' fun e w' => e = .returned (.bool true) ∧ Below W'.heap.size W' w' := by
  obtain ⟨_, ⟨_, h2⟩, _, h3⟩ := h.below hb
  obtain ⟨_, ⟨_, g2⟩, _, g3⟩ := h'.below hb
  exact kentry_same _ _ _ _ X _ _ _ _ W' h2 h3 g2 g3

section
variable {B b rb : Nat} {P q : Nat → Prop} {hd : Tw} {ts : List Tw} {wx : World}
theorem Du.gets (h : Du B P q b rb hd ts (ents ts) (highs ts) wx) {G : Nat → Prop} {va : Value} {key : List UInt8} (hk : Bytes G wx va key) (at_ : Int) : ∃ (X : Ent) (C : Int),
    (∀ W', Below wx.heap.size wx W' → Calls Try.prog 17 #[.pointer (some ⟨b, 0, none⟩), va, .int .u64 at_] W' (Say X (.int .i64 C) W')) ∧
    (∀ W', Below wx.heap.size wx W' → Calls Try.prog 27 #[.pointer (some ⟨rb, 0, none⟩), va, .int .u64 at_] W' (Say X (.int .i64 C) W')) :=
  ⟨(getOf key at_ ts).getD noEnt, getCode (getOf key at_ ts), fun W' hb => Calls.mono (skGet_any _ b hd ts _ key at_ va W' (h.s.below hb) (hk.below hb)) fun _ _ h => h.say,
    fun W' hb => Calls.mono (rfGet_any _ rb _ _ _ key at_ va W' (h.r.below hb) (hk.below hb)) fun _ _ h => by rw [refGet_eq] at h; exact h.say⟩
theorem Du.seeks (h : Du B P q b rb hd ts (ents ts) (highs ts) wx) {G : Nat → Prop} {va : Value} {key : List UInt8} (hk : Bytes G wx va key) (at_ : Int) : ∃ (X : Ent) (C : Bool),
    (∀ W', Below wx.heap.size wx W' → Calls Try.prog 21 #[.pointer (some ⟨b, 0, none⟩), va, .int .u64 at_] W' (Say X (.bool C) W')) ∧
    (∀ W', Below wx.heap.size wx W' → Calls Try.prog 28 #[.pointer (some ⟨rb, 0, none⟩), va, .int .u64 at_] W' (Say X (.bool C) W')) :=
  ⟨(seekOf key at_ ts).getD noEnt, (seekOf key at_ ts).isSome, fun W' hb => Calls.mono (skSeek_any _ b hd ts _ key at_ va W' (h.s.below hb) (hk.below hb)) fun _ _ h => h.say,
    fun W' hb => Calls.mono (rfSeek_any _ rb _ _ _ key at_ va W' (h.r.below hb) (hk.below hb)) fun _ _ h => by rw [refSeek_eq] at h; exact h.say⟩

/-- A number came back. -/
def SayN (k : Int) (w : World) (x : Ending) (w' : World) : Prop := x = .returned (.int .i64 k) ∧ Below w.heap.size w w'
theorem SayN.says {k : Int} {w w' : World} {x : Ending} (h : SayN k w x w') : x = .returned (.int .i64 k) ∧ Below w.heap.size w w' := h
theorem Du.nums (h : Du B P q b rb hd ts (ents ts) (highs ts) wx) {G : Nat → Prop} {va : Value} {key : List UInt8} (hk : Bytes G wx va key) (at_ : Int) : ∃ (n : Nat) (S H T : Int) (a : Option Addr) (c : Nat),
    wx.cell? ⟨rb, 0, none⟩ = some (.slice a n c) ∧
    (∀ W', Below wx.heap.size wx W' → Calls Try.prog 22 #[.pointer (some ⟨b, 0, none⟩)] W' (SayN n W')) ∧
    (∀ W', Below wx.heap.size wx W' → Calls Try.prog 14 #[.pointer (some ⟨b, 0, none⟩)] W' (SayN S W')) ∧
    (∀ W', Below wx.heap.size wx W' → Calls Try.prog 29 #[.slice a n c] W' (SayN S W')) ∧
    (∀ W', Below wx.heap.size wx W' → Calls Try.prog 30 #[.pointer (some ⟨b, 0, none⟩), va, .int .u64 at_] W' (SayN H W')) ∧
    (∀ W', Below wx.heap.size wx W' → Calls Try.prog 31 #[.pointer (some ⟨rb, 0, none⟩), va, .int .u64 at_] W' (SayN H W')) ∧
    (∀ W', Below wx.heap.size wx W' → Calls Try.prog 19 #[.pointer (some ⟨b, 0, none⟩), va, .int .u64 at_] W' (SayN T W')) ∧
    (∀ W', Below wx.heap.size wx W' → Calls Try.prog 32 #[.pointer (some ⟨rb, 0, none⟩), va, .int .u64 at_] W' (SayN T W')) := by
  obtain ⟨a, c, _, _, hc, _, hr, _⟩ := h.r.cells
  rw [ents_len] at hc hr
  have hsz : ((ents ts).map entSize).sum ≤ 1000000000000 := by
    rw [← sizeOf_ents]
    have h1 := h.s.sm
    have h2 := h.s.few
    omega
  refine ⟨ts.length, sizeOf_ ts, heightOf (plc key at_) ts, stepsOf 12 (ahead (plc key at_) ts), a, c, hc,
    fun W' hb => Calls.mono (skLen_any _ b hd ts W' (h.s.below hb)) ?_, fun W' hb => Calls.mono (skSize_any _ b hd ts W' (h.s.below hb)) ?_, fun W' hb => Calls.mono (rfSize_any _ _ (ents ts) W' (hr.below hb) hsz) ?_,
    fun W' hb => Calls.mono (skHeight_any _ b hd ts _ key at_ va W' (h.s.below hb) (hk.below hb)) ?_, fun W' hb => Calls.mono (rfHeight_any _ rb _ _ (highs_len ts) _ key at_ va W' (h.r.below hb) (hk.below hb)) ?_,
    fun W' hb => Calls.mono (skSteps_any _ b hd ts _ key at_ va W' (h.s.below hb) (hk.below hb)) ?_, fun W' hb => Calls.mono (rfSteps_any _ rb _ _ (highs_len ts) (by rw [ents_len]; exact h.s.few) (fun x hx => ?_) _ key at_ va W' (h.r.below hb) (hk.below hb)) ?_⟩
  · rintro _ w' ⟨rfl, rfl⟩; exact ⟨rfl, Below.refl _ _⟩
  · rintro _ w' ⟨rfl, rfl⟩; exact ⟨rfl, Below.refl _ _⟩
  · rintro _ w' ⟨rfl, hn⟩; exact ⟨by rw [sizeOf_ents], below_drewN hn⟩
  · rintro _ w' h; exact h
  · rintro _ w' h; rw [refHeight_eq] at h; exact h
  · rintro _ w' h; exact h
  · obtain ⟨t, ht, rfl⟩ := List.mem_map.1 hx; exact (h.s.hs t ht).2
  · rintro _ w' h; rw [hsteps_eq] at h; exact h

/-- Entries came back. -/
def SayE (xs : List Ent) (w : World) (x : Ending) (w' : World) : Prop := ∃ a c, x = .returned (.slice a xs.length c) ∧ (∃ F, Rw entK F w' (.slice a xs.length c) xs) ∧ Below w.heap.size w w'
theorem SayE.says {xs : List Ent} {w w' : World} {x : Ending} (h : SayE xs w x w') : ∃ a c, x = .returned (.slice a xs.length c) ∧ (∃ F, Rw entK F w' (.slice a xs.length c) xs) ∧ Below w.heap.size w w' := h
theorem sayE {F : Nat → Prop} {xs : List Ent} {w w' : World} {x : Ending} {v : Value} (h1 : x = .returned v) (h2 : Rw entK F w' v xs) (h3 : Below w.heap.size w w') : SayE xs w x w' := by
  subst h1
  obtain ⟨a, c, rfl⟩ := h2.isSlice
  exact ⟨a, c, rfl, ⟨F, h2⟩, h3⟩
theorem Du.rows (h : Du B P q b rb hd ts (ents ts) (highs ts) wx) (hf : Fine ts) (hfew : ts.length < 1000000) {G : Nat → Prop} {va : Value} {key : List UInt8} (hk : Bytes G wx va key) (n : Int) : ∃ (xs ys : List Ent) (a : Option Addr) (c : Nat),
    (∀ W', Below wx.heap.size wx W' → W'.cell? ⟨rb, 0, none⟩ = some (.slice a ys.length c) ∧ ∃ F, Rw entK F W' (.slice a ys.length c) ys) ∧
    (∀ W', Below wx.heap.size wx W' → Calls Try.prog 33 #[.pointer (some ⟨b, 0, none⟩), va, .int .i64 n] W' (SayE xs W')) ∧
    (∀ W', Below wx.heap.size wx W' → Calls Try.prog 34 #[.pointer (some ⟨rb, 0, none⟩), va, .int .i64 n] W' (SayE xs W')) ∧
    (∀ W', Below wx.heap.size wx W' → Calls Try.prog 12 #[.pointer (some ⟨b, 0, none⟩)] W' (SayE ys W')) := by
  obtain ⟨v, vh, hblk, hr, _⟩ := h.r
  obtain ⟨a, c, rfl⟩ := hr.isSlice
  refine ⟨skFromOf key n ts, ents ts, a, c, fun W' hb => ⟨(hblk.below' hb).cell rfl, _, hr.below hb⟩, fun W' hb => Calls.mono (skFrom_any _ b hd ts _ key n va W' (h.s.below hb) (hk.below hb)) ?_,
    fun W' hb => Calls.mono (rfFrom_any _ rb _ _ (by rw [ents_len]; exact hfew) _ key n va W' (h.r.below hb) (hk.below hb)) ?_, fun W' hb => Calls.mono (skAll_any _ b hd ts W' (h.s.below hb)) ?_⟩
  · rintro _ w' ⟨v, h1, h2, h3⟩; exact sayE h1 h2 h3
  · rintro _ w' ⟨v, h1, h2, h3⟩; rw [refFrom_eq key n ts h.s.up hf] at h2; exact sayE h1 h2 h3
  · rintro _ w' ⟨v, h1, h2, h3⟩; exact sayE h1 h2 h3
end
end Go.Proofs.Ytdjjkdhhjdafmaa
