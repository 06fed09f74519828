/- Slices of frames: what they read as; the contract of frame.Row. -/
import Derived.Test.YtkpbkhbgiijbiaaFrD
namespace Go.Proofs.Ytkpbkhbgiijbiaa
open Go.RowKit

/-- Cells, two a frame, that read as frames. -/
def FrCells (F : Nat → Prop) (w : World) : List Value → List Fr.T → Prop
  | [], [] => True
  | k :: vb :: cs, f :: fs => k = .int .u8 (f.kind.toNat : Int) ∧ Bytes F w vb f.body ∧ FrCells F w cs fs
  | _, _ => False

theorem FrCells.append {F : Nat → Prop} {w : World} {cs' : List Value} {fs' : List Fr.T} (h' : FrCells F w cs' fs') : ∀ (fs : List Fr.T) (cs : List Value), FrCells F w cs fs → FrCells F w (cs ++ cs') (fs ++ fs')
  | [], [], _ => h'
  | [], _ :: _, h => by simp [FrCells] at h
  | f :: fs, [], h => by simp [FrCells] at h
  | f :: fs, [_], h => by simp [FrCells] at h
  | f :: fs, k :: vb :: cs, h => ⟨h.1, h.2.1, FrCells.append h' fs cs h.2.2⟩

theorem FrCells.keep {F : Nat → Prop} {w w' : World} (hk : ∀ k, k < w.heap.size → F k → w'.heap[k]? = w.heap[k]?) : ∀ (fs : List Fr.T) (cs : List Value), FrCells F w cs fs → FrCells F w' cs fs
  | [], [], _ => trivial
  | [], _ :: _, h => by simp [FrCells] at h
  | f :: fs, [], h => by simp [FrCells] at h
  | f :: fs, [_], h => by simp [FrCells] at h
  | f :: fs, k :: vb :: cs, h => ⟨h.1, h.2.1.keep hk, FrCells.keep hk fs cs h.2.2⟩

theorem FrCells.mono {F F' : Nat → Prop} {w : World} (hk : ∀ k, k < w.heap.size → F k → F' k) : ∀ (fs : List Fr.T) (cs : List Value), FrCells F w cs fs → FrCells F' w cs fs
  | [], [], _ => trivial
  | [], _ :: _, h => by simp [FrCells] at h
  | f :: fs, [], h => by simp [FrCells] at h
  | f :: fs, [_], h => by simp [FrCells] at h
  | f :: fs, k :: vb :: cs, h => ⟨h.1, h.2.1.mono hk, FrCells.mono hk fs cs h.2.2⟩

theorem FrCells.len {F : Nat → Prop} {w : World} : ∀ (fs : List Fr.T) (cs : List Value), FrCells F w cs fs → cs.length = fs.length * 2
  | [], [], _ => rfl
  | [], _ :: _, h => by simp [FrCells] at h
  | f :: fs, [], h => by simp [FrCells] at h
  | f :: fs, [_], h => by simp [FrCells] at h
  | f :: fs, k :: vb :: cs, h => by have := FrCells.len fs cs h.2.2; simp; omega

theorem FrCells.get {F : Nat → Prop} {w : World} : ∀ (fs : List Fr.T) (cs : List Value), FrCells F w cs fs → ∀ i (h : i < fs.length), cs[i * 2]? = some (.int .u8 (fs[i].kind.toNat : Int)) ∧ ∃ vb, cs[i * 2 + 1]? = some vb ∧ Bytes F w vb fs[i].body
  | [], _, _, i, hi => by simp at hi
  | f :: fs, [], h, _, _ => by simp [FrCells] at h
  | f :: fs, [_], h, _, _ => by simp [FrCells] at h
  | f :: fs, k :: vb :: cs, h, 0, _ => ⟨by simp [h.1], vb, by simp, h.2.1⟩
  | f :: fs, k :: vb :: cs, h, i + 1, hi => by
    obtain ⟨h1, vb', h2, h3⟩ := FrCells.get fs cs h.2.2 i (by simpa using hi)
    refine ⟨?_, vb', ?_, ?_⟩
    · have : (i + 1) * 2 = i * 2 + 1 + 1 := by omega
      rw [this]; simpa using h1
    · have : (i + 1) * 2 + 1 = i * 2 + 1 + 1 + 1 := by omega
      rw [this]; simpa using h2
    · simpa using h3

/-- The slice value v reads as frames. -/
def Frames (F : Nat → Prop) (w : World) (v : Value) (fs : List Fr.T) : Prop := ∃ cs, Sl F w 2 v fs.length cs ∧ FrCells F w cs fs

/-- It does, in rows of the call's own (from block base on). -/
def FrOwned (base : Nat) (w : World) (v : Value) (fs : List Fr.T) : Prop := ∃ cs, w.ownsRow base 39 2 v fs.length cs ∧ FrCells (fun k => base ≤ k ∧ v.ownBlock ≠ some k) w cs fs

theorem info_frame : (Try.prog.info? 39).map (fun i => (i.zero, i.size, i.bytes)) = some (some (.agg #[.int .u8 0, .slice none 0 0]), 2, 32) := by kernel_rfl

theorem FrOwned.nil (base : Nat) (w : World) : FrOwned base w (.slice none 0 0) [] := ⟨[], World.ownsRow_nil _ _ _ _, trivial⟩

theorem FrOwned.below {base : Nat} {w w' : World} {v : Value} {fs : List Fr.T} (h : FrOwned base w v fs) (hb : Below w.heap.size w w') : FrOwned base w' v fs := by
  obtain ⟨cs, h1, h2⟩ := h
  exact ⟨cs, ownsRow_same h1 fun k hk _ => hb.block k hk, h2.keep (fun k hk _ => hb.block k hk) _ _⟩

theorem FrOwned.lt {base : Nat} {w : World} {v : Value} {fs : List Fr.T} (h : FrOwned base w v fs) : ∀ k, v.ownBlock = some k → base ≤ k ∧ k < w.heap.size := by
  obtain ⟨cs, h1, _⟩ := h
  exact World.ownsRow.lt h1

theorem FrOwned.frames {base : Nat} {w : World} {v : Value} {fs : List Fr.T} (h : FrOwned base w v fs) : Frames (fun k => base ≤ k) w v fs := by
  obtain ⟨cs, h1, h2⟩ := h
  exact ⟨cs, (Sl.of_owns h1).mono (fun k _ hk => (World.ownsRow.lt h1 k hk).1), h2.mono (fun k _ hk => hk.1) _ _⟩

theorem Frames.keep {F : Nat → Prop} {w w' : World} {v : Value} {fs : List Fr.T} (h : Frames F w v fs) (hk : ∀ k, k < w.heap.size → F k → w'.heap[k]? = w.heap[k]?) : Frames F w' v fs := by
  obtain ⟨cs, h1, h2⟩ := h; exact ⟨cs, h1.keep hk, h2.keep hk _ _⟩
theorem Frames.mono {F F' : Nat → Prop} {w : World} {v : Value} {fs : List Fr.T} (h : Frames F w v fs) (hk : ∀ k, k < w.heap.size → F k → F' k) : Frames F' w v fs := by
  obtain ⟨cs, h1, h2⟩ := h; exact ⟨cs, h1.mono hk, h2.mono hk _ _⟩
theorem Frames.below {F : Nat → Prop} {w w' : World} {v : Value} {fs : List Fr.T} (h : Frames F w v fs) (hb : Below w.heap.size w w') : Frames F w' v fs := h.keep fun k hk _ => hb.block k hk

/-- append of one frame. -/
theorem wpList_append_frame {ops : Array Oper} {rest : List Oper} {o : Oper} {a : Act} {w : World} {Q : Exit → Act → World → Prop} (base : Nat) (v : Value) (fs : List Fr.T) (b : Nat) (f : Fr.T) (vb : Value) (T : TypeId) (hgd : o.guard = none) (s x : Operand)
    (ho : o.op = .call { callee := .builtin .append, args := #[s, x], argTypes := #[40, 40] })
    (hs : a.eval s = v) (hx : a.eval x = .slice (some ⟨b, 0, none⟩) 1 1) (hown : FrOwned base w v fs) (hsrc : Blk w b #[.int .u8 (f.kind.toNat : Int), vb] T)
    (hvb : Bytes (fun k => base ≤ k ∧ v.ownBlock ≠ some k) w vb f.body) (hone : vb.oneCell' = true) (hlen : fs.length ≤ 1000000) (hbase : base ≤ w.heap.size)
    (h : ∀ v' w', FrOwned base w' v' (fs ++ [f]) → Grew w w' v v' → wpList Try.prog ops Q rest (a.put o.dst v') w') : wpList Try.prog ops Q (o :: rest) a w := by
  obtain ⟨i0, hi, hz0, hz1, hz2⟩ := info_parts info_frame
  obtain ⟨cs, h1, h2⟩ := hown
  have hsl : Sl (fun k => k = b) w 2 (.slice (some ⟨b, 0, none⟩) 1 1) 1 [.int .u8 (f.kind.toNat : Int), vb] := by
    refine ⟨_, _, rfl, Nat.le_refl _, by simp [maxLen], by simp, rfl, fun j u hj => ⟨_, rfl, rfl, ?_⟩⟩
    rw [add_plain']
    exact hsrc.cell (by simpa using hj)
  refine wpList_plain hgd fun _ hK => wp_append_grew (F := fun k => k = b) s x 40 ho base 39 i0 _ 2 32 Try.underlying40 hi hz0 hz1 hz2 rfl (by decide) v fs.length cs hs h1 _ 1 [.int .u8 (f.kind.toNat : Int), vb] hx hsl ?_ (by simp only [maxLen]; omega) (by omega) hbase ?_
  · intro u hu
    simp at hu
    rcases hu with rfl | rfl
    · rfl
    · exact hone
  intro v' w' g1 g2 _
  refine hK _ _ (h v' w' ?_ g2)
  have hsame : ∀ k, k < w.heap.size → (base ≤ k ∧ v.ownBlock ≠ some k) → w'.heap[k]? = w.heap[k]? := fun k hk hF => g2.grown.block k hk (fun e => hF.2 e.symm)
  have hmono : ∀ k, k < w.heap.size → (base ≤ k ∧ v.ownBlock ≠ some k) → (base ≤ k ∧ v'.ownBlock ≠ some k) := fun k hk hF => ⟨hF.1, fun e => by
    rcases g2.own k e with e1 | e1
    · exact hF.2 e1
    · omega⟩
  refine ⟨cs ++ [.int .u8 (f.kind.toNat : Int), vb], ?_, ?_⟩
  · rw [List.length_append]; exact g1
  · have k1 : FrCells (fun k => base ≤ k ∧ v'.ownBlock ≠ some k) w' cs fs :=
      ((h2.mono (F' := fun k => (base ≤ k ∧ v.ownBlock ≠ some k) ∧ k < w.heap.size) (fun k hk hF => ⟨hF, hk⟩) _ _).keep (fun k hk hF => hsame k hk hF.1) _ _).mono (fun k _ hF => hmono k hF.2 hF.1) _ _
    have k2 : Bytes (fun k => base ≤ k ∧ v'.ownBlock ≠ some k) w' vb f.body :=
      ((hvb.mono (F' := fun k => (base ≤ k ∧ v.ownBlock ≠ some k) ∧ k < w.heap.size) (fun k hk hF => ⟨hF, hk⟩)).keep (fun k hk hF => hsame k hk hF.1)).mono (fun k _ hF => hmono k hF.2 hF.1)
    have k3 : FrCells (fun k => base ≤ k ∧ v'.ownBlock ≠ some k) w' [.int .u8 (f.kind.toNat : Int), vb] [f] := ⟨rfl, k2, trivial⟩
    exact k3.append _ _ k1

/-- What Row tells, as a value. -/
def RowPost (r : List Fr.T × Nat × Nat) (w : World) (e : Ending) (w' : World) : Prop :=
  ∃ v, e = .returned (.tuple #[v, .int .i64 (r.2.1 : Int), .int .i64 (r.2.2 : Int)]) ∧ FrOwned w.heap.size w' v r.1 ∧ Below w.heap.size w w'

theorem Bytes.one {F : Nat → Prop} {w : World} {v : Value} {bs : List UInt8} (h : Bytes F w v bs) : v.oneCell' = true := by
  obtain ⟨a, c, rfl⟩ := h.isSlice; rfl

theorem row_nil (F : Nat → Prop) (v : Value) (w : World) (hv : Bytes F w v []) :
    Calls Try.prog 19 #[v] w (RowPost ([], 0, 0) w) := by
  obtain ⟨a, c, rfl⟩ := hv.isSlice
  clear hv
  go_enter Try.func19, Try.ntmps19
  go_wp2_with fail
  refine wp_loop_rounds 1 ?_
  rw [rounds_succ]
  go_wp2_with fail
  go_ret3
  exact ⟨_, rfl, FrOwned.nil _ _, Below.refl _ _⟩

set_option maxRecDepth 100000 in
theorem row_some (F : Nat → Prop) (v : Value) (bs : List UInt8) (w : World) (hv : Bytes F w v bs) (hl : bs.length ≤ 100000) (h0 : 0 < bs.length) :
    Calls Try.prog 19 #[v] w (RowPost (Fr.row bs) w) := by
  obtain ⟨b, off, cap, rfl, _, _, e2, _, _⟩ := Sl.place hv (by rw [u8s_len]; omega)
  have HV := Lib.hid hv
  clear hv
  go_enter Try.func19, Try.ntmps19
  go_wp2_with fail
  go_loopw [2, 3] (fun l n wr => ∃ (ls : List Fr.T) (at_ k : Nat), n = .int .i64 at_ ∧ Hid (Fr.row bs = Fr.rowFrom bs k at_ ls) ∧ at_ ≤ bs.length ∧ bs.length ≤ at_ + k ∧ ls.length ≤ at_ ∧ Hid (FrOwned w.heap.size wr l ls) ∧ Hid (Below w.heap.size w wr)) (fun _ n _ => bs.length - (intOf n).toNat)
  case atStart => exact ⟨[], 0, bs.length, rfl, rfl, by omega, by omega, Nat.le_refl _, FrOwned.nil _ _, Below.refl _ _⟩
  case round =>
    obtain ⟨ls, at_, k, rfl, HR, hat, hk, hls, HO, HW⟩ := hrel
    by_cases hlt : at_ < bs.length
    · have hk0 : 0 < k := by omega
      obtain ⟨k, rfl⟩ : ∃ k', k = k' + 1 := ⟨k - 1, by omega⟩
      have HRs : Hid (Fr.rowFrom bs (k + 1) at_ ls = if (Fr.read (bs.drop at_)).2.2 ≠ 0 then (ls, at_, (Fr.read (bs.drop at_)).2.2) else Fr.rowFrom bs k (at_ + (Fr.read (bs.drop at_)).2.1) (ls ++ [(Fr.read (bs.drop at_)).1])) := by
        show _ = _
        rw [Fr.rowFrom, if_pos hlt]
      have HSz : Hid ((Fr.read (bs.drop at_)).2.2 = 0 → (Fr.read (bs.drop at_)).2.1 = Fr.lenOf (bs.drop at_) + 12 ∧ (Fr.read (bs.drop at_)).2.1 ≤ (bs.drop at_).length) := Fr.read_size _
      have HVr := Lib.hid ((HV.out.below HW.out).sub at_ (bs.length - at_) (by omega) (by omega))
      have HTk : Hid ((bs.drop at_).take (bs.length - at_) = bs.drop at_) := List.take_of_length_le (by simp)
      rw [HTk.out] at HVr
      have HLd : Hid ((bs.drop at_).length = bs.length - at_) := List.length_drop
      generalize bs.drop at_ = ds at *
      go_wp2_with fail
      refine Calls.mono (read_any _ _ ds wr HVr.out) ?_
      rintro e w1 ⟨vb, rfl, hvb, hb⟩
      obtain ⟨ga, gc, rfl⟩ := hvb.isSlice
      have HV1 := Lib.hid hvb
      have HW1 : Hid (Below w.heap.size w w1) := HW.out.trans (hb.mono HW.out.size)
      have HO1 : Hid (FrOwned w.heap.size w1 u2 ls) := HO.out.below hb
      have HB1 := Lib.hid hb
      clear hb hvb
      generalize Fr.read ds = r at *
      obtain ⟨⟨kind, body⟩, n', e'⟩ := r
      dsimp only at *
      by_cases he : e' = 0
      · subst he
        obtain ⟨hn1, hn2⟩ := HSz.out rfl
        have HN1 := Lib.hid hn1
        have hn12 : 12 ≤ n' := by omega
        have hn3 : at_ + n' ≤ bs.length := by rw [HLd.out] at hn2; omega
        clear hn1 hn2
        have HRk : Hid (Fr.rowFrom bs (k + 1) at_ ls = Fr.rowFrom bs k (at_ + n') (ls ++ [⟨kind, body⟩])) := by
          have h1 := HRs.out
          rw [if_neg (by simp)] at h1
          exact h1
        go_wp2_with (with_reducible refine pause_append ?_)
        refine list_gen fun W2 hW2 => ?_
        have HBz : Hid (Below w1.heap.size w1 W2) := by
          rw [hW2]; exact ((Below.refl _ _).alloc (Nat.le_refl _) _).alloc (by simp) _
        have HO2 : Hid (FrOwned w.heap.size W2 u2 ls) := HO1.out.below HBz.out
        have HV2 : Hid (Bytes (fun k => w.heap.size ≤ k ∧ u2.ownBlock ≠ some k) W2 (Value.slice ga body.length gc) body) :=
          (HV1.out.below HBz.out).mono fun q _ hq => ⟨Nat.le_trans HW.out.size hq, fun e => by
            have := (HO.out.lt q e).2
            omega⟩
        have HK2 : Hid (Blk W2 (w1.heap.size + 1) #[.int .u8 (kind.toNat : Int), Value.slice ga body.length gc] 39) := by
          rw [hW2]; exact Blk.at_new (by simp) rfl
        have HW2 : Hid (Below w.heap.size w W2) := HW1.out.trans (HBz.out.mono HW1.out.size)
        clear hW2
        refine Pause.go (wpList_append_frame w.heap.size u2 ls (w1.heap.size + 1) ⟨kind, body⟩ (.slice ga body.length gc) 39 rfl _ _ rfl rfl rfl HO2.out HK2.out HV2.out rfl (by omega) HW2.out.size ?_)
        intro v' W3 ho3 hg3
        have HO3 := Lib.hid ho3
        have HW3 : Hid (Below w.heap.size w W3) := HW2.out.trans (hg3.below HW2.out.size fun q hq => (HO2.out.lt q hq).1)
        clear ho3 hg3
        go_wp2_with fail
        go_roundw
        · exact ⟨ls ++ [⟨kind, body⟩], at_ + n', k, by rw [Int.natCast_add], HR.out.trans HRk.out, hn3, by omega, by simp; omega, HO3, HW3⟩
        · simp only [intOf]; omega
      · have he1 : ((e' : Int) != 0) = true := by simp; omega
        have HRe : Hid (Fr.row bs = (ls, at_, e')) := by
          have h1 := HRs.out
          rw [if_pos he] at h1
          exact HR.out.trans h1
        go_wp2_with fail
        go_ret3
        refine ⟨u2, ?_, ?_, ?_⟩
        · rw [HRe.out]; rfl
        · rw [HRe.out]; exact HO1.out.below ((Below.refl _ _).alloc (Nat.le_refl _) _)
        · exact HW1.out.alloc HW1.out.size _
    · have HRe : Hid (Fr.row bs = (ls, at_, 0)) := by
        refine HR.out.trans ?_
        show Fr.rowFrom bs k at_ ls = (ls, at_, 0)
        cases k with
        | zero => rfl
        | succ k => rw [Fr.rowFrom, if_neg hlt]
      go_wp2_with fail
      go_ret3
      refine ⟨u2, ?_, ?_, ?_⟩
      · rw [HRe.out]; rfl
      · rw [HRe.out]; exact HO.out
      · exact HW.out

/-- frame.Row. -/
theorem row_any (F : Nat → Prop) (v : Value) (bs : List UInt8) (w : World) (hv : Bytes F w v bs) (hl : bs.length ≤ 100000) :
    Calls Try.prog 19 #[v] w (RowPost (Fr.row bs) w) := by
  by_cases h0 : 0 < bs.length
  · exact row_some F v bs w hv hl h0
  · have : bs = [] := List.eq_nil_of_length_eq_zero (by omega)
    subst this
    exact row_nil F v w hv
end Go.Proofs.Ytkpbkhbgiijbiaa
