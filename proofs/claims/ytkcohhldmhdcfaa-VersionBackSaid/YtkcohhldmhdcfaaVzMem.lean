/- Small words on memory: a block that is known whole; a slice that reads as a row of cells; what stays. -/
import Derived.WalkKit
import Derived.WalkLawsBesides
import Derived.WalkSpells
import Derived.Lib.Hide
import Derived.Laws.AppendOwnNone
import Derived.Laws.CopyOwn
namespace Go.Proofs.Ytkcohhldmhdcfaa
open Go.RowKit

/-- Block b holds the cells c, of element type T; none is frozen. -/
def Blk (w : World) (b : Nat) (c : Array Value) (T : TypeId) : Prop := w.heap[b]? = some (.cells c T (0, 0))

theorem Blk.lt {w : World} {b : Nat} {c : Array Value} {T : TypeId} (h : Blk w b c T) : b < w.heap.size := by
  unfold Blk at h
  rcases Nat.lt_or_ge b w.heap.size with h1 | h1
  · exact h1
  · simp [Array.getElem?_eq_none h1] at h

theorem Blk.cell {w : World} {b : Nat} {c : Array Value} {T : TypeId} (h : Blk w b c T) {i : Nat} {v : Value} (hi : c[i]? = some v) : w.cell? ⟨b, i, none⟩ = some v := by
  unfold Blk at h; simp [World.cell?, h, hi]

theorem Blk.free {w : World} {b : Nat} {c : Array Value} {T : TypeId} (h : Blk w b c T) (i : Nat) : w.frozen? ⟨b, i, none⟩ = false := by
  unfold Blk at h; simp [World.frozen?, h]

theorem Blk.alloc_new (w : World) (c : Array Value) (T : TypeId) : Blk (w.alloc (.cells c T)) w.heap.size c T := by
  unfold Blk; exact heap_alloc_new w _

theorem Blk.at_new {w : World} {c c' : Array Value} {T : TypeId} {b : Nat} (hb : b = w.heap.size) (hc : c = c') : Blk (w.alloc (.cells c T)) b c' T := by
  subst hb hc; exact Blk.alloc_new w _ _

theorem Blk.alloc {w : World} {b : Nat} {c : Array Value} {T : TypeId} (h : Blk w b c T) (o : Obj) : Blk (w.alloc o) b c T := by
  have := h.lt
  unfold Blk at *; rw [heap_alloc_old _ _ this]; exact h

theorem Blk.drew {w : World} {b : Nat} {c : Array Value} {T : TypeId} (h : Blk w b c T) : Blk w.drew b c T := h

theorem Blk.set {w : World} {b : Nat} {c : Array Value} {T : TypeId} (h : Blk w b c T) (i : Nat) (v : Value) : Blk (w.setCell ⟨b, i, none⟩ v) b (c.setIfInBounds i v) T := by
  unfold Blk at *; exact heap_setCell_same w b i c T v h

theorem Blk.set_other {w : World} {b : Nat} {c : Array Value} {T : TypeId} (h : Blk w b c T) (a : Addr) (v : Value) (hne : a.block ≠ b) : Blk (w.setCell a v) b c T := by
  unfold Blk at *; rw [heap_setCell_other _ _ _ _ (Ne.symm hne)]; exact h

theorem Blk.same {w w' : World} {b : Nat} {c : Array Value} {T : TypeId} (h : Blk w b c T) (he : w'.heap[b]? = w.heap[b]?) : Blk w' b c T := by
  unfold Blk at *; rw [he]; exact h

theorem Blk.below {B : Nat} {w w' : World} {b : Nat} {c : Array Value} {T : TypeId} (h : Blk w b c T) (hb : Below B w w') (hB : b < B) : Blk w' b c T :=
  h.same (hb.block b hB)

theorem below_of_drew {B : Nat} {w w' : World} (h : Below B w.drew w') : Below B w w' := ⟨h.os, h.tape, h.output, h.size, h.block⟩

theorem ret_int {k : IntKind} {a b : Int} (h : a = b) : Ending.returned (.int k a) = .returned (.int k b) := by rw [h]
theorem ret_bool {a b : Bool} (h : a = b) : Ending.returned (.bool a) = .returned (.bool b) := by rw [h]

theorem int_eq {k : IntKind} {a b : Int} (h : a = b) : Value.int k a = Value.int k b := by rw [h]
/-- The slice value v of n elements (sz cells each) reads, in the world w, as the cells xs; they lie in blocks of F. -/
structure Sl (F : Nat → Prop) (w : World) (sz : Nat) (v : Value) (n : Nat) (xs : List Value) : Prop where
  ex : ∃ a cap, v = .slice a n cap ∧ n ≤ cap ∧ cap ≤ maxLen ∧ (a = none → cap = 0) ∧ xs.length = n * sz ∧
    ∀ j u, xs[j]? = some u → ∃ ad, a = some ad ∧ F ad.block ∧ w.cell? (ad.add j) = some u

theorem Addr.add_block (a : Addr) (n : Nat) : (a.add n).block = a.block := by unfold Addr.add; split <;> rfl

theorem Addr.add_add (a : Addr) (m n : Nat) : (a.add m).add n = a.add (m + n) := by
  unfold Addr.add
  by_cases hn : n = 0
  · subst hn; simp
  · by_cases hm : m = 0
    · subst hm; simp
    · rw [if_neg hn, if_neg hm, if_neg (by omega)]; simp [Nat.add_assoc]

variable {F F' : Nat → Prop} {w w' : World} {sz : Nat} {v : Value} {n : Nat} {xs : List Value}

theorem Sl.keep (h : Sl F w sz v n xs) (hk : ∀ k, k < w.heap.size → F k → w'.heap[k]? = w.heap[k]?) : Sl F w' sz v n xs := by
  obtain ⟨a, cap, h1, h2, h3, h4, h5, h6⟩ := h.ex
  refine ⟨a, cap, h1, h2, h3, h4, h5, fun j u hj => ?_⟩
  obtain ⟨ad, e1, e2, e3⟩ := h6 j u hj
  have hlt := World.block_lt_of_cell? _ _ e3
  rw [Addr.add_block] at hlt
  refine ⟨ad, e1, e2, ?_⟩
  rw [World.cell?_of_block (w := w) (by rw [Addr.add_block]; exact hk _ hlt e2), e3]

theorem Sl.mono (h : Sl F w sz v n xs) (hF : ∀ k, k < w.heap.size → F k → F' k) : Sl F' w sz v n xs := by
  obtain ⟨a, cap, h1, h2, h3, h4, h5, h6⟩ := h.ex
  refine ⟨a, cap, h1, h2, h3, h4, h5, fun j u hj => ?_⟩
  obtain ⟨ad, e1, e2, e3⟩ := h6 j u hj
  have hlt := World.block_lt_of_cell? _ _ e3
  rw [Addr.add_block] at hlt
  exact ⟨ad, e1, hF _ hlt e2, e3⟩

theorem Sl.below (h : Sl F w sz v n xs) (hb : Below w.heap.size w w') : Sl F w' sz v n xs := h.keep fun k hk _ => hb.block k hk

theorem Sl.len (h : Sl F w sz v n xs) : xs.length = n * sz := by obtain ⟨_, _, _, _, _, _, h5, _⟩ := h.ex; exact h5
theorem Sl.le (h : Sl F w sz v n xs) : n ≤ maxLen := by obtain ⟨_, _, _, h2, h3, _⟩ := h.ex; omega

theorem add_plain' (b off j : Nat) : (⟨b, off, none⟩ : Addr).add j = ⟨b, off + j, none⟩ := by unfold Addr.add; split <;> simp_all

/-- A slice that holds a cell: where it lies. -/
theorem Sl.place (h : Sl F w sz v n xs) (hne : 0 < xs.length) :
    ∃ b off cap, v = .slice (some ⟨b, off, none⟩) n cap ∧ F b ∧ b < w.heap.size ∧ n ≤ cap ∧ cap ≤ maxLen ∧ ∀ j u, xs[j]? = some u → w.cell? ⟨b, off + j, none⟩ = some u := by
  obtain ⟨a, cap, h1, h2, h3, h4, h5, h6⟩ := h.ex
  obtain ⟨ad, e1, e2, e3⟩ := h6 0 xs[0] (by simp [hne])
  obtain ⟨b, off, sp⟩ := ad
  have hsp : sp = none := by
    cases sp with
    | none => rfl
    | some s => simp [Addr.add, World.cell?] at e3; split at e3 <;> simp at e3
  subst hsp
  subst e1
  have hlt := World.block_lt_of_cell? _ _ e3
  rw [Addr.add_block] at hlt
  refine ⟨b, off, cap, h1, e2, hlt, h2, h3, fun j u hj => ?_⟩
  obtain ⟨ad', f1, _, f3⟩ := h6 j u hj
  injection f1 with f1
  subst f1
  rw [add_plain'] at f3
  exact f3

theorem Sl.nil (F : Nat → Prop) (w : World) (sz : Nat) : Sl F w sz (.slice none 0 0) 0 [] :=
  ⟨none, 0, rfl, Nat.le_refl _, by simp [maxLen], fun _ => rfl, by simp, fun j u hj => by simp at hj⟩

theorem Sl.of_owns {base e : Nat} (h : w.ownsRow base e sz v n xs) : Sl (fun k => v.ownBlock = some k) w sz v n xs := by
  obtain ⟨h0, ⟨rfl, rfl⟩ | ⟨g, cap, cur, rfl, h2, h3, h4, h5, h6, h7⟩⟩ := h
  · have : xs = [] := List.eq_nil_of_length_eq_zero (by simpa using h0)
    subst this; exact (Sl.nil _ w sz)
  · refine ⟨some ⟨g, 0, none⟩, cap, rfl, h4, h5, (fun h => by cases h), h0, fun j u hj => ⟨⟨g, 0, none⟩, rfl, rfl, ?_⟩⟩
    have e1 : (⟨g, 0, none⟩ : Addr).add j = ⟨g, j, none⟩ := by unfold Addr.add; split <;> simp_all
    rw [e1]
    have hlt : j < xs.length := by
      rcases Nat.lt_or_ge j xs.length with h | h
      · exact h
      · rw [List.getElem?_eq_none h] at hj; cases hj
    have : cur[j]? = some u := by
      rw [← h7] at hj
      rw [List.getElem?_take, if_pos (by omega)] at hj
      simpa using hj
    simp [World.cell?, h3, this]

/-- Where a slice's address lies behind a cut at lo (Go keeps the address if nothing is left). -/
def cutAddr (lo cap sz : Nat) (a : Option Addr) : Option Addr := if cap = lo then a else a.map (·.add (lo * sz))

theorem Sl.cut {a : Option Addr} {cap : Nat} (h : Sl F w sz (.slice a n cap) n xs) (lo hi : Nat) (h1 : lo ≤ hi) (h2 : hi ≤ n) :
    Sl F w sz (.slice (cutAddr lo cap sz a) (hi - lo) (cap - lo)) (hi - lo) ((xs.drop (lo * sz)).take ((hi - lo) * sz)) := by
  obtain ⟨a', cap', e0, e2, e3, e4, e5, e6⟩ := h.ex
  injection e0 with e01 e02 e03
  subst e01 e03
  have hm : lo * sz + (hi - lo) * sz = hi * sz := by rw [← Nat.add_mul]; congr 1; omega
  have hm2 : hi * sz ≤ n * sz := Nat.mul_le_mul_right _ h2
  refine ⟨_, _, rfl, by omega, by omega, ?_, ?_, ?_⟩
  · intro hn
    unfold cutAddr at hn
    split at hn
    · have := e4 hn; omega
    · cases a with
      | none => have := e4 rfl; omega
      | some x => simp at hn
  · simp [e5]; omega
  · intro j u hj
    have hjlt : j < (hi - lo) * sz := by
      rcases Nat.lt_or_ge j ((hi - lo) * sz) with h | h
      · exact h
      · rw [List.getElem?_eq_none (by simp; omega)] at hj; cases hj
    rw [List.getElem?_take, if_pos hjlt, List.getElem?_drop] at hj
    obtain ⟨ad, rfl, f2, f3⟩ := e6 _ _ hj
    unfold cutAddr
    by_cases hc : cap = lo
    · have : hi - lo = 0 := by omega
      rw [this] at hjlt; omega
    · rw [if_neg hc]
      exact ⟨ad.add (lo * sz), rfl, by rw [Addr.add_block]; exact f2, by rw [Addr.add_add]; exact f3⟩

/-- A block's cells, those from off on written over. -/
def over (c : Array Value) (off : Nat) (vs : List Value) : Array Value := (c.toList.take off ++ vs ++ c.toList.drop (off + vs.length)).toArray

theorem over_size (c : Array Value) (off : Nat) (vs : List Value) (h : off + vs.length ≤ c.size) : (over c off vs).size = c.size := by
  simp [over]; omega

theorem over_get (c : Array Value) (off : Nat) (vs : List Value) (h : off + vs.length ≤ c.size) (i : Nat) : (over c off vs)[i]? = if off ≤ i ∧ i < off + vs.length then vs[i - off]? else c[i]? := by
  have h1 : (c.toList.take off).length = off := by simp; omega
  simp only [over, List.getElem?_toArray]
  rw [List.append_assoc, List.getElem?_append, h1]
  by_cases hi : i < off
  · rw [if_pos hi, if_neg (by omega), List.getElem?_take, if_pos hi]; simp
  · rw [if_neg hi, List.getElem?_append]
    by_cases h2 : i - off < vs.length
    · rw [if_pos h2, if_pos (by omega)]
    · rw [if_neg h2, if_neg (by omega), List.getElem?_drop]
      have : off + vs.length + (i - off - vs.length) = i := by omega
      rw [this]; simp

theorem over_all (c : Array Value) (vs : Array Value) (h : vs.size = c.size) : over c 0 vs.toList = vs := by
  apply Array.ext_getElem?
  intro i
  rw [over_get _ _ _ (by simp; omega)]
  by_cases hi : i < vs.size
  · rw [if_pos (by simp; omega)]; simp
  · rw [if_neg (by simp; omega)]; rw [Array.getElem?_eq_none (by omega), Array.getElem?_eq_none (by omega)]

theorem Blk.row {b : Nat} {c : Array Value} {T : TypeId} (h : Blk w b c T) (cs : Array Value) : Blk (w.setRow b cs) b cs T := by
  unfold Blk at *; exact setRow_heap w b c cs T _ h

theorem wpList_store_agg {P : Program} {ops : Array Oper} {rest : List Oper} {o : Oper} {a : Act} {Q : Exit → Act → World → Prop} (hgd : o.guard = none) (ty : TypeId) (x y : Operand) (ho : o.op = .store ty x y)
    (b off : Nat) (hx : a.eval x = .pointer (some ⟨b, off, none⟩)) (vs : Array Value) (hy : a.eval y = .agg vs) (c : Array Value) (T : TypeId) (hg : Blk w b c T)
    (hi : (P.info? ty).map (·.size) = some vs.size) (hl : off + vs.size ≤ c.size) (h1 : ∀ v ∈ vs.toList, v.oneCell' = true)
    (h : wpList P ops Q rest (a.put o.dst undef) (w.setRow b (over c off vs.toList))) : wpList P ops Q (o :: rest) a w := by
  refine wpList_plain hgd fun K hK => ?_
  have hst := run_storeCells_at (P := P) b off T vs.toList 0 c w hg (by simpa using hl) h1
  cases hq : P.info? ty with
  | none => simp [hq] at hi
  | some i =>
    have hs : i.size = vs.size := by simpa [hq] using hi
    have hr : (storeVar ty ⟨b, off, none⟩ (.agg vs)).run P w = .ok () (w.setRow b (over c off vs.toList)) := by
      simp only [Nat.add_zero] at hst
      simp [storeVar, Sem.run_bind, sizeOf, typeInfo, hq, hs, Value.cells, hst, over]
    unfold Oper.wp execOp
    simp only [ho, hx, hy, Instr.storeAt, Instr.sureAddr, Sem.run_bind, Sem.run_pure, Result.andThen_ok, hr]
    exact hK _ _ h

/-- The walk stands still here: the next operation is met by hand. -/
def Pause (p : Prop) : Prop := p
theorem Pause.go {p : Prop} (h : p) : Pause p := h

section
variable {P : Program} {ops : Array Oper} {Q : Exit → Act → World → Prop} {rest : List Oper} {a : Act} {dst : Option Tmp} {ty : TypeId} {pos : String} {after : Array Edge} {guard : Option (Nat × Bool)}
theorem pause_store {t : TypeId} {x y : Operand} (h : Pause (wpList P ops Q (⟨dst, .store t x y, ty, pos, after, guard⟩ :: rest) a w)) : wpList P ops Q (⟨dst, .store t x y, ty, pos, after, guard⟩ :: rest) a w := h
theorem pause_append {xs : Array Operand} {ts : Array TypeId} (h : Pause (wpList P ops Q (⟨dst, .call ⟨.builtin .append, xs, ts⟩, ty, pos, after, guard⟩ :: rest) a w)) : wpList P ops Q (⟨dst, .call ⟨.builtin .append, xs, ts⟩, ty, pos, after, guard⟩ :: rest) a w := h
end

theorem results_cell_tmp1 {P : Program} {fn : Func} {p t : Tmp} {ty : TypeId} (h : fn.results = #[.cell p ty, .tmp t]) (tmps : Array Value) (w : World) (g : Nat) (T : TypeId) (cs : Array Value) (d : TypeDesc)
    (hp : tmps.getD p undef = .pointer (some ⟨g, 0, none⟩)) (hg : Blk w g cs T)
    (hu : P.underlying ty = some d) (hd : (match d with | .struct _ | .array _ _ => true | _ => false) = true) (hi : (P.info? ty).map (·.size) = some cs.size) :
    (results fn tmps).run P w = .ok (.tuple #[.agg cs, tmps.getD t undef]) w := by
  have hp' : tmps[p]?.getD undef = .pointer (some ⟨g, 0, none⟩) := by simpa using hp
  simp [results, h, hp', asAddr, run_loadVar_row w g T ty cs (0, 0) d hg hu hd hi]

theorem wp_gen {P : Program} {c : Code} {Q : Exit → Act → World → Prop} {a : Act} (h : ∀ W, W = w → c.wp P Q a W) : c.wp P Q a w := h w rfl
theorem list_gen {P : Program} {ops : Array Oper} {Q : Exit → Act → World → Prop} {l : List Oper} {a : Act} (h : ∀ W, W = w → wpList P ops Q l a W) : wpList P ops Q l a w := h w rfl
theorem calls_gen {P : Program} {f : FuncId} {args : Array Value} {R : Ending → World → Prop} (h : ∀ W, W = w → Calls P f args W R) : Calls P f args w R := h w rfl

theorem run_sizeOf {P : Program} {e : TypeId} {sz : Nat} (hs : (P.info? e).map (·.size) = some sz) (w : World) : (sizeOf e).run P w = .ok sz w := by
  cases hq : P.info? e with
  | none => simp [hq] at hs
  | some i =>
    have : i.size = sz := by simpa [hq] using hs
    simp [sizeOf, typeInfo, hq, this]

theorem Sl.slice_lh {P : Program} {t : TypeId} (ht : P.underlying t = some (.slice (P.elem t))) (hs : (P.info? (P.elem t)).map (·.size) = some sz) (h : Sl F w sz v n xs) (lo hi : Nat) (h1 : lo ≤ hi) (h2 : hi ≤ n) :
    ∃ v', (∀ w', (Instr.slice t v (some (.int .i64 (lo : Int))) (some (.int .i64 (hi : Int))) none).run P w' = .ok v' w') ∧ Sl F w sz v' (hi - lo) ((xs.drop (lo * sz)).take ((hi - lo) * sz)) := by
  obtain ⟨a, cap, rfl, e2, e3, _⟩ := h.ex
  refine ⟨_, fun w' => ?_, h.cut lo hi h1 h2⟩
  rw [run_slice_lh w' t a n cap ht .i64 .i64 lo hi (by omega) (by omega) (by omega), run_sizeOf hs]
  rfl

theorem Sl.slice_l {P : Program} {t : TypeId} (ht : P.underlying t = some (.slice (P.elem t))) (hs : (P.info? (P.elem t)).map (·.size) = some sz) (h : Sl F w sz v n xs) (lo : Nat) (h1 : lo ≤ n) :
    ∃ v', (∀ w', (Instr.slice t v (some (.int .i64 (lo : Int))) none none).run P w' = .ok v' w') ∧ Sl F w sz v' (n - lo) ((xs.drop (lo * sz)).take ((n - lo) * sz)) := by
  obtain ⟨a, cap, rfl, e2, e3, _⟩ := h.ex
  refine ⟨_, fun w' => ?_, h.cut lo n h1 (Nat.le_refl _)⟩
  rw [run_slice_l w' t a n cap ht .i64 lo (by omega) (by omega), run_sizeOf hs]
  rfl

theorem wpList_append_sl {P : Program} {ops : Array Oper} {rest : List Oper} {o : Oper} {a : Act} {Q : Exit → Act → World → Prop} (hgd : o.guard = none) (s x : Operand) (t : TypeId)
    (ho : o.op = .call { callee := .builtin .append, args := #[s, x], argTypes := #[t, t] })
    (base : Nat) (e : TypeId) (i : TypeInfo) (z : Value) (size bytes : Nat) (ht : P.underlying t = some (.slice e)) (hi : P.info? e = some i) (hz : i.zero = some z)
    (hsize : i.size = size) (hby : i.bytes = bytes) (hzs : z.cells.size = size) (hsz : 0 < size)
    (v : Value) (n : Nat) (xs : List Value) (hs : a.eval s = v) (hown : w.ownsRow base e size v n xs)
    (x' : Value) (m : Nat) (news : List Value) (hx : a.eval x = x') (hsl : Sl F w size x' m news) (h1 : ∀ u ∈ news, u.oneCell' = true)
    (h63 : n + m ≤ maxLen) (hbytes : (n + m) * bytes ≤ 140737488355328) (hbase : base ≤ w.heap.size)
    (h : ∀ v' w', w'.ownsRow base e size v' (n + m) (xs ++ news) → w.grownBy w' v.ownBlock → (v' = .slice none 0 0 ↔ v = .slice none 0 0 ∧ m = 0) → wpList P ops Q rest (a.put o.dst v') w') : wpList P ops Q (o :: rest) a w := by
  obtain ⟨ad, cap, rfl, e2, e3, e4, e5, e6⟩ := hsl.ex
  cases ad with
  | some ad =>
    refine wpList_append_own w hgd s x t ho base e i z size bytes ht hi hz hsize hby hzs hsz v n xs hs hown ad m cap news hx e5 (fun j u hj => ?_) h1 h63 hbytes hbase h
    obtain ⟨ad', f1, _, f3⟩ := e6 j u hj
    injection f1 with f1; subst f1; exact f3
  | none =>
    have hc := e4 rfl
    subst hc
    have hm : m = 0 := by omega
    subst hm
    have hne : news = [] := List.eq_nil_of_length_eq_zero (by simpa using e5)
    subst hne
    refine wpList_append_own_none hgd s x t ho base e i size ht hi v n xs hs hown hx ?_
    exact h v w (by simpa using hown) (World.grownBy.refl _ _) (by simp)

/-- From w to w' only the row of v has been written, and new blocks made; v' lies in v's row or in a new one. -/
structure Grew (w w' : World) (v v' : Value) : Prop where
  grown : w.grownBy w' v.ownBlock
  own : ∀ k, v'.ownBlock = some k → v.ownBlock = some k ∨ w.heap.size ≤ k

theorem Grew.refl (w : World) (v : Value) : Grew w w v v := ⟨World.grownBy.refl _ _, fun _ h => .inl h⟩

theorem Grew.trans {w1 w2 w3 : World} {v1 v2 v3 : Value} (h : Grew w1 w2 v1 v2) (k : Grew w2 w3 v2 v3) : Grew w1 w3 v1 v3 := by
  refine ⟨⟨k.grown.os.trans h.grown.os, k.grown.tape.trans h.grown.tape, k.grown.output.trans h.grown.output, Nat.le_trans h.grown.size k.grown.size, fun i hi hne => ?_⟩, fun i hi => ?_⟩
  · rw [k.grown.block i (Nat.lt_of_lt_of_le hi h.grown.size) (fun e => ?_), h.grown.block i hi hne]
    rcases h.own i e.symm with h1 | h1
    · exact hne h1.symm
    · omega
  · rcases k.own i hi with h1 | h1
    · exact h.own i h1
    · exact .inr (Nat.le_trans h.grown.size h1)

/-- New blocks alone, behind it. -/
theorem Grew.post {w1 w2 w3 : World} {v v' : Value} (h : Grew w1 w2 v v') (k : Below w2.heap.size w2 w3) : Grew w1 w3 v v' := by
  refine ⟨⟨k.os.trans h.grown.os, k.tape.trans h.grown.tape, k.output.trans h.grown.output, Nat.le_trans h.grown.size k.size, fun i hi hne => ?_⟩, h.own⟩
  rw [k.block i (Nat.lt_of_lt_of_le hi h.grown.size), h.grown.block i hi hne]

theorem Grew.drew {w1 w2 : World} {v v' : Value} (h : Grew w1 w2 v v') : Grew w1 w2.drew v v' := ⟨⟨h.grown.os, h.grown.tape, h.grown.output, h.grown.size, h.grown.block⟩, h.own⟩
theorem Grew.keep {w1 w2 : World} {v v' v2 : Value} (h : Grew w1 w2 v v') (hs : Sl F w1 sz v2 n xs) (hF : ∀ k, F k → v.ownBlock ≠ some k) : Sl F w2 sz v2 n xs :=
  hs.keep fun k hk hf => h.grown.block k hk (fun e => hF k hf e.symm)

theorem Grew.below {w1 w2 : World} {v v' : Value} {B : Nat} (h : Grew w1 w2 v v') (hB : B ≤ w1.heap.size) (hv : ∀ k, v.ownBlock = some k → B ≤ k) : Below B w1 w2 :=
  ⟨h.grown.os, h.grown.tape, h.grown.output, h.grown.size, fun k hk => h.grown.block k (by omega) (fun e => by have := hv k e.symm; omega)⟩

theorem ownsRow_same {base e : Nat} (h : w.ownsRow base e sz v n xs) (hk : ∀ k, k < w.heap.size → v.ownBlock = some k → w'.heap[k]? = w.heap[k]?) : w'.ownsRow base e sz v n xs := by
  have hlt := World.ownsRow.lt h
  obtain ⟨h1, h2 | ⟨g, cap, cur, rfl, hg, hh, r⟩⟩ := h
  · exact ⟨h1, .inl h2⟩
  · exact ⟨h1, .inr ⟨g, cap, cur, rfl, hg, by rw [hk g (hlt g rfl).2 rfl]; exact hh, r⟩⟩

theorem ownsRow_base {base base' e : Nat} (h : w.ownsRow base e sz v n xs) (hb : base' ≤ base) : w.ownsRow base' e sz v n xs := by
  obtain ⟨h1, h2 | ⟨g, cap, cur, rfl, hg, r⟩⟩ := h
  · exact ⟨h1, .inl h2⟩
  · exact ⟨h1, .inr ⟨g, cap, cur, rfl, by omega, r⟩⟩

theorem run_append_grew {P : Program} (t ty e : TypeId) (i : TypeInfo) (z : Value) (size bytes base : Nat) (ht : P.underlying t = some (.slice e)) (hi : P.info? e = some i) (hz : i.zero = some z)
    (hsize : i.size = size) (hby : i.bytes = bytes) (hzs : z.cells.size = size) (hsz : 0 < size)
    (v : Value) (n : Nat) (xs : List Value) (hown : w.ownsRow base e size v n xs)
    (a : Addr) (m c : Nat) (news : List Value) (hl : news.length = m * size) (hnews : ∀ j u, news[j]? = some u → w.cell? (a.add j) = some u) (h1 : ∀ u ∈ news, u.oneCell' = true)
    (h63 : n + m ≤ maxLen) (hbytes : (n + m) * bytes ≤ 140737488355328) (hbase : base ≤ w.heap.size) :
    ∃ v' w', (Builtin.append_ #[t, t] ty #[v, .slice (some a) m c]).run P w = .ok v' w' ∧ w'.ownsRow base e size v' (n + m) (xs ++ news) ∧ Grew w w' v v' ∧
      (v' = .slice none 0 0 ↔ v = .slice none 0 0 ∧ m = 0) := by
  obtain ⟨v', w', hr, h2, h3, h4⟩ := run_append_own (P := P) w base t ty e i z size bytes ht hi hz hsize hby hzs hsz v n xs hown a m c news hl hnews h1 h63 hbytes hbase
  refine ⟨v', w', hr, h2, ⟨h3, ?_⟩, h4⟩
  subst hsize hby
  have hmx : n + m ≤ 9223372036854775807 := by simp only [maxLen] at h63; omega
  rcases hown.2 with ⟨rfl, rfl⟩ | ⟨g, cap, cur, rfl, hbg, hg, hnc, hcm, hcs, htake⟩
  · by_cases hm : m = 0
    · intro k hk
      rw [h4.2 ⟨rfl, hm⟩] at hk
      cases hk
    · have hr2 := run_append_nil (P := P) w t ty e i z ht hi hz a m c news hl hnews (by omega) (by omega) (by simp only [Nat.zero_add] at hbytes; omega)
      rw [hr] at hr2
      injection hr2 with e1 _
      subst e1
      intro k hk
      injection hk with hk
      exact .inr (by rw [← hk]; exact Nat.le_refl _)
  · by_cases hroom : n + m ≤ cap
    · have hfit : n * i.size + news.length ≤ cur.size := by rw [hl, hcs, ← Nat.add_mul]; exact Nat.mul_le_mul_right _ hroom
      have hr2 := run_append_room (P := P) w t ty e i ht hi g n cap cur hg a m c news hl hnews h1 hroom hfit
      rw [hr] at hr2
      injection hr2 with e1 _
      subst e1
      exact fun k hk => .inl hk
    · have holds : ∀ j u, xs[j]? = some u → w.cell? ((⟨g, 0, none⟩ : Addr).add j) = some u := hown.cells (g := g) rfl
      have hr2 := run_append_grow (P := P) w t ty e i z ht hi hz ⟨g, 0, none⟩ n cap xs hown.1 holds a m c news hl hnews (by omega) (by omega) (growslice_fits (by omega) hbytes)
      rw [hr] at hr2
      injection hr2 with e1 _
      subst e1
      intro k hk
      injection hk with hk
      exact .inr (by rw [← hk]; exact Nat.le_refl _)

theorem wp_append_grew {P : Program} {o : Oper} {a : Act} {K : Act → World → Prop} {Q : Exit → Act → World → Prop} (s x : Operand) (t : TypeId)
    (ho : o.op = .call { callee := .builtin .append, args := #[s, x], argTypes := #[t, t] })
    (base : Nat) (e : TypeId) (i : TypeInfo) (z : Value) (size bytes : Nat) (ht : P.underlying t = some (.slice e)) (hi : P.info? e = some i) (hz : i.zero = some z)
    (hsize : i.size = size) (hby : i.bytes = bytes) (hzs : z.cells.size = size) (hsz : 0 < size)
    (v : Value) (n : Nat) (xs : List Value) (hs : a.eval s = v) (hown : w.ownsRow base e size v n xs)
    (x' : Value) (m : Nat) (news : List Value) (hx : a.eval x = x') (hsl : Sl F w size x' m news) (h1 : ∀ u ∈ news, u.oneCell' = true)
    (h63 : n + m ≤ maxLen) (hbytes : (n + m) * bytes ≤ 140737488355328) (hbase : base ≤ w.heap.size)
    (h : ∀ v' w', w'.ownsRow base e size v' (n + m) (xs ++ news) → Grew w w' v v' → (v' = .slice none 0 0 ↔ v = .slice none 0 0 ∧ m = 0) → K (a.put o.dst v') w') : o.wp P a w K Q := by
  obtain ⟨ad, cap, rfl, e2, e3, e4, e5, e6⟩ := hsl.ex
  cases ad with
  | some ad =>
    obtain ⟨v', w', hr, g2, g3, g4⟩ := run_append_grew (P := P) t o.type e i z size bytes base ht hi hz hsize hby hzs hsz v n xs hown ad m cap news e5 (fun j u hj => by
      obtain ⟨ad', f1, _, f3⟩ := e6 j u hj
      injection f1 with f1; subst f1; exact f3) h1 h63 hbytes hbase
    unfold Oper.wp execOp
    simp only [ho, resolve, invoke, builtin, Sem.run_bind, Sem.run_pure, Result.andThen_ok, List.map_toArray, List.map_cons, List.map_nil, hs, hx, hr]
    exact h v' w' g2 g3 g4
  | none =>
    have hc := e4 rfl
    subst hc
    have hm : m = 0 := by omega
    subst hm
    have hne : news = [] := List.eq_nil_of_length_eq_zero (by simpa using e5)
    subst hne
    have hr := run_append_owned_none (P := P) (w := w) base t o.type e i size ht hi v n xs hown
    unfold Oper.wp execOp
    simp only [ho, resolve, invoke, builtin, Sem.run_bind, Sem.run_pure, Result.andThen_ok, List.map_toArray, List.map_cons, List.map_nil, hs, hx, hr]
    exact h v w (by simpa using hown) (Grew.refl _ _) (by simp)

/-- An operation's own law as one step of a region that draws. -/
theorem step_of_wp {P : Program} {ops : Array Oper} {o : Oper} {a : Act} {K : Act → World → Prop} {Q : Exit → Act → World → Prop} {E : Prop} (hg : o.guard = none) (h : o.wp P a w K Q) :
    if Region.wanted o (yielded ops a.tmps) = true then Oper.wp P o a w K Q else E := by
  rw [if_pos (by simp [Region.wanted, hg])]; exact h

end Go.Proofs.Ytkcohhldmhdcfaa
