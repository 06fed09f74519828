/- Small words on memory: a block that is known whole; a slice that reads as a row of cells; what stays. -/
import Derived.WalkKit
import Derived.WalkLawsBesides
import Derived.WalkSpells
import Derived.Lib.Hide
import Derived.Laws.AppendOwnNone
import Derived.Laws.CopyOwn
namespace Go.Proofs.Ytkpbkhbgiijbiaa
open Go.RowKit

/-- Block b holds the cells c, of element type T; none is frozen. -/
def Blk (w : World) (b : Nat) (c : Array Value) (T : TypeId) : Prop := w.heap[b]? = some (.cells c T (0, 0))

theorem Blk.lt {w : World} {b : Nat} {c : Array Value} {T : TypeId} (h : Blk w b c T) : b < w.heap.size := by
  unfold Blk at h
  rcases Nat.lt_or_ge b w.heap.size with h1 | h1
  · exact h1
  · simp [Array.getElem?_eq_none h1] at h

theorem Blk.cell {w : World} {b : Nat} {c : Array Value} {T : TypeId} (h : Blk w b c T) {i : Nat} {v : Value} (hi : c[i]? = some v) : w.cell? ⟨b, i, none⟩ = some v := by
  unfold Blk at h; simp [World.cell?, h, hi]

theorem Blk.free {w : World} {b : Nat} {c : Array Value} {T : TypeId} (h : Blk w b c T) (i : Nat) : w.frozen? ⟨b, i, none⟩ = false := by
  unfold Blk at h; simp [World.frozen?, h]

theorem Blk.alloc_new (w : World) (c : Array Value) (T : TypeId) : Blk (w.alloc (.cells c T)) w.heap.size c T := by
  unfold Blk; exact heap_alloc_new w _

theorem Blk.at_new {w : World} {c c' : Array Value} {T : TypeId} {b : Nat} (hb : b = w.heap.size) (hc : c = c') : Blk (w.alloc (.cells c T)) b c' T := by
  subst hb hc; exact Blk.alloc_new w _ _

theorem Blk.alloc {w : World} {b : Nat} {c : Array Value} {T : TypeId} (h : Blk w b c T) (o : Obj) : Blk (w.alloc o) b c T := by
  have := h.lt
  unfold Blk at *; rw [heap_alloc_old _ _ this]; exact h

theorem Blk.drew {w : World} {b : Nat} {c : Array Value} {T : TypeId} (h : Blk w b c T) : Blk w.drew b c T := h

theorem Blk.set {w : World} {b : Nat} {c : Array Value} {T : TypeId} (h : Blk w b c T) (i : Nat) (v : Value) : Blk (w.setCell ⟨b, i, none⟩ v) b (c.setIfInBounds i v) T := by
  unfold Blk at *; exact heap_setCell_same w b i c T v h

theorem Blk.set_other {w : World} {b : Nat} {c : Array Value} {T : TypeId} (h : Blk w b c T) (a : Addr) (v : Value) (hne : a.block ≠ b) : Blk (w.setCell a v) b c T := by
  unfold Blk at *; rw [heap_setCell_other _ _ _ _ (Ne.symm hne)]; exact h

theorem Blk.same {w w' : World} {b : Nat} {c : Array Value} {T : TypeId} (h : Blk w b c T) (he : w'.heap[b]? = w.heap[b]?) : Blk w' b c T := by
  unfold Blk at *; rw [he]; exact h

theorem Blk.below {B : Nat} {w w' : World} {b : Nat} {c : Array Value} {T : TypeId} (h : Blk w b c T) (hb : Below B w w') (hB : b < B) : Blk w' b c T :=
  h.same (hb.block b hB)

theorem below_of_drew {B : Nat} {w w' : World} (h : Below B w.drew w') : Below B w w' := ⟨h.os, h.tape, h.output, h.size, h.block⟩

theorem ret_int {k : IntKind} {a b : Int} (h : a = b) : Ending.returned (.int k a) = .returned (.int k b) := by rw [h]
theorem ret_bool {a b : Bool} (h : a = b) : Ending.returned (.bool a) = .returned (.bool b) := by rw [h]

theorem int_eq {k : IntKind} {a b : Int} (h : a = b) : Value.int k a = Value.int k b := by rw [h]
theorem ret2_of {a a' b b' : Value} (h1 : a = a') (h2 : b = b') : Ending.returned (.tuple #[a, b]) = .returned (.tuple #[a', b']) := by rw [h1, h2]
theorem ret3_of {a a' b b' c c' : Value} (h1 : a = a') (h2 : b = b') (h3 : c = c') : Ending.returned (.tuple #[a, b, c]) = .returned (.tuple #[a', b', c']) := by rw [h1, h2, h3]

/-- The slice value v of n elements (sz cells each) reads, in the world w, as the cells xs; they lie in blocks of F. -/
structure Sl (F : Nat → Prop) (w : World) (sz : Nat) (v : Value) (n : Nat) (xs : List Value) : Prop where
  ex : ∃ a cap, v = .slice a n cap ∧ n ≤ cap ∧ cap ≤ maxLen ∧ (a = none → cap = 0) ∧ xs.length = n * sz ∧
    ∀ j u, xs[j]? = some u → ∃ ad, a = some ad ∧ F ad.block ∧ w.cell? (ad.add j) = some u

theorem Addr.add_block (a : Addr) (n : Nat) : (a.add n).block = a.block := by unfold Addr.add; split <;> rfl

theorem Addr.add_add (a : Addr) (m n : Nat) : (a.add m).add n = a.add (m + n) := by
  unfold Addr.add
  by_cases hn : n = 0
  · subst hn; simp
  · by_cases hm : m = 0
    · subst hm; simp
    · rw [if_neg hn, if_neg hm, if_neg (by omega)]; simp [Nat.add_assoc]

variable {F F' : Nat → Prop} {w w' : World} {sz : Nat} {v : Value} {n : Nat} {xs : List Value}

theorem Sl.keep (h : Sl F w sz v n xs) (hk : ∀ k, k < w.heap.size → F k → w'.heap[k]? = w.heap[k]?) : Sl F w' sz v n xs := by
  obtain ⟨a, cap, h1, h2, h3, h4, h5, h6⟩ := h.ex
  refine ⟨a, cap, h1, h2, h3, h4, h5, fun j u hj => ?_⟩
  obtain ⟨ad, e1, e2, e3⟩ := h6 j u hj
  have hlt := World.block_lt_of_cell? _ _ e3
  rw [Addr.add_block] at hlt
  refine ⟨ad, e1, e2, ?_⟩
  rw [World.cell?_of_block (w := w) (by rw [Addr.add_block]; exact hk _ hlt e2), e3]

theorem Sl.mono (h : Sl F w sz v n xs) (hF : ∀ k, k < w.heap.size → F k → F' k) : Sl F' w sz v n xs := by
  obtain ⟨a, cap, h1, h2, h3, h4, h5, h6⟩ := h.ex
  refine ⟨a, cap, h1, h2, h3, h4, h5, fun j u hj => ?_⟩
  obtain ⟨ad, e1, e2, e3⟩ := h6 j u hj
  have hlt := World.block_lt_of_cell? _ _ e3
  rw [Addr.add_block] at hlt
  exact ⟨ad, e1, hF _ hlt e2, e3⟩

theorem Sl.below (h : Sl F w sz v n xs) (hb : Below w.heap.size w w') : Sl F w' sz v n xs := h.keep fun k hk _ => hb.block k hk

theorem Sl.below' {B : Nat} (h : Sl (· < B) w sz v n xs) (hb : Below B w w') : Sl (· < B) w' sz v n xs := h.keep fun k _ hF => hb.block k hF

theorem Sl.len (h : Sl F w sz v n xs) : xs.length = n * sz := by obtain ⟨_, _, _, _, _, _, h5, _⟩ := h.ex; exact h5
theorem Sl.le (h : Sl F w sz v n xs) : n ≤ maxLen := by obtain ⟨_, _, _, h2, h3, _⟩ := h.ex; omega

theorem Sl.nil (F : Nat → Prop) (w : World) (sz : Nat) : Sl F w sz (.slice none 0 0) 0 [] :=
  ⟨none, 0, rfl, Nat.le_refl _, by simp [maxLen], fun _ => rfl, by simp, fun j u hj => by simp at hj⟩

theorem Sl.of_owns {base e : Nat} (h : w.ownsRow base e sz v n xs) : Sl (fun k => v.ownBlock = some k) w sz v n xs := by
  obtain ⟨h0, ⟨rfl, rfl⟩ | ⟨g, cap, cur, rfl, h2, h3, h4, h5, h6, h7⟩⟩ := h
  · have : xs = [] := List.eq_nil_of_length_eq_zero (by simpa using h0)
    subst this; exact (Sl.nil _ w sz)
  · refine ⟨some ⟨g, 0, none⟩, cap, rfl, h4, h5, (fun h => by cases h), h0, fun j u hj => ⟨⟨g, 0, none⟩, rfl, rfl, ?_⟩⟩
    have e1 : (⟨g, 0, none⟩ : Addr).add j = ⟨g, j, none⟩ := by unfold Addr.add; split <;> simp_all
    rw [e1]
    have hlt : j < xs.length := by
      rcases Nat.lt_or_ge j xs.length with h | h
      · exact h
      · rw [List.getElem?_eq_none h] at hj; cases hj
    have : cur[j]? = some u := by
      rw [← h7] at hj
      rw [List.getElem?_take, if_pos (by omega)] at hj
      simpa using hj
    simp [World.cell?, h3, this]

/-- Where a slice's address lies behind a cut at lo (Go keeps the address if nothing is left). -/
def cutAddr (lo cap sz : Nat) (a : Option Addr) : Option Addr := if cap = lo then a else a.map (·.add (lo * sz))

theorem Sl.cut {a : Option Addr} {cap : Nat} (h : Sl F w sz (.slice a n cap) n xs) (lo hi : Nat) (h1 : lo ≤ hi) (h2 : hi ≤ n) :
    Sl F w sz (.slice (cutAddr lo cap sz a) (hi - lo) (cap - lo)) (hi - lo) ((xs.drop (lo * sz)).take ((hi - lo) * sz)) := by
  obtain ⟨a', cap', e0, e2, e3, e4, e5, e6⟩ := h.ex
  injection e0 with e01 e02 e03
  subst e01 e03
  have hm : lo * sz + (hi - lo) * sz = hi * sz := by rw [← Nat.add_mul]; congr 1; omega
  have hm2 : hi * sz ≤ n * sz := Nat.mul_le_mul_right _ h2
  refine ⟨_, _, rfl, by omega, by omega, ?_, ?_, ?_⟩
  · intro hn
    unfold cutAddr at hn
    split at hn
    · have := e4 hn; omega
    · cases a with
      | none => have := e4 rfl; omega
      | some x => simp at hn
  · simp [e5]; omega
  · intro j u hj
    have hjlt : j < (hi - lo) * sz := by
      rcases Nat.lt_or_ge j ((hi - lo) * sz) with h | h
      · exact h
      · rw [List.getElem?_eq_none (by simp; omega)] at hj; cases hj
    rw [List.getElem?_take, if_pos hjlt, List.getElem?_drop] at hj
    obtain ⟨ad, rfl, f2, f3⟩ := e6 _ _ hj
    unfold cutAddr
    by_cases hc : cap = lo
    · have : hi - lo = 0 := by omega
      rw [this] at hjlt; omega
    · rw [if_neg hc]
      exact ⟨ad.add (lo * sz), rfl, by rw [Addr.add_block]; exact f2, by rw [Addr.add_add]; exact f3⟩

def TypeDesc.wide (d : TypeDesc) : Bool := match d with | .struct _ | .array _ _ => true | _ => false

theorem run_isAgg {P : Program} {ty : TypeId} {d : TypeDesc} (hu : P.underlying ty = some d) (hd : TypeDesc.wide d = true) (w : World) : (isAgg ty).run P w = .ok true w := by
  unfold isAgg
  rw [Sem.run_bind, run_underlying hu w]
  cases d <;> simp_all [TypeDesc.wide]

theorem wpList_load_agg {P : Program} {ops : Array Oper} {rest : List Oper} {o : Oper} {a : Act} {Q : Exit → Act → World → Prop} (hgd : o.guard = none) (ty : TypeId) (x : Operand) (ho : o.op = .load ty x)
    (ad : Addr) (hx : a.eval x = .pointer (some ad)) (cs : List Value) (d : TypeDesc) (hc : ∀ j v, cs[j]? = some v → w.cell? (ad.add j) = some v)
    (hu : P.underlying ty = some d) (hd : TypeDesc.wide d = true) (hi : (P.info? ty).map (·.size) = some cs.length)
    (h : wpList P ops Q rest (a.put o.dst (.agg cs.toArray)) w) : wpList P ops Q (o :: rest) a w := by
  refine wpList_plain hgd fun K hK => ?_
  have hl := run_loadCells_list (P := P) w ad cs hc
  cases hq : P.info? ty with
  | none => simp [hq] at hi
  | some i =>
    have hs : i.size = cs.length := by simpa [hq] using hi
    have hr : (loadVar ty ad).run P w = .ok (.agg cs.toArray) w := by
      simp [loadVar, Sem.run_bind, run_isAgg hu hd, sizeOf, typeInfo, hq, hs, hl]
    unfold Oper.wp execOp
    simp only [ho, hx, Instr.loadAt, Instr.sureAddr, Sem.run_bind, Sem.run_pure, Result.andThen_ok, hr]
    exact hK _ _ h

/-- A block's cells, those from off on written over. -/
def over (c : Array Value) (off : Nat) (vs : List Value) : Array Value := (c.toList.take off ++ vs ++ c.toList.drop (off + vs.length)).toArray

theorem over_size (c : Array Value) (off : Nat) (vs : List Value) (h : off + vs.length ≤ c.size) : (over c off vs).size = c.size := by
  simp [over]; omega

theorem over_get (c : Array Value) (off : Nat) (vs : List Value) (h : off + vs.length ≤ c.size) (i : Nat) : (over c off vs)[i]? = if off ≤ i ∧ i < off + vs.length then vs[i - off]? else c[i]? := by
  have h1 : (c.toList.take off).length = off := by simp; omega
  simp only [over, List.getElem?_toArray]
  rw [List.append_assoc, List.getElem?_append, h1]
  by_cases hi : i < off
  · rw [if_pos hi, if_neg (by omega), List.getElem?_take, if_pos hi]; simp
  · rw [if_neg hi, List.getElem?_append]
    by_cases h2 : i - off < vs.length
    · rw [if_pos h2, if_pos (by omega)]
    · rw [if_neg h2, if_neg (by omega), List.getElem?_drop]
      have : off + vs.length + (i - off - vs.length) = i := by omega
      rw [this]; simp

theorem over_all (c : Array Value) (vs : Array Value) (h : vs.size = c.size) : over c 0 vs.toList = vs := by
  apply Array.ext_getElem?
  intro i
  rw [over_get _ _ _ (by simp; omega)]
  by_cases hi : i < vs.size
  · rw [if_pos (by simp; omega)]; simp
  · rw [if_neg (by simp; omega)]; rw [Array.getElem?_eq_none (by omega), Array.getElem?_eq_none (by omega)]

theorem Blk.row {b : Nat} {c : Array Value} {T : TypeId} (h : Blk w b c T) (cs : Array Value) : Blk (w.setRow b cs) b cs T := by
  unfold Blk at *; exact setRow_heap w b c cs T _ h

theorem Blk.row_other {b : Nat} {c : Array Value} {T : TypeId} (h : Blk w b c T) (k : Nat) (cs : Array Value) (hne : b ≠ k) : Blk (w.setRow k cs) b c T := by
  unfold Blk at *; rw [setRow_other w k b cs hne]; exact h

theorem wpList_store_agg {P : Program} {ops : Array Oper} {rest : List Oper} {o : Oper} {a : Act} {Q : Exit → Act → World → Prop} (hgd : o.guard = none) (ty : TypeId) (x y : Operand) (ho : o.op = .store ty x y)
    (b off : Nat) (hx : a.eval x = .pointer (some ⟨b, off, none⟩)) (vs : Array Value) (hy : a.eval y = .agg vs) (c : Array Value) (T : TypeId) (hg : Blk w b c T)
    (hi : (P.info? ty).map (·.size) = some vs.size) (hl : off + vs.size ≤ c.size) (h1 : ∀ v ∈ vs.toList, v.oneCell' = true)
    (h : wpList P ops Q rest (a.put o.dst undef) (w.setRow b (over c off vs.toList))) : wpList P ops Q (o :: rest) a w := by
  refine wpList_plain hgd fun K hK => ?_
  have hst := run_storeCells_at (P := P) b off T vs.toList 0 c w hg (by simpa using hl) h1
  cases hq : P.info? ty with
  | none => simp [hq] at hi
  | some i =>
    have hs : i.size = vs.size := by simpa [hq] using hi
    have hr : (storeVar ty ⟨b, off, none⟩ (.agg vs)).run P w = .ok () (w.setRow b (over c off vs.toList)) := by
      simp only [Nat.add_zero] at hst
      simp [storeVar, Sem.run_bind, sizeOf, typeInfo, hq, hs, Value.cells, hst, over]
    unfold Oper.wp execOp
    simp only [ho, hx, hy, Instr.storeAt, Instr.sureAddr, Sem.run_bind, Sem.run_pure, Result.andThen_ok, hr]
    exact hK _ _ h

theorem wp_gen {P : Program} {c : Code} {Q : Exit → Act → World → Prop} {a : Act} (h : ∀ W, W = w → c.wp P Q a W) : c.wp P Q a w := h w rfl
theorem list_gen {P : Program} {ops : Array Oper} {Q : Exit → Act → World → Prop} {l : List Oper} {a : Act} (h : ∀ W, W = w → wpList P ops Q l a W) : wpList P ops Q l a w := h w rfl
theorem calls_gen {P : Program} {f : FuncId} {args : Array Value} {R : Ending → World → Prop} (h : ∀ W, W = w → Calls P f args W R) : Calls P f args w R := h w rfl

theorem run_sizeOf {P : Program} {e : TypeId} {sz : Nat} (hs : (P.info? e).map (·.size) = some sz) (w : World) : (sizeOf e).run P w = .ok sz w := by
  cases hq : P.info? e with
  | none => simp [hq] at hs
  | some i =>
    have : i.size = sz := by simpa [hq] using hs
    simp [sizeOf, typeInfo, hq, this]

theorem Sl.slice_lh {P : Program} {t : TypeId} (ht : P.underlying t = some (.slice (P.elem t))) (hs : (P.info? (P.elem t)).map (·.size) = some sz) (h : Sl F w sz v n xs) (lo hi : Nat) (h1 : lo ≤ hi) (h2 : hi ≤ n) :
    ∃ v', (∀ w', (Instr.slice t v (some (.int .i64 (lo : Int))) (some (.int .i64 (hi : Int))) none).run P w' = .ok v' w') ∧ Sl F w sz v' (hi - lo) ((xs.drop (lo * sz)).take ((hi - lo) * sz)) := by
  obtain ⟨a, cap, rfl, e2, e3, _⟩ := h.ex
  refine ⟨_, fun w' => ?_, h.cut lo hi h1 h2⟩
  rw [run_slice_lh w' t a n cap ht .i64 .i64 lo hi (by omega) (by omega) (by omega), run_sizeOf hs]
  rfl

theorem Sl.slice_l {P : Program} {t : TypeId} (ht : P.underlying t = some (.slice (P.elem t))) (hs : (P.info? (P.elem t)).map (·.size) = some sz) (h : Sl F w sz v n xs) (lo : Nat) (h1 : lo ≤ n) :
    ∃ v', (∀ w', (Instr.slice t v (some (.int .i64 (lo : Int))) none none).run P w' = .ok v' w') ∧ Sl F w sz v' (n - lo) ((xs.drop (lo * sz)).take ((n - lo) * sz)) := by
  obtain ⟨a, cap, rfl, e2, e3, _⟩ := h.ex
  refine ⟨_, fun w' => ?_, h.cut lo n h1 (Nat.le_refl _)⟩
  rw [run_slice_l w' t a n cap ht .i64 lo (by omega) (by omega), run_sizeOf hs]
  rfl

theorem Sl.slice_h {P : Program} {t : TypeId} (ht : P.underlying t = some (.slice (P.elem t))) (hs : (P.info? (P.elem t)).map (·.size) = some sz) (h : Sl F w sz v n xs) (hi : Nat) (h2 : hi ≤ n) :
    ∃ v', (∀ w', (Instr.slice t v none (some (.int .i64 (hi : Int))) none).run P w' = .ok v' w') ∧ Sl F w sz v' hi (xs.take (hi * sz)) := by
  obtain ⟨a, cap, rfl, e2, e3, _⟩ := h.ex
  have hc := h.cut 0 hi (Nat.zero_le _) h2
  simp only [Nat.sub_zero, Nat.zero_mul, List.drop_zero] at hc
  refine ⟨_, fun w' => ?_, hc⟩
  rw [run_slice_h w' t a n cap ht .i64 hi (by omega) (by omega), run_sizeOf hs]
  simp [Result.andThen, sliced, cutAddr]

theorem wpList_append_sl {P : Program} {ops : Array Oper} {rest : List Oper} {o : Oper} {a : Act} {Q : Exit → Act → World → Prop} (hgd : o.guard = none) (s x : Operand) (t : TypeId)
    (ho : o.op = .call { callee := .builtin .append, args := #[s, x], argTypes := #[t, t] })
    (base : Nat) (e : TypeId) (i : TypeInfo) (z : Value) (size bytes : Nat) (ht : P.underlying t = some (.slice e)) (hi : P.info? e = some i) (hz : i.zero = some z)
    (hsize : i.size = size) (hby : i.bytes = bytes) (hzs : z.cells.size = size) (hsz : 0 < size)
    (v : Value) (n : Nat) (xs : List Value) (hs : a.eval s = v) (hown : w.ownsRow base e size v n xs)
    (x' : Value) (m : Nat) (news : List Value) (hx : a.eval x = x') (hsl : Sl F w size x' m news) (h1 : ∀ u ∈ news, u.oneCell' = true)
    (h63 : n + m ≤ maxLen) (hbytes : (n + m) * bytes ≤ 140737488355328) (hbase : base ≤ w.heap.size)
    (h : ∀ v' w', w'.ownsRow base e size v' (n + m) (xs ++ news) → w.grownBy w' v.ownBlock → (v' = .slice none 0 0 ↔ v = .slice none 0 0 ∧ m = 0) → wpList P ops Q rest (a.put o.dst v') w') : wpList P ops Q (o :: rest) a w := by
  obtain ⟨ad, cap, rfl, e2, e3, e4, e5, e6⟩ := hsl.ex
  cases ad with
  | some ad =>
    refine wpList_append_own w hgd s x t ho base e i z size bytes ht hi hz hsize hby hzs hsz v n xs hs hown ad m cap news hx e5 (fun j u hj => ?_) h1 h63 hbytes hbase h
    obtain ⟨ad', f1, _, f3⟩ := e6 j u hj
    injection f1 with f1; subst f1; exact f3
  | none =>
    have hc := e4 rfl
    subst hc
    have hm : m = 0 := by omega
    subst hm
    have hne : news = [] := List.eq_nil_of_length_eq_zero (by simpa using e5)
    subst hne
    refine wpList_append_own_none hgd s x t ho base e i size ht hi v n xs hs hown hx ?_
    exact h v w (by simpa using hown) (World.grownBy.refl _ _) (by simp)

end Go.Proofs.Ytkpbkhbgiijbiaa
