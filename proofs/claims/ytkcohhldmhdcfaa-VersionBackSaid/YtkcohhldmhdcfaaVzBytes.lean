/- Byte slices; the statements' own helper Own. -/
import Derived.Test.YtkcohhldmhdcfaaRows
import Derived.Test.YtkcohhldmhdcfaaVzMem
import Derived.Lib.SlBytesConst
import Derived.Lib.SliceRun
namespace Go.Proofs.Ytkcohhldmhdcfaa
open Go.RowKit

def u8s (bs : List UInt8) : List Value := bs.map fun b => .int .u8 (b.toNat : Int)

theorem u8s_len (bs : List UInt8) : (u8s bs).length = bs.length := by simp [u8s]
theorem u8s_one (bs : List UInt8) : ∀ u ∈ u8s bs, u.oneCell' = true := by
  intro u hu; simp only [u8s, List.mem_map] at hu; obtain ⟨b, _, rfl⟩ := hu; rfl
theorem u8s_get (bs : List UInt8) (i : Nat) (h : i < bs.length) : (u8s bs)[i]? = some (.int .u8 ((bs.getD i 0).toNat : Int)) := by
  simp [u8s, List.getD, h]
theorem u8s_drop (bs : List UInt8) (k : Nat) : (u8s bs).drop k = u8s (bs.drop k) := by simp [u8s]
theorem u8s_take (bs : List UInt8) (k : Nat) : (u8s bs).take k = u8s (bs.take k) := by simp [u8s]
theorem u8s_append (a b : List UInt8) : u8s (a ++ b) = u8s a ++ u8s b := by simp [u8s]

/-- The slice value v reads, in the world w, as the bytes bs. -/
def Bytes (F : Nat → Prop) (w : World) (v : Value) (bs : List UInt8) : Prop := Sl F w 1 v bs.length (u8s bs)

/-- It does, and its row is the call's own (from block base on), or it is nil. -/
def Owned (base : Nat) (w : World) (v : Value) (bs : List UInt8) : Prop := w.ownsRow base 5 1 v bs.length (u8s bs)

theorem info_u8 : (Try.prog.info? 5).map (fun i => (i.zero, i.size, i.bytes)) = some (some (.int .u8 0), 1, 1) := by kernel_rfl

theorem Bytes.cells {F : Nat → Prop} {w : World} {v : Value} {bs : List UInt8} (h : Bytes F w v bs) :
    ∃ a cap, v = .slice a bs.length cap ∧ ∀ i, i < bs.length → ∃ ad, a = some ad ∧ F ad.block ∧ w.cell? (ad.add i) = some (.int .u8 ((bs.getD i 0).toNat : Int)) := by
  obtain ⟨a, cap, h1, h2, h3, h4, h5, h6⟩ := Sl.ex h
  exact ⟨a, cap, h1, fun i hi => h6 i _ (u8s_get bs i hi)⟩

theorem Bytes.len {F : Nat → Prop} {w : World} {v : Value} {bs : List UInt8} (h : Bytes F w v bs) : bs.length ≤ maxLen := Sl.le h
theorem Bytes.keep {F : Nat → Prop} {w w' : World} {v : Value} {bs : List UInt8} (h : Bytes F w v bs) (hk : ∀ k, k < w.heap.size → F k → w'.heap[k]? = w.heap[k]?) : Bytes F w' v bs := Sl.keep h hk
theorem Bytes.mono {F F' : Nat → Prop} {w : World} {v : Value} {bs : List UInt8} (h : Bytes F w v bs) (hk : ∀ k, k < w.heap.size → F k → F' k) : Bytes F' w v bs := Sl.mono h hk
theorem Bytes.below {F : Nat → Prop} {w w' : World} {v : Value} {bs : List UInt8} (h : Bytes F w v bs) (hb : Below w.heap.size w w') : Bytes F w' v bs := Sl.below h hb
theorem Owned.bytes {base : Nat} {w : World} {v : Value} {bs : List UInt8} (h : Owned base w v bs) : Bytes (fun k => v.ownBlock = some k) w v bs := Sl.of_owns h
theorem Owned.bytesFrom {base : Nat} {w : World} {v : Value} {bs : List UInt8} (h : Owned base w v bs) : Bytes (fun k => base ≤ k) w v bs :=
  (Owned.bytes h).mono fun k _ hk => (World.ownsRow.lt h k hk).1

theorem Bytes.lit {w : World} {b : Nat} {c : Array Value} {T : TypeId} {fr : Nat × Nat} (bs : List UInt8) (n : Nat) (hn : n = bs.length) (h : w.heap[b]? = some (.cells c T fr)) (hc : c = (u8s bs).toArray) (hm : n ≤ maxLen) :
    Bytes (fun k => k = b) w (.slice (some ⟨b, 0, none⟩) n n) bs := by
  subst hn hc
  refine ⟨some ⟨b, 0, none⟩, _, rfl, Nat.le_refl _, hm, by simp, by simp [u8s], fun j u hj => ⟨_, rfl, rfl, ?_⟩⟩
  have e1 : (⟨b, 0, none⟩ : Addr).add j = ⟨b, j, none⟩ := by unfold Addr.add; split <;> simp_all
  rw [e1, cell_of_row w b j _ T fr h]
  simpa using hj

theorem Bytes.part {w : World} {b : Nat} {c : Array Value} {T : TypeId} {fr : Nat × Nat} (all : List UInt8) (off n cap : Nat) (bs : List UInt8) (h : w.heap[b]? = some (.cells c T fr)) (hc : c = (u8s all).toArray) (hbs : bs = (all.drop off).take n) (hn : off + n ≤ all.length) (hcap : n ≤ cap) (hm : cap ≤ maxLen) :
    Bytes (fun k => k = b) w (.slice (some ⟨b, off, none⟩) n cap) bs := by
  subst hbs hc
  have hl : ((all.drop off).take n).length = n := by simp; omega
  unfold Bytes
  rw [hl]
  refine ⟨some ⟨b, off, none⟩, _, rfl, hcap, hm, by simp, by simp [u8s]; omega, fun j u hj => ⟨_, rfl, rfl, ?_⟩⟩
  rw [add_plain', cell_of_row w b (off + j) _ T fr h]
  have hj2 : j < n := by
    rcases Nat.lt_or_ge j n with h | h
    · exact h
    · rw [List.getElem?_eq_none (by rw [u8s_len, hl]; exact h)] at hj; cases hj
  rw [← u8s_take, ← u8s_drop, List.getElem?_take, if_pos hj2, List.getElem?_drop] at hj
  simpa using hj

theorem Bytes.const (w : World) (bs : List UInt8) (n : Nat) (c : Array Value) (T : TypeId) (fr : Nat × Nat) (hn : n = bs.length) (hc : c = (u8s bs).toArray) (hm : n ≤ 1000) :
    Bytes (fun k => k = w.heap.size) (w.alloc (.cells c T fr)) (.slice (some ⟨w.heap.size, 0, none⟩) n n) bs :=
  Bytes.lit bs n hn (heap_alloc_new w _) hc (by simp [maxLen]; omega)

theorem conv_const (w : World) (C : Array Value) (n c : Nat) : (convert 34 34 (.slice (some ⟨w.heap.size, 0, none⟩) n c)).run Try.prog (w.alloc (.cells C 5)) = .ok (.slice (some ⟨w.heap.size, 0, none⟩) n c) (w.alloc (.cells C 5 (C.size, C.size + 1))) :=
  Lib.run_convert_bytes_const (P := Try.prog) w 34 5 C n c Try.underlying34 Try.underlying5

theorem size_u8 : (Try.prog.info? (Try.prog.elem 34)).map (·.size) = some 1 := by kernel_rfl
theorem under_bytes : Try.prog.underlying 34 = some (.slice (Try.prog.elem 34)) := by kernel_rfl

theorem Bytes.slice_lh {F : Nat → Prop} {w : World} {v : Value} {bs : List UInt8} (h : Bytes F w v bs) (lo hi : Nat) (h1 : lo ≤ hi) (h2 : hi ≤ bs.length) :
    ∃ v', (∀ w', (Instr.slice 34 v (some (.int .i64 (lo : Int))) (some (.int .i64 (hi : Int))) none).run Try.prog w' = .ok v' w') ∧ Bytes F w v' ((bs.drop lo).take (hi - lo)) := by
  obtain ⟨v', hr, hs⟩ := Sl.slice_lh under_bytes size_u8 h lo hi h1 h2
  rw [Nat.mul_one, Nat.mul_one, u8s_drop, u8s_take] at hs
  refine ⟨v', hr, ?_⟩
  have : ((bs.drop lo).take (hi - lo)).length = hi - lo := by simp; omega
  unfold Bytes; rw [this]; exact hs

theorem Bytes.slice_l {F : Nat → Prop} {w : World} {v : Value} {bs : List UInt8} (h : Bytes F w v bs) (lo : Nat) (h1 : lo ≤ bs.length) :
    ∃ v', (∀ w', (Instr.slice 34 v (some (.int .i64 (lo : Int))) none none).run Try.prog w' = .ok v' w') ∧ Bytes F w v' (bs.drop lo) := by
  obtain ⟨v', hr, hs⟩ := Sl.slice_l under_bytes size_u8 h lo h1
  rw [Nat.mul_one, Nat.mul_one, u8s_drop, u8s_take, List.take_of_length_le (by simp)] at hs
  refine ⟨v', hr, ?_⟩
  unfold Bytes; rw [List.length_drop]; exact hs

theorem Bytes.nil (F : Nat → Prop) (w : World) : Bytes F w (.slice none 0 0) [] := Sl.nil F w 1

theorem Owned.below {base : Nat} {w w' : World} {v : Value} {bs : List UInt8} (h : Owned base w v bs) (hb : Below w.heap.size w w') : Owned base w' v bs :=
  ownsRow_same h fun k hk _ => hb.block k hk
theorem Owned.keep {base : Nat} {w w' : World} {v : Value} {bs : List UInt8} (h : Owned base w v bs) (hk : ∀ k, k < w.heap.size → v.ownBlock = some k → w'.heap[k]? = w.heap[k]?) : Owned base w' v bs :=
  ownsRow_same h hk
theorem Owned.base {base base' : Nat} {w : World} {v : Value} {bs : List UInt8} (h : Owned base w v bs) (hb : base' ≤ base) : Owned base' w v bs := ownsRow_base h hb
theorem Owned.isSlice {base : Nat} {w : World} {v : Value} {bs : List UInt8} (h : Owned base w v bs) : ∃ a n c, v = .slice a n c := by
  rcases h.2 with ⟨e, _⟩ | ⟨g, c, _, e, _⟩
  · exact ⟨_, _, _, e⟩
  · exact ⟨_, _, _, e⟩
theorem Bytes.isSlice {F : Nat → Prop} {w : World} {v : Value} {bs : List UInt8} (h : Bytes F w v bs) : ∃ a c, v = .slice a bs.length c := by
  obtain ⟨a, c, e, _⟩ := Sl.ex h; exact ⟨a, c, e⟩
theorem Owned.nil (base : Nat) (w : World) : Owned base w (.slice none 0 0) [] := World.ownsRow_nil _ _ _ _
theorem Grew.bytes {F : Nat → Prop} {w w' : World} {v v' v2 : Value} {bs : List UInt8} (h : Grew w w' v v') (hs : Bytes F w v2 bs) (hF : ∀ k, F k → v.ownBlock ≠ some k) : Bytes F w' v2 bs := Grew.keep h hs hF

/-- append of bytes to a row of the call's own. -/
theorem wp_append_bytes {o : Oper} {a : Act} {w : World} {K : Act → World → Prop} {Q : Exit → Act → World → Prop} (F : Nat → Prop) (base : Nat) (v : Value) (xs : List UInt8) (x' : Value) (news : List UInt8) (s x : Operand)
    (ho : o.op = .call { callee := .builtin .append, args := #[s, x], argTypes := #[34, 34] })
    (hs : a.eval s = v) (hx : a.eval x = x') (hown : Owned base w v xs) (hsrc : Bytes F w x' news) (hlen : xs.length + news.length ≤ 140737488355328) (hbase : base ≤ w.heap.size)
    (h : ∀ v' w', Owned base w' v' (xs ++ news) → Grew w w' v v' → K (a.put o.dst v') w') : o.wp Try.prog a w K Q := by
  obtain ⟨i0, hi, hz0, hz1, hz2⟩ := info_parts info_u8
  refine wp_append_grew (F := F) s x 34 ho base 5 i0 (.int .u8 0) 1 1 Try.underlying34 hi hz0 hz1 hz2 rfl (by decide) v xs.length (u8s xs) hs hown x' news.length (u8s news) hx hsrc (u8s_one _) (by simp only [maxLen]; omega) (by omega) hbase ?_
  intro v' w' h1 h2 _
  refine h v' w' ?_ h2
  unfold Owned
  rw [u8s_append, List.length_append]
  exact h1

theorem wpList_append_bytes {ops : Array Oper} {rest : List Oper} {o : Oper} {a : Act} {w : World} {Q : Exit → Act → World → Prop} (F : Nat → Prop) (base : Nat) (v : Value) (xs : List UInt8) (x' : Value) (news : List UInt8) (hgd : o.guard = none) (s x : Operand)
    (ho : o.op = .call { callee := .builtin .append, args := #[s, x], argTypes := #[34, 34] })
    (hs : a.eval s = v) (hx : a.eval x = x') (hown : Owned base w v xs) (hsrc : Bytes F w x' news) (hlen : xs.length + news.length ≤ 140737488355328) (hbase : base ≤ w.heap.size)
    (h : ∀ v' w', Owned base w' v' (xs ++ news) → Grew w w' v v' → wpList Try.prog ops Q rest (a.put o.dst v') w') : wpList Try.prog ops Q (o :: rest) a w :=
  wpList_plain hgd fun _ hK => wp_append_bytes F base v xs x' news s x ho hs hx hown hsrc hlen hbase fun v' w' h1 h2 => hK _ _ (h v' w' h1 h2)

set_option maxRecDepth 100000 in
theorem clone_any (F : Nat → Prop) (v : Value) (bs : List UInt8) (w : World) (h : Bytes F w v bs) (hl : bs.length ≤ 140737488355328) :
    Calls Try.prog 61 #[v] w fun e w' => ∃ v', e = .returned v' ∧ Owned w.heap.size w' v' bs ∧ Below w.heap.size w w' := by
  obtain ⟨a, cap, rfl, e2, e3, e4, e5, e6⟩ := Sl.ex h
  have hnil := fun w => Lib.run_eql_slice_nil (P := Try.prog) w 34 5 a bs.length cap 0 0 Try.underlying34
  cases a with
  | none =>
    have hc := e4 rfl
    subst hc
    have hb : bs = [] := List.eq_nil_of_length_eq_zero (by omega)
    subst hb
    clear h e2 e3 e4 e5 e6 hl
    simp only [List.length_nil] at hnil ⊢
    go_enter Try.func61, Try.ntmps61
    go_wp2
    go_ret
    exact ⟨_, rfl, World.ownsRow_nil _ _ _ _, Below.refl _ _⟩
  | some ad =>
    obtain ⟨i0, hi, hz0, hz1, hz2⟩ := info_parts info_u8
    have HS := Lib.hid h; clear h e2 e3 e4 e5 e6
    have HI := Lib.hid (And.intro hi (And.intro hz0 (And.intro hz1 hz2))); clear hi hz0 hz1 hz2
    go_enter Try.func61, Try.ntmps61
    go_wp2_with (at_builtin; refine wpList_append_sl (F := F) rfl _ _ 34 rfl w.heap.size 5 i0 (.int .u8 0) 1 1 Try.underlying34 HI.out.1 HI.out.2.1 HI.out.2.2.1 HI.out.2.2.2 rfl (by decide) _ 0 [] rfl ?_ _ bs.length (u8s bs) rfl ?_ (u8s_one bs) ?_ ?_ ?_ ?_)
    · exact World.ownsRow_lit w #[] 0 (Nat.le_refl _) (by simp [maxLen]) rfl
    · exact Sl.below HS.out ((Below.refl _ _).alloc (Nat.le_refl _) _)
    · have := Bytes.len HS.out; omega
    · omega
    · simp
    · intro v' w1 ho hg _
      have HO := Lib.hid ho; have HG := Lib.hid hg; clear ho hg
      go_wp2
      go_ret
      refine ⟨v', rfl, ?_, ((Below.refl w.heap.size w).alloc (Nat.le_refl _) _).grown HG.out (by simp) (by simp [Value.ownBlock])⟩
      unfold Owned
      simpa using HO.out

end Go.Proofs.Ytkcohhldmhdcfaa
