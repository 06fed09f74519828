/- slices.DeleteFunc, slices.IndexFunc over entries, with compact's closure; clear. -/
import Derived.Test.YtmpapipobjoboaaCoD
namespace Go.Proofs.Ytmpapipobjoboaa
open Go.RowKit

theorem zeroCells_one {z : Array Value} (h1 : ∀ v ∈ z.toList, v.oneCell' = true) (hz : 0 < z.size) (n : Nat) : ∀ v ∈ (Builtin.zeroCells z n).toList, v.oneCell' = true := by
  intro v hv
  unfold Builtin.zeroCells at hv
  rw [Array.toList_map] at hv
  obtain ⟨i, _, rfl⟩ := List.mem_map.1 hv
  have hlt : i % z.size < z.size := Nat.mod_lt _ hz
  rw [getElem!_pos z _ hlt]
  exact h1 _ (Array.mem_toList_iff.2 (Array.getElem_mem hlt))
theorem zeroCells_size (z : Array Value) (n : Nat) : (Builtin.zeroCells z n).toList.length = n * z.size := by simp [Builtin.zeroCells]

theorem Wrote.setRow1 {w : World} {b : Nat} {c c' : Array Value} {T : TypeId} (_h : Blk w b c T) : Wrote (fun k => k = b) w (w.setRow b c') :=
  Wrote.setRow (S := fun k => k = b) (Wrote.of_below (Below.refl _ _)) (.inl rfl) _

/-- clear of a part of a block. -/
theorem wpList_clear {P : Program} {ops : Array Oper} {rest : List Oper} {o : Oper} {a : Act} {w : World} {Q : Exit → Act → World → Prop} (hgd : o.guard = none) (t e : TypeId) (z : Value) (x : Operand)
    (ho : o.op = .call { callee := .builtin .clear, args := #[x], argTypes := #[t] }) (ht : P.underlying t = some (.slice e)) (hv : ∀ w, (zeroValue e).run P w = .ok z w)
    (b off n cap : Nat) (hx : a.eval x = .slice (some ⟨b, off, none⟩) n cap) (c : Array Value) (T : TypeId) (hg : Blk w b c T) (hz : 0 < z.cells.size) (hl : off + n * z.cells.size ≤ c.size) (h1 : ∀ v ∈ z.cells.toList, v.oneCell' = true)
    (h : ∀ w' c', Blk w' b c' T → c'.size = c.size → (∀ i, i < off → c'[i]? = c[i]?) → Wrote (fun k => k = b) w w' → wpList P ops Q rest (a.put o.dst (.tuple #[])) w') : wpList P ops Q (o :: rest) a w := by
  refine wpList_plain hgd fun K hK => ?_
  have hst := run_storeCells_at (P := P) b off T (Builtin.zeroCells z.cells n).toList 0 c w hg (by rw [zeroCells_size]; simpa using hl) (zeroCells_one h1 hz n)
  simp only [Nat.add_zero] at hst
  cases n with
  | zero =>
    have hr : (Builtin.clear_ #[t] o.type #[.slice (some ⟨b, off, none⟩) 0 cap]).run P w = .ok (.tuple #[]) w := by
      simp [Builtin.clear_, run_underlying ht]
    unfold Oper.wp execOp
    simp only [ho, resolve, invoke, builtin, Sem.run_bind, Sem.run_pure, Result.andThen_ok, List.map_toArray, List.map_cons, List.map_nil, hx, hr]
    exact hK _ _ (h w c hg rfl (fun _ _ => rfl) (Wrote.of_below (Below.refl _ _)))
  | succ n =>
    have hr : (Builtin.clear_ #[t] o.type #[.slice (some ⟨b, off, none⟩) (n + 1) cap]).run P w = .ok (.tuple #[]) (w.setRow b (over c off (Builtin.zeroCells z.cells (n + 1)).toList)) := by
      simp [Builtin.clear_, run_underlying ht, hv, hst, over]
    unfold Oper.wp execOp
    simp only [ho, resolve, invoke, builtin, Sem.run_bind, Sem.run_pure, Result.andThen_ok, List.map_toArray, List.map_cons, List.map_nil, hx, hr]
    refine hK _ _ (h _ _ (hg.row _) (over_size _ _ _ (by rw [zeroCells_size]; exact hl)) (fun i hi => ?_) (Wrote.setRow1 hg))
    rw [over_get _ _ _ (by rw [zeroCells_size]; exact hl), if_neg (by omega)]
theorem pause_clear {P : Program} {ops : Array Oper} {Q : Exit → Act → World → Prop} {rest : List Oper} {a : Act} {dst : Option Tmp} {ty : TypeId} {pos : String} {after : Array Go.Edge} {guard : Option (Nat × Bool)} {w : World} {xs : Array Operand} {ts : Array TypeId} (h : Pause (wpList P ops Q (⟨dst, .call ⟨.builtin .clear, xs, ts⟩, ty, pos, after, guard⟩ :: rest) a w)) : wpList P ops Q (⟨dst, .call ⟨.builtin .clear, xs, ts⟩, ty, pos, after, guard⟩ :: rest) a w := h

def zeroEnt : Value := .agg #[.slice none 0 0, .int .u64 0, .int .i64 0, .slice none 0 0]
theorem zero_ent (w : World) : (zeroValue 29).run Try.prog w = .ok zeroEnt w := by kernel_rfl

/-- What the closure holds: how often it was called, and what is seen. -/
structure Clo (ib sb ob k n : Nat) (f : Nat → Bool) (w : World) : Prop where
  i : Blk w ib #[.int .i64 ((k : Int) - 1)] 3
  s : w.cell? ⟨sb, 0, none⟩ = some (.slice (some ⟨ob, 0, none⟩) n n)
  b : Bl ob w f n
  ne1 : ib ≠ sb
  ne2 : ib ≠ ob
  lt : sb < w.heap.size
theorem Clo.keep {ib sb ob k n : Nat} {f : Nat → Bool} {w w' : World} {S : Nat → Prop} (h : Clo ib sb ob k n f w) (hw : Wrote S w w') (h1 : ¬ S ib) (h2 : ¬ S sb) (h3 : ¬ S ob) : Clo ib sb ob k n f w' := by
  obtain ⟨cs, b1, b2⟩ := h.b.ex
  exact ⟨h.i.same (hw.block _ h.i.lt h1), (World.cell?_of_block (w := w) (hw.block sb h.lt h2)).trans h.s, ⟨cs, b1.same (hw.block _ b1.lt h3), b2⟩, h.ne1, h.ne2, Nat.lt_of_lt_of_le h.lt hw.size⟩

set_option maxRecDepth 100000 in
set_option maxHeartbeats 1000000 in
theorem clo_any (ib sb ob k n : Nat) (f : Nat → Bool) (e : Ent) (vk vv : Value) (w : World) (h : Clo ib sb ob k n f w) (hk : k < n) (hn : n ≤ 1000000) :
    Calls Try.prog 69 #[.agg (entCells e vk vv).toArray, .pointer (some ⟨ib, 0, none⟩), .pointer (some ⟨sb, 0, none⟩)] w fun x w' => x = .returned (.bool (!f k)) ∧ Wrote (fun j => j = ib) w w' ∧ Clo ib sb ob (k + 1) n f w' := by
  have HC := Lib.hid h
  clear h
  have t1 : IntKind.i64.wrap ((k : Int) - 1 + 1) = (k : Int) := by rw [wrap_small (by omega) (by omega)]; omega
  have t2 : (k : Int) < (n : Int) := by omega
  have t3 : 0 ≤ (k : Int) := by omega
  unfold entCells
  go_enter Try.func69, Try.ntmps69
  go_upto_region 1 with fail
  refine wp_gen fun w1 hw1 => ?_
  have HB1 : Hid (Below w.heap.size w w1) := by rw [hw1]; exact (Below.refl _ _).alloc (Nat.le_refl _) _
  clear hw1
  have HC1 : Hid (Clo ib sb ob k n f w1) := HC.out.keep (S := fun _ => False) (Wrote.of_below HB1.out) id id id
  clear HC
  have c0 := HC1.out.i.cell (i := 0) rfl
  have z0 := HC1.out.i.free 0
  go_upto_region 2 with fail
  refine wp_gen fun w2 hw2 => ?_
  have HI2 : Hid (Blk w2 ib #[.int .i64 (k : Int)] 3) := by rw [hw2]; exact HC1.out.i.set 0 _
  have HW2 : Hid (Wrote (fun j => j = ib) w1 w2) := by rw [hw2]; exact (Wrote.of_below (Below.refl _ _)).setCell _ _ (.inl rfl)
  clear hw2 c0 z0
  have HBL : Hid (Bl ob w2 f n) := by
    obtain ⟨cs, b1, b2⟩ := HC1.out.b.ex
    exact ⟨cs, b1.same (HW2.out.block _ b1.lt fun e => HC1.out.ne2 e.symm), b2⟩
  have c1 : w2.cell? ⟨sb, 0, none⟩ = some (.slice (some ⟨ob, 0, none⟩) n n) := (World.cell?_of_block (w := w1) (HW2.out.block sb HC1.out.lt fun e => HC1.out.ne1 e.symm)).trans HC1.out.s
  have HS : Hid (w2.cell? ⟨sb, 0, none⟩ = some (.slice (some ⟨ob, 0, none⟩) n n)) := c1
  have c0 := HI2.out.cell (i := 0) rfl
  have c2 := HBL.out.cell hk
  have HR : Hid (Wrote (fun j => j = ib) w w2 ∧ Clo ib sb ob (k + 1) n f w2) := ⟨(Wrote.of_below HB1.out).trans HW2.out, ⟨by rw [show (((k + 1 : Nat) : Int) - 1) = (k : Int) by omega]; exact HI2.out, HS.out, HBL.out, HC1.out.ne1, HC1.out.ne2, Nat.lt_of_lt_of_le HC1.out.lt HW2.out.size⟩⟩
  obtain ⟨b, hb⟩ : ∃ b, f k = b := ⟨_, rfl⟩
  have HFB : Hid ((!b) = !f k) := by show _ = _; rw [hb]
  rw [hb] at c2
  clear hb
  go_wp2_with fail
  go_ret
  exact ⟨ret_bool HFB.out, HR.out⟩

theorem clo_at {r : Bool} (ib sb ob k n : Nat) (f : Nat → Bool) (e : Ent) (vk vv : Value) (w : World) (h : Clo ib sb ob k n f w) (hk : k < n) (hn : n ≤ 1000000) (hr : f k = r) :
    Calls Try.prog 69 #[.agg (entCells e vk vv).toArray, .pointer (some ⟨ib, 0, none⟩), .pointer (some ⟨sb, 0, none⟩)] w fun x w' => x = .returned (.bool (!r)) ∧ Wrote (fun j => j = ib) w w' ∧ Clo ib sb ob (k + 1) n f w' := by
  subst hr; exact clo_any ib sb ob k n f e vk vv w h hk hn

/-- The first that is not kept, or none. -/
structure FirstOff (f : Nat → Bool) (n p : Nat) : Prop where
  le : p ≤ n
  on : ∀ j, j < p → f j = true
  off : p < n → f p = false

set_option maxRecDepth 100000 in
set_option maxHeartbeats 2000000 in
theorem indexf_any (F : Nat → Prop) (ib sb ob : Nat) (f : Nat → Bool) (v : Value) (l : List Ent) (w : World) (h : Rw entK F w v l) (hF : ∀ k, F k → k ≠ ib) (hc : Clo ib sb ob 0 l.length f w) (hfew : l.length ≤ 400000) :
    Calls Try.prog 82 #[v, .func (.func 69) #[] #[.pointer (some ⟨ib, 0, none⟩), .pointer (some ⟨sb, 0, none⟩)]] w fun x w' => ∃ p, FirstOff f l.length p ∧ x = .returned (.int .i64 (if p < l.length then (p : Int) else -1)) ∧ Wrote (fun j => j = ib) w w' ∧ Clo ib sb ob (if p < l.length then p + 1 else p) l.length f w' := by
  obtain ⟨xa, ca, rfl⟩ := h.isSlice
  have HA := Lib.hid h
  have HF := Lib.hid hF
  have HC := Lib.hid hc
  clear h hF hc
  obtain ⟨n, hn⟩ : ∃ n, l.length = n := ⟨_, rfl⟩
  have HN := Lib.hid hn
  rw [hn] at HA HC hfew
  rw [hn]
  clear hn
  go_enter Try.func82, Try.ntmps82
  go_wp2_with fail
  go_loopw [8] (fun iv wr => ∃ (j : Nat), iv = .int .i64 (j : Int) ∧ j ≤ n ∧ Hid (∀ i, i < j → f i = true) ∧ Hid (Wrote (fun j => j = ib) w wr) ∧ Hid (Clo ib sb ob j n f wr)) (fun iv _ => n - (intOf iv).toNat)
  case atStart => exact ⟨0, rfl, by omega, (fun i hi => by omega), Wrote.of_below (Below.refl _ _), HC.out⟩
  case round =>
    obtain ⟨j, rfl, hj, HO, HW, HCj⟩ := hrel
    clear HC
    by_cases hlt : j < n
    · have t1 : (j : Int) < (n : Int) := by omega
      have t3 : 0 ≤ (j : Int) := by omega
      have hl1 : j < l.length := by rw [HN.out]; omega
      obtain ⟨ba, oa, capa, ea, _, hba, hca⟩ := ents_at (HA.out.keep (w' := wr) fun k hk hFk => HW.out.block k hk (HF.out k hFk)) (by omega)
      obtain ⟨k1, v1, hk1, hv1, c0, c1, c2, c3⟩ := hca j hl1
      injection ea with e1 e2 e3
      subst e1 e3
      clear e2 hca
      rw [eat_eq hl1] at hk1 hv1 c1 c2
      obtain ⟨k1a, k1c, rfl⟩ := hk1.isSlice
      obtain ⟨v1a, v1c, rfl⟩ := hv1.isSlice
      clear hk1 hv1 hba hl1
      obtain ⟨r, hr⟩ : ∃ r, f j = r := ⟨_, rfl⟩
      have HR := Lib.hid hr
      generalize eat l j = e at *
      clear hr
      go_wp2_with fail
      refine Calls.mono (clo_at ib sb ob j n f e (.slice k1a e.key.length k1c) (.slice v1a e.value.length v1c) _ HCj.out hlt (by omega) HR.out) ?_
      rintro _ w2 ⟨rfl, hw2, hc2⟩
      have HW2 : Hid (Wrote (fun j => j = ib) w w2) := HW.out.trans hw2
      have HC2 := Lib.hid hc2
      clear hw2 hc2 c0 c1 c2 c3 HCj HW
      cases r with
      | true =>
        go_wp2_with fail
        go_roundw
        · exact ⟨j + 1, by go_num, by omega, (fun i hi => by
            by_cases e0 : i = j
            · rw [e0]; exact HR.out
            · exact HO.out i (by omega)), HW2.out, HC2.out⟩
        · simp only [intOf]; omega
      | false =>
        go_wp2_with fail
        go_ret
        exact ⟨j, ⟨by omega, HO.out, fun _ => HR.out⟩, by rw [if_pos hlt]; rfl, HW2.out, by rw [if_pos hlt]; exact HC2.out⟩
    · have t1 : ¬ (j : Int) < (n : Int) := by omega
      have hjn : j = n := by omega
      go_wp2_with fail
      go_ret
      exact ⟨j, ⟨by omega, HO.out, fun h => by omega⟩, by rw [if_neg hlt]; rfl, HW.out, by rw [if_neg hlt]; exact HCj.out⟩
end Go.Proofs.Ytmpapipobjoboaa
