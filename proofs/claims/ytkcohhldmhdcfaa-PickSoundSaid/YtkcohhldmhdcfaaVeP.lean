/- Chapter 12: rows of one's own as blocks: append, copy and clear over a part of a block. -/
import Derived.Test.YtkcohhldmhdcfaaVeL
import Derived.Laws.IdiomCopy
import Derived.Deep.RegionLaw
import Derived.Lib.Overlaps
import Derived.Lib.AppendZerosOnto
namespace Go.Proofs.Ytkcohhldmhdcfaa
open Go.RowKit

theorem over_nil (c : Array Value) (off : Nat) : over c off [] = c := by simp [over]
theorem over_cons (c : Array Value) (off : Nat) (v : Value) (vs : List Value) (h : off + (v :: vs).length ≤ c.size) : over (c.setIfInBounds off v) (off + 1) vs = over c off (v :: vs) := by
  simp only [List.length_cons] at h
  apply Array.ext_getElem?
  intro i
  rw [over_get _ _ _ (by simp; omega), over_get _ _ _ (by simp; omega)]
  by_cases h0 : i = off
  · subst h0
    rw [if_neg (by omega), if_pos (by simp), Nat.sub_self, Array.getElem?_setIfInBounds]
    simp; omega
  · by_cases h1 : off + 1 ≤ i ∧ i < off + 1 + vs.length
    · rw [if_pos h1, if_pos (by simp; omega)]
      rw [show i - off = (i - (off + 1)) + 1 by omega, List.getElem?_cons_succ]
    · rw [if_neg h1, if_neg (by simp; omega), Array.getElem?_setIfInBounds, if_neg (by omega)]
theorem setCells_over {b : Nat} {T : TypeId} : ∀ (vs : List Value) (off : Nat) (c : Array Value) (w : World), Blk w b c T → off + vs.length ≤ c.size → Blk (w.setCells b off vs) b (over c off vs) T
  | [], off, c, w, h, _ => by rw [over_nil]; exact h
  | v :: vs, off, c, w, h, hl => by
    rw [← over_cons c off v vs hl]
    have hl' : off + (vs.length + 1) ≤ c.size := hl
    exact setCells_over vs (off + 1) _ _ (h.set off v) (by rw [Array.size_setIfInBounds]; omega)
theorem setCells_wrote {b : Nat} {w0 : World} : ∀ (vs : List Value) (off : Nat) (w : World), Wrote (fun k => k = b) w0 w → Wrote (fun k => k = b) w0 (w.setCells b off vs)
  | [], _, _, h => h
  | _v :: vs, off, _, h => setCells_wrote vs (off + 1) _ (h.setCell _ _ (.inl rfl))
theorem Blk.get {w : World} {b : Nat} {c : Array Value} {T : TypeId} (h : Blk w b c T) (i : Nat) : w.cell? ⟨b, i, none⟩ = c[i]? := by
  unfold Blk at h; simp [World.cell?, h]
theorem Blk.shape {w : World} {b : Nat} {c : Array Value} {T : TypeId} (h : Blk w b c T) : w.shape? b = some (T, c.size) := by
  unfold Blk at h; simp [World.shape?, h]
theorem Wrote.setRow_ {S : Nat → Prop} {w w1 : World} {b : Nat} (h : Wrote S w w1) (hb : S b) (c' : Array Value) : Wrote S w (w1.setRow b c') :=
  ⟨h.os, h.tape, h.output, by simpa [World.setRow] using h.size, fun k hk hn => (setRow_other w1 b k c' (fun e => hn (by rw [e]; exact hb))).trans (h.block k hk hn)⟩

/-- append into the room of a block, at a step of a region that draws. -/
theorem step_append_blk {P : Program} {ops : Array Oper} {w : World} {o : Oper} {a : Act} {C : Act → World → Prop} {Q : Exit → Act → World → Prop} {E : Prop} (hgd : o.guard = none) (s x : Operand) (t e : TypeId)
    (ho : o.op = .call { callee := .builtin .append, args := #[s, x], argTypes := #[t, t] }) (ht : P.underlying t = some (.slice e)) (size : Nat) (hi : (P.info? e).map (·.size) = some size)
    (g n cap : Nat) (hs : a.eval s = .slice (some ⟨g, 0, none⟩) n cap) (T : TypeId) (cur : Array Value) (hB : Blk w g cur T) (G : Nat → Prop) (x' : Value) (m : Nat) (news : List Value) (hx : a.eval x = x') (hsl : Sl G w size x' m news) (h1 : ∀ u ∈ news, u.oneCell' = true)
    (hroom : n + m ≤ cap) (hl : n * size + news.length ≤ cur.size) (r : Nat) (hr : n + m = r)
    (h : ∀ w', Blk w' g (over cur (n * size) news) T → Wrote (fun k => k = g) w w' → C (a.put o.dst (.slice (some ⟨g, 0, none⟩) r cap)) w') :
    if Region.wanted o (yielded ops a.tmps) = true then Oper.wp P o a w C Q else E := by
  refine step_of_wp hgd ?_
  subst hr
  cases hq : P.info? e with
  | none => simp [hq] at hi
  | some i =>
    have hz : i.size = size := by simpa [hq] using hi
    subst hz
    have hsrc := hsl.src (P := P) ht h1
    have hr := run_append_room_src (P := P) w t t o.type e i ht hq g 0 n cap x' m news hsrc hroom (fun j hj => by rw [hB.get, Nat.zero_add, Array.getElem?_eq_getElem (by omega)]; rfl) (fun j _ => hB.free _)
    rw [Nat.zero_add] at hr
    unfold Oper.wp execOp
    simp only [ho, resolve, invoke, builtin, Sem.run_bind, Sem.run_pure, Result.andThen_ok, List.map_toArray, List.map_cons, List.map_nil, hs, hx, hr]
    exact h _ (setCells_over news _ cur w hB hl) (setCells_wrote news _ w (Wrote.of_below (Below.refl _ _)))

/-- copy onto a part of a block. -/
theorem wp_copy_blk {P : Program} {w : World} {o : Oper} {a : Act} {C : Act → World → Prop} {Q : Exit → Act → World → Prop} (d s : Operand) (t e : TypeId)
    (ho : o.op = .call { callee := .builtin .copy, args := #[d, s], argTypes := #[t, t] }) (ht : P.underlying t = some (.slice e)) (size : Nat) (hi : (P.info? e).map (·.size) = some size)
    (g off dLen dCap : Nat) (hd : a.eval d = .slice (some ⟨g, off, none⟩) dLen dCap) (T : TypeId) (cur : Array Value) (hB : Blk w g cur T) (G : Nat → Prop) (x' : Value) (m : Nat) (full : List Value) (hx : a.eval s = x') (hsl : Sl G w size x' m full) (cnt : Nat) (h1 : ∀ u ∈ full.take (cnt * size), u.oneCell' = true) (hm : Nat.min m dLen = cnt) (hl : off + cnt * size ≤ cur.size)
    (h : ∀ w', Blk w' g (over cur off (full.take (cnt * size))) T → Wrote (fun k => k = g) w w' → C (a.put o.dst (goInt cnt)) w') : o.wp P a w C Q := by
  obtain ⟨a1, cap1, rfl, e2, e3, e4, e5, e6⟩ := hsl.ex
  have hcm : cnt ≤ m := by rw [← hm]; exact Nat.min_le_left _ _
  have hmul : cnt * size ≤ m * size := Nat.mul_le_mul_right _ hcm
  have hcl : (full.take (cnt * size)).length = cnt * size := by rw [List.length_take, e5]; omega
  have h1' := h1
  generalize hcs : full.take (cnt * size) = cs at *
  have hst := run_storeCells_at (P := P) g off T cs 0 cur w hB (by rw [hcl]; simpa using hl) h1'
  simp only [Nat.add_zero] at hst
  cases hq : P.info? e with
  | none => simp [hq] at hi
  | some i =>
    have hz : i.size = size := by simpa [hq] using hi
    subst hz
    have hf : (Builtin.firstCells i.size cnt (.slice a1 m cap1)).run P w = .ok cs.toArray w := by
      cases a1 with
      | none =>
        have := e4 rfl
        obtain rfl : m = 0 := by omega
        obtain rfl : cnt = 0 := by omega
        obtain rfl : cs = [] := List.eq_nil_of_length_eq_zero (by rw [hcl, Nat.zero_mul])
        exact run_firstCells_none w i.size 0 0 cap1
      | some ad => exact run_firstCells_some w i.size cnt ad m cap1 cs hcl (fun j u hj => by
          have hj' : full[j]? = some u := by
            rw [← hcs, List.getElem?_take] at hj
            split at hj
            · exact hj
            · cases hj
          obtain ⟨ad', f1, _, f3⟩ := e6 j u hj'
          injection f1 with f1
          subst f1
          exact f3)
    have hr : (Builtin.copy_ #[t, t] o.type #[.slice (some ⟨g, off, none⟩) dLen dCap, .slice a1 m cap1]).run P w = .ok (goInt cnt) (w.setRow g (over cur off cs)) := by
      simp [Builtin.copy_, run_underlying ht, Builtin.lenOf, sizeOf, typeInfo, hq, hm, hf, hst, over]
    unfold Oper.wp execOp
    simp only [ho, resolve, invoke, builtin, Sem.run_bind, Sem.run_pure, Result.andThen_ok, List.map_toArray, List.map_cons, List.map_nil, hd, hx, hr]
    exact h _ (hB.row _) (Wrote.setRow_ (S := fun k => k = g) (Wrote.of_below (Below.refl _ _)) rfl _)
theorem wpList_copy_blk {P : Program} {ops : Array Oper} {rest : List Oper} {w : World} {o : Oper} {a : Act} {Q : Exit → Act → World → Prop} (hgd : o.guard = none) (d s : Operand) (t e : TypeId)
    (ho : o.op = .call { callee := .builtin .copy, args := #[d, s], argTypes := #[t, t] }) (ht : P.underlying t = some (.slice e)) (size : Nat) (hi : (P.info? e).map (·.size) = some size)
    (g off dLen dCap : Nat) (hd : a.eval d = .slice (some ⟨g, off, none⟩) dLen dCap) (T : TypeId) (cur : Array Value) (hB : Blk w g cur T) (G : Nat → Prop) (x' : Value) (m : Nat) (full : List Value) (hx : a.eval s = x') (hsl : Sl G w size x' m full) (cnt : Nat) (h1 : ∀ u ∈ full.take (cnt * size), u.oneCell' = true) (hm : Nat.min m dLen = cnt) (hl : off + cnt * size ≤ cur.size)
    (h : ∀ w', Blk w' g (over cur off (full.take (cnt * size))) T → Wrote (fun k => k = g) w w' → wpList P ops Q rest (a.put o.dst (goInt cnt)) w') : wpList P ops Q (o :: rest) a w :=
  wpList_plain hgd fun _ hK => wp_copy_blk d s t e ho ht size hi g off dLen dCap hd T cur hB G x' m full hx hsl cnt h1 hm hl fun w' r1 r2 => hK _ _ (h w' r1 r2)
theorem step_copy_blk {P : Program} {ops : Array Oper} {w : World} {o : Oper} {a : Act} {C : Act → World → Prop} {Q : Exit → Act → World → Prop} {E : Prop} (hgd : o.guard = none) (d s : Operand) (t e : TypeId)
    (ho : o.op = .call { callee := .builtin .copy, args := #[d, s], argTypes := #[t, t] }) (ht : P.underlying t = some (.slice e)) (size : Nat) (hi : (P.info? e).map (·.size) = some size)
    (g off dLen dCap : Nat) (hd : a.eval d = .slice (some ⟨g, off, none⟩) dLen dCap) (T : TypeId) (cur : Array Value) (hB : Blk w g cur T) (G : Nat → Prop) (x' : Value) (m : Nat) (full : List Value) (hx : a.eval s = x') (hsl : Sl G w size x' m full) (cnt : Nat) (h1 : ∀ u ∈ full.take (cnt * size), u.oneCell' = true) (hm : Nat.min m dLen = cnt) (hl : off + cnt * size ≤ cur.size)
    (h : ∀ w', Blk w' g (over cur off (full.take (cnt * size))) T → Wrote (fun k => k = g) w w' → C (a.put o.dst (goInt cnt)) w') :
    if Region.wanted o (yielded ops a.tmps) = true then Oper.wp P o a w C Q else E :=
  step_of_wp hgd (wp_copy_blk d s t e ho ht size hi g off dLen dCap hd T cur hB G x' m full hx hsl cnt h1 hm hl h)

/-- append of zeros where there is no room: a new row. -/
theorem wpList_append_zeros {P : Program} {ops : Array Oper} {rest : List Oper} {w : World} {o : Oper} {a : Act} {Q : Exit → Act → World → Prop} (hgd : o.guard = none) (s x : Operand) (t tn e : TypeId)
    (ho : o.op = .call { callee := .builtin .append, args := #[s, x], argTypes := #[t, tn] }) (ht : P.underlying t = some (.slice e)) (htn : P.underlying tn = some (.int .i64)) (z : Value) (size bytes : Nat)
    (hinfo : (P.info? e).map (fun i => (i.zero, i.size, i.bytes)) = some (some z, size, bytes)) (hzs : z.cells.size = size) (hsz : 0 < size)
    (g n cap : Nat) (hs : a.eval s = .slice (some ⟨g, 0, none⟩) n cap) (T : TypeId) (cur : Array Value) (hB : Blk w g cur T) (hcs : n * size ≤ cur.size) (k : Nat) (kz : Int) (hkz : kz = (k : Int)) (hx : a.eval x = .int .i64 kz)
    (hk : 0 < k) (hroom : cap < n + k) (hfew : n + k ≤ 1000000) (hby : bytes ≤ 100000) (r : Nat) (hr : n + k = r)
    (h : ∀ w' g' cap' cur', w.heap.size ≤ g' → Blk w' g' cur' e → cur'.size = cap' * size → r ≤ cap' → cap' ≤ maxLen → cur'.toList.take (n * size) = cur.toList.take (n * size) → Below w.heap.size w w' → wpList P ops Q rest (a.put o.dst (.slice (some ⟨g', 0, none⟩) r cap')) w') : wpList P ops Q (o :: rest) a w := by
  subst hr hkz
  obtain ⟨i0, hi, hz0, hz1, hz2⟩ := info_parts hinfo
  subst hz1 hz2
  have hlen : (cur.toList.take (n * i0.size)).length = n * i0.size := by rw [List.length_take, Array.length_toList (xs := cur)]; omega
  have hold : (Builtin.firstCells i0.size n (.slice (some ⟨g, 0, none⟩) n cap)).run P w.drew = .ok (cur.toList.take (n * i0.size)).toArray w.drew :=
    run_firstCells_some w.drew i0.size n ⟨g, 0, none⟩ n cap _ hlen (fun j u hj => by
      rw [add_plain', Nat.zero_add, hB.drewP.get]
      rw [List.getElem?_take] at hj
      split at hj
      · rw [← Array.getElem?_toList]; exact hj
      · cases hj)
  have hb0 : (n + k) * i0.bytes ≤ 140737488355328 := Nat.le_trans (Nat.mul_le_mul hfew hby) (by decide)
  have hb1 : k * i0.bytes ≤ (n + k) * i0.bytes := Nat.mul_le_mul_right _ (by omega)
  have hr := Lib.run_append_grow_zeros (P := P) w t tn o.type e i0 z .i64 .i64 ht htn hi hz0 (some ⟨g, 0, none⟩) n cap _ hold k hk hsz hroom (by omega) (by omega) (growslice_fits hroom (by omega))
  have hge := grownCap_ge w (n + k) cap e
  have hcm := grownCap_le_maxLen w (n + k) cap e (by simp only [maxLen]; omega)
  refine wpList_plain hgd fun K hK => ?_
  unfold Oper.wp execOp
  simp only [ho, resolve, invoke, builtin, Sem.run_bind, Sem.run_pure, Result.andThen_ok, List.map_toArray, List.map_cons, List.map_nil, hs, hx, hr]
  refine hK _ _ (h _ _ _ _ (Nat.le_refl _) (heap_alloc_new w.drew _) ?_ hge hcm ?_ ((below_of_drew (Below.refl _ _)).alloc (Nat.le_refl _) _))
  · simp only [Array.size_append, List.size_toArray, hlen, size_zeroCells, hzs]
    rw [← Nat.add_mul, ← Nat.add_mul]
    congr 1
    omega
  · simp only [Array.toList_append]
    rw [List.append_assoc, List.take_append_of_le_length (by rw [hlen]; exact Nat.le_refl _), List.take_of_length_le (by rw [hlen]; exact Nat.le_refl _)]

theorem zeroCells_one {z : Array Value} (h1 : ∀ v ∈ z.toList, v.oneCell' = true) (hz : 0 < z.size) (n : Nat) : ∀ v ∈ (Builtin.zeroCells z n).toList, v.oneCell' = true := by
  intro v hv
  unfold Builtin.zeroCells at hv
  rw [Array.toList_map] at hv
  obtain ⟨i, _, rfl⟩ := List.mem_map.1 hv
  have hlt : i % z.size < z.size := Nat.mod_lt _ hz
  rw [getElem!_pos z _ hlt]
  exact h1 _ (Array.mem_toList_iff.2 (Array.getElem_mem hlt))
theorem zeroCells_size (z : Array Value) (n : Nat) : (Builtin.zeroCells z n).toList.length = n * z.size := by simp [Builtin.zeroCells]
/-- clear of a part of a block. -/
theorem wpList_clear {P : Program} {ops : Array Oper} {rest : List Oper} {o : Oper} {a : Act} {w : World} {Q : Exit → Act → World → Prop} (hgd : o.guard = none) (t e : TypeId) (z : Value) (x : Operand)
    (ho : o.op = .call { callee := .builtin .clear, args := #[x], argTypes := #[t] }) (ht : P.underlying t = some (.slice e)) (hv : ∀ w, (zeroValue e).run P w = .ok z w)
    (b off n cap : Nat) (hx : a.eval x = .slice (some ⟨b, off, none⟩) n cap) (c : Array Value) (T : TypeId) (hg : Blk w b c T) (hz : 0 < z.cells.size) (hl : off + n * z.cells.size ≤ c.size) (h1 : ∀ v ∈ z.cells.toList, v.oneCell' = true)
    (h : ∀ w' c', Blk w' b c' T → c'.size = c.size → (∀ i, i < off → c'[i]? = c[i]?) → Wrote (fun k => k = b) w w' → wpList P ops Q rest (a.put o.dst (.tuple #[])) w') : wpList P ops Q (o :: rest) a w := by
  refine wpList_plain hgd fun K hK => ?_
  have hst := run_storeCells_at (P := P) b off T (Builtin.zeroCells z.cells n).toList 0 c w hg (by rw [zeroCells_size]; simpa using hl) (zeroCells_one h1 hz n)
  simp only [Nat.add_zero] at hst
  cases n with
  | zero =>
    have hr : (Builtin.clear_ #[t] o.type #[.slice (some ⟨b, off, none⟩) 0 cap]).run P w = .ok (.tuple #[]) w := by
      simp [Builtin.clear_, run_underlying ht]
    unfold Oper.wp execOp
    simp only [ho, resolve, invoke, builtin, Sem.run_bind, Sem.run_pure, Result.andThen_ok, List.map_toArray, List.map_cons, List.map_nil, hx, hr]
    exact hK _ _ (h w c hg rfl (fun _ _ => rfl) (Wrote.of_below (Below.refl _ _)))
  | succ n =>
    have hr : (Builtin.clear_ #[t] o.type #[.slice (some ⟨b, off, none⟩) (n + 1) cap]).run P w = .ok (.tuple #[]) (w.setRow b (over c off (Builtin.zeroCells z.cells (n + 1)).toList)) := by
      simp [Builtin.clear_, run_underlying ht, hv, hst, over]
    unfold Oper.wp execOp
    simp only [ho, resolve, invoke, builtin, Sem.run_bind, Sem.run_pure, Result.andThen_ok, List.map_toArray, List.map_cons, List.map_nil, hx, hr]
    refine hK _ _ (h _ _ (hg.row _) (over_size _ _ _ (by rw [zeroCells_size]; exact hl)) (fun i hi => ?_) (Wrote.setRow_ (S := fun k => k = b) (Wrote.of_below (Below.refl _ _)) rfl _))
    rw [over_get _ _ _ (by rw [zeroCells_size]; exact hl), if_neg (by omega)]
theorem pause_clear {P : Program} {ops : Array Oper} {Q : Exit → Act → World → Prop} {rest : List Oper} {a : Act} {dst : Option Tmp} {ty : TypeId} {pos : String} {after : Array Go.Edge} {guard : Option (Nat × Bool)} {w : World} {xs : Array Operand} {ts : Array TypeId} (h : Pause (wpList P ops Q (⟨dst, .call ⟨.builtin .clear, xs, ts⟩, ty, pos, after, guard⟩ :: rest) a w)) : wpList P ops Q (⟨dst, .call ⟨.builtin .clear, xs, ts⟩, ty, pos, after, guard⟩ :: rest) a w := h
theorem pause_copy {P : Program} {ops : Array Oper} {Q : Exit → Act → World → Prop} {rest : List Oper} {a : Act} {dst : Option Tmp} {ty : TypeId} {pos : String} {after : Array Go.Edge} {guard : Option (Nat × Bool)} {w : World} {xs : Array Operand} {ts : Array TypeId} (h : Pause (wpList P ops Q (⟨dst, .call ⟨.builtin .copy, xs, ts⟩, ty, pos, after, guard⟩ :: rest) a w)) : wpList P ops Q (⟨dst, .call ⟨.builtin .copy, xs, ts⟩, ty, pos, after, guard⟩ :: rest) a w := h

/-- A row of one's own as a block. -/
structure RowB (A e g cap n : Nat) (cur : Array Value) (w : World) : Prop where
  base : A ≤ g
  blk : Blk w g cur e
  size : cur.size = cap * 6
  room : n ≤ cap
  cap : cap ≤ maxLen
theorem ROwnF.rowB {FF : Nat → Prop} {A e : Nat} {w : World} {v : Value} {fs : List Fil} (h : ROwnF filK FF A e w v fs) (hn : 0 < fs.length) :
    ∃ g cap cur, v = .slice (some ⟨g, 0, none⟩) fs.length cap ∧ RowB A e g cap fs.length cur w ∧ Els filK (fun k => FF k ∧ k ≠ g) w (cur.toList.take (fs.length * 6)) fs := by
  obtain ⟨cs, h1, h2⟩ := h
  obtain ⟨h0, ⟨rfl, hz⟩ | ⟨g, cap, cur, rfl, hb, hg, hnc, hcm, hs, htk⟩⟩ := id h1
  · omega
  · refine ⟨g, cap, cur, rfl, ⟨hb, hg, hs, hnc, hcm⟩, ?_⟩
    have e6 : filK.sz = 6 := rfl
    rw [e6] at htk
    rw [htk]
    exact h2.mono fun k _ hF => ⟨hF.1, fun e => hF.2 (by rw [e]; rfl)⟩
theorem ROwnF.of_rowB {FF : Nat → Prop} {A e g cap : Nat} {cur : Array Value} {w : World} {fs : List Fil} (h : RowB A e g cap fs.length cur w) (hE : Els filK (fun k => FF k ∧ k ≠ g) w (cur.toList.take (fs.length * 6)) fs) :
    ROwnF filK FF A e w (.slice (some ⟨g, 0, none⟩) fs.length cap) fs := by
  refine ⟨cur.toList.take (fs.length * 6), ⟨?_, .inr ⟨g, cap, cur, rfl, h.base, h.blk, h.room, h.cap, h.size, rfl⟩⟩, hE.mono fun k _ hF => ⟨hF.1, fun e => hF.2 (by injection e with e; exact e.symm)⟩⟩
  have := h.size
  have := Nat.mul_le_mul_right 6 h.room
  show _ = fs.length * 6
  rw [List.length_take, Array.length_toList (xs := cur)]
  omega
theorem RowB.sl {A e g cap n : Nat} {cur : Array Value} {w : World} (h : RowB A e g cap n cur w) : Sl (fun k => k = g) w 6 (.slice (some ⟨g, 0, none⟩) n cap) n (cur.toList.take (n * 6)) := by
  have hs := h.size
  have hm := Nat.mul_le_mul_right 6 h.room
  refine ⟨_, _, rfl, h.room, h.cap, (fun h => by cases h), by rw [List.length_take, Array.length_toList]; omega, fun j u hj => ⟨_, rfl, rfl, ?_⟩⟩
  rw [add_plain', Nat.zero_add, h.blk.get]
  rw [List.getElem?_take] at hj
  split at hj
  · rw [← Array.getElem?_toList]; exact hj
  · cases hj
theorem RowB.of {A e g cap n n' : Nat} {cur cur' : Array Value} {w w' : World} (h : RowB A e g cap n cur w) (hb : Blk w' g cur' e) (hs : cur'.size = cur.size) (hn : n' ≤ cap) : RowB A e g cap n' cur' w' := ⟨h.base, hb, hs.trans h.size, hn, h.cap⟩
theorem Els.wrote {α : Type} {K : Kind α} {H : Nat → Prop} {S : Nat → Prop} {w w' : World} {cs : List Value} {xs : List α} (h : Els K H w cs xs) (hw : Wrote S w w') (hH : ∀ k, H k → ¬ S k) : Els K H w' cs xs :=
  h.keep fun k hk hF => hw.block k hk (hH k hF)
theorem over_take {c : Array Value} {off m : Nat} {vs : List Value} (h : off + vs.length ≤ c.size) (hm : off + vs.length = m) : (over c off vs).toList.take m = c.toList.take off ++ vs := by
  subst hm
  unfold over
  rw [List.toList_toArray, List.take_append_of_le_length (by simp; omega), List.take_of_length_le (by simp; omega)]
theorem take_agree {c c' : Array Value} {m : Nat} (hs : c'.size = c.size) (h : ∀ i, i < m → c'[i]? = c[i]?) : c'.toList.take m = c.toList.take m := by
  apply List.ext_getElem?
  intro i
  by_cases hi : i < m
  · rw [List.getElem?_take_of_lt hi, List.getElem?_take_of_lt hi, Array.getElem?_toList, Array.getElem?_toList]
    exact h i hi
  · rw [List.getElem?_eq_none (by simp; omega), List.getElem?_eq_none (by simp; omega)]
theorem Sl.drewP {F : Nat → Prop} {w : World} {sz n : Nat} {v : Value} {xs : List Value} (h : Sl F w sz v n xs) : Sl F w.drew sz v n xs := h.keep fun _ _ _ => rfl
theorem under_filsP : Try.prog.underlying 33 = some (.slice (Try.prog.elem 33)) := by kernel_rfl
theorem under_fils : Try.prog.underlying 33 = some (.slice 42) := by kernel_rfl
theorem size_filsP : (Try.prog.info? (Try.prog.elem 33)).map (·.size) = some 6 := by kernel_rfl
theorem size_fil : (Try.prog.info? 42).map (·.size) = some 6 := by kernel_rfl
theorem fsl_h (g n cap q : Nat) (hq : q ≤ cap) (w : World) : (Instr.slice 33 (.slice (some ⟨g, 0, none⟩) n cap) none (some (.int .i64 (q : Int))) none).run Try.prog w = .ok (.slice (some ⟨g, 0, none⟩) q cap) w := by
  rw [run_slice_h w 33 (some ⟨g, 0, none⟩) n cap under_filsP .i64 (q : Int) (by omega) (by omega), run_sizeOf size_filsP]
  simp [sliced, add_plain', Result.andThen]
theorem fsl_l (g n cap q : Nat) (hq : q < cap) (hqn : q ≤ n) (w : World) : (Instr.slice 33 (.slice (some ⟨g, 0, none⟩) n cap) (some (.int .i64 (q : Int))) none none).run Try.prog w = .ok (.slice (some ⟨g, q * 6, none⟩) (n - q) (cap - q)) w := by
  rw [run_slice_l w 33 (some ⟨g, 0, none⟩) n cap under_filsP .i64 (q : Int) (by omega) (by omega), run_sizeOf size_filsP]
  simp [sliced, Nat.ne_of_gt hq, add_plain', Result.andThen]
theorem fsl_lh (g n cap l q : Nat) (hl : l ≤ q) (hlc : l < cap) (hq : q ≤ cap) (w : World) : (Instr.slice 33 (.slice (some ⟨g, 0, none⟩) n cap) (some (.int .i64 (l : Int))) (some (.int .i64 (q : Int))) none).run Try.prog w = .ok (.slice (some ⟨g, l * 6, none⟩) (q - l) (cap - l)) w := by
  rw [run_slice_lh w 33 (some ⟨g, 0, none⟩) n cap under_filsP .i64 .i64 (l : Int) (q : Int) (by omega) (by omega) (by omega), run_sizeOf size_filsP]
  simp [sliced, Nat.ne_of_gt hlc, add_plain', Result.andThen]
end Go.Proofs.Ytkcohhldmhdcfaa
