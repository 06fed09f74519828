/- Chapter 12: rows of one's own as blocks: append, copy and clear over a part of a block. Chapter 12: slices.Delete of one file in a row of one's own. Chapter 12: slices.Insert of one file into a row of one's own. Chapter 12: levels with rows of one's own; the keys lie where they may. -/
import Derived.Test.YtkcohhldmhdcfaaVzVeIa
import Derived.Laws.IdiomCopy
import Derived.Deep.RegionLaw
import Derived.Lib.Overlaps
import Derived.Lib.AppendZerosOnto
import Derived.Test.YtkcohhldmhdcfaaVzVeOa
namespace Go.Proofs.Ytkcohhldmhdcfaa
open Go.RowKit

theorem over_nil (c : Array Value) (off : Nat) : over c off [] = c := by simp [over]
theorem over_cons (c : Array Value) (off : Nat) (v : Value) (vs : List Value) (h : off + (v :: vs).length ≤ c.size) : over (c.setIfInBounds off v) (off + 1) vs = over c off (v :: vs) := by
  simp only [List.length_cons] at h
  apply Array.ext_getElem?
  intro i
  rw [over_get _ _ _ (by simp; omega), over_get _ _ _ (by simp; omega)]
  by_cases h0 : i = off
  · subst h0
    rw [if_neg (by omega), if_pos (by simp), Nat.sub_self, Array.getElem?_setIfInBounds]
    simp; omega
  · by_cases h1 : off + 1 ≤ i ∧ i < off + 1 + vs.length
    · rw [if_pos h1, if_pos (by simp; omega)]
      rw [show i - off = (i - (off + 1)) + 1 by omega, List.getElem?_cons_succ]
    · rw [if_neg h1, if_neg (by simp; omega), Array.getElem?_setIfInBounds, if_neg (by omega)]
theorem setCells_over {b : Nat} {T : TypeId} : ∀ (vs : List Value) (off : Nat) (c : Array Value) (w : World), Blk w b c T → off + vs.length ≤ c.size → Blk (w.setCells b off vs) b (over c off vs) T
  | [], off, c, w, h, _ => by rw [over_nil]; exact h
  | v :: vs, off, c, w, h, hl => by
    rw [← over_cons c off v vs hl]
    have hl' : off + (vs.length + 1) ≤ c.size := hl
    exact setCells_over vs (off + 1) _ _ (h.set off v) (by rw [Array.size_setIfInBounds]; omega)
theorem setCells_wrote {b : Nat} {w0 : World} : ∀ (vs : List Value) (off : Nat) (w : World), Wrote (fun k => k = b) w0 w → Wrote (fun k => k = b) w0 (w.setCells b off vs)
  | [], _, _, h => h
  | _v :: vs, off, _, h => setCells_wrote vs (off + 1) _ (h.setCell _ _ (.inl rfl))
theorem Blk.get {w : World} {b : Nat} {c : Array Value} {T : TypeId} (h : Blk w b c T) (i : Nat) : w.cell? ⟨b, i, none⟩ = c[i]? := by
  unfold Blk at h; simp [World.cell?, h]
theorem Blk.shape {w : World} {b : Nat} {c : Array Value} {T : TypeId} (h : Blk w b c T) : w.shape? b = some (T, c.size) := by
  unfold Blk at h; simp [World.shape?, h]
theorem Wrote.setRow_ {S : Nat → Prop} {w w1 : World} {b : Nat} (h : Wrote S w w1) (hb : S b) (c' : Array Value) : Wrote S w (w1.setRow b c') :=
  ⟨h.os, h.tape, h.output, by simpa [World.setRow] using h.size, fun k hk hn => (setRow_other w1 b k c' (fun e => hn (by rw [e]; exact hb))).trans (h.block k hk hn)⟩

/-- append into the room of a block, at a step of a region that draws. -/
theorem step_append_blk {P : Program} {ops : Array Oper} {w : World} {o : Oper} {a : Act} {C : Act → World → Prop} {Q : Exit → Act → World → Prop} {E : Prop} (hgd : o.guard = none) (s x : Operand) (t e : TypeId)
    (ho : o.op = .call { callee := .builtin .append, args := #[s, x], argTypes := #[t, t] }) (ht : P.underlying t = some (.slice e)) (size : Nat) (hi : (P.info? e).map (·.size) = some size)
    (g n cap : Nat) (hs : a.eval s = .slice (some ⟨g, 0, none⟩) n cap) (T : TypeId) (cur : Array Value) (hB : Blk w g cur T) (G : Nat → Prop) (x' : Value) (m : Nat) (news : List Value) (hx : a.eval x = x') (hsl : Sl G w size x' m news) (h1 : ∀ u ∈ news, u.oneCell' = true)
    (hroom : n + m ≤ cap) (hl : n * size + news.length ≤ cur.size) (r : Nat) (hr : n + m = r)
    (h : ∀ w', Blk w' g (over cur (n * size) news) T → Wrote (fun k => k = g) w w' → C (a.put o.dst (.slice (some ⟨g, 0, none⟩) r cap)) w') :
    if Region.wanted o (yielded ops a.tmps) = true then Oper.wp P o a w C Q else E := by
  refine step_of_wp hgd ?_
  subst hr
  cases hq : P.info? e with
  | none => simp [hq] at hi
  | some i =>
    have hz : i.size = size := by simpa [hq] using hi
    subst hz
    have hsrc := hsl.src (P := P) ht h1
    have hr := run_append_room_src (P := P) w t t o.type e i ht hq g 0 n cap x' m news hsrc hroom (fun j hj => by rw [hB.get, Nat.zero_add, Array.getElem?_eq_getElem (by omega)]; rfl) (fun j _ => hB.free _)
    rw [Nat.zero_add] at hr
    unfold Oper.wp execOp
    simp only [ho, resolve, invoke, builtin, Sem.run_bind, Sem.run_pure, Result.andThen_ok, List.map_toArray, List.map_cons, List.map_nil, hs, hx, hr]
    exact h _ (setCells_over news _ cur w hB hl) (setCells_wrote news _ w (Wrote.of_below (Below.refl _ _)))

/-- copy onto a part of a block. -/
theorem wp_copy_blk {P : Program} {w : World} {o : Oper} {a : Act} {C : Act → World → Prop} {Q : Exit → Act → World → Prop} (d s : Operand) (t e : TypeId)
    (ho : o.op = .call { callee := .builtin .copy, args := #[d, s], argTypes := #[t, t] }) (ht : P.underlying t = some (.slice e)) (size : Nat) (hi : (P.info? e).map (·.size) = some size)
    (g off dLen dCap : Nat) (hd : a.eval d = .slice (some ⟨g, off, none⟩) dLen dCap) (T : TypeId) (cur : Array Value) (hB : Blk w g cur T) (G : Nat → Prop) (x' : Value) (m : Nat) (full : List Value) (hx : a.eval s = x') (hsl : Sl G w size x' m full) (cnt : Nat) (h1 : ∀ u ∈ full.take (cnt * size), u.oneCell' = true) (hm : Nat.min m dLen = cnt) (hl : off + cnt * size ≤ cur.size)
    (h : ∀ w', Blk w' g (over cur off (full.take (cnt * size))) T → Wrote (fun k => k = g) w w' → C (a.put o.dst (goInt cnt)) w') : o.wp P a w C Q := by
  obtain ⟨a1, cap1, rfl, e2, e3, e4, e5, e6⟩ := hsl.ex
  have hcm : cnt ≤ m := by rw [← hm]; exact Nat.min_le_left _ _
  have hmul : cnt * size ≤ m * size := Nat.mul_le_mul_right _ hcm
  have hcl : (full.take (cnt * size)).length = cnt * size := by rw [List.length_take, e5]; omega
  have h1' := h1
  generalize hcs : full.take (cnt * size) = cs at *
  have hst := run_storeCells_at (P := P) g off T cs 0 cur w hB (by rw [hcl]; simpa using hl) h1'
  simp only [Nat.add_zero] at hst
  cases hq : P.info? e with
  | none => simp [hq] at hi
  | some i =>
    have hz : i.size = size := by simpa [hq] using hi
    subst hz
    have hf : (Builtin.firstCells i.size cnt (.slice a1 m cap1)).run P w = .ok cs.toArray w := by
      cases a1 with
      | none =>
        have := e4 rfl
        obtain rfl : m = 0 := by omega
        obtain rfl : cnt = 0 := by omega
        obtain rfl : cs = [] := List.eq_nil_of_length_eq_zero (by rw [hcl, Nat.zero_mul])
        exact run_firstCells_none w i.size 0 0 cap1
      | some ad => exact run_firstCells_some w i.size cnt ad m cap1 cs hcl (fun j u hj => by
          have hj' : full[j]? = some u := by
            rw [← hcs, List.getElem?_take] at hj
            split at hj
            · exact hj
            · cases hj
          obtain ⟨ad', f1, _, f3⟩ := e6 j u hj'
          injection f1 with f1
          subst f1
          exact f3)
    have hr : (Builtin.copy_ #[t, t] o.type #[.slice (some ⟨g, off, none⟩) dLen dCap, .slice a1 m cap1]).run P w = .ok (goInt cnt) (w.setRow g (over cur off cs)) := by
      simp [Builtin.copy_, run_underlying ht, Builtin.lenOf, sizeOf, typeInfo, hq, hm, hf, hst, over]
    unfold Oper.wp execOp
    simp only [ho, resolve, invoke, builtin, Sem.run_bind, Sem.run_pure, Result.andThen_ok, List.map_toArray, List.map_cons, List.map_nil, hd, hx, hr]
    exact h _ (hB.row _) (Wrote.setRow_ (S := fun k => k = g) (Wrote.of_below (Below.refl _ _)) rfl _)
theorem wpList_copy_blk {P : Program} {ops : Array Oper} {rest : List Oper} {w : World} {o : Oper} {a : Act} {Q : Exit → Act → World → Prop} (hgd : o.guard = none) (d s : Operand) (t e : TypeId)
    (ho : o.op = .call { callee := .builtin .copy, args := #[d, s], argTypes := #[t, t] }) (ht : P.underlying t = some (.slice e)) (size : Nat) (hi : (P.info? e).map (·.size) = some size)
    (g off dLen dCap : Nat) (hd : a.eval d = .slice (some ⟨g, off, none⟩) dLen dCap) (T : TypeId) (cur : Array Value) (hB : Blk w g cur T) (G : Nat → Prop) (x' : Value) (m : Nat) (full : List Value) (hx : a.eval s = x') (hsl : Sl G w size x' m full) (cnt : Nat) (h1 : ∀ u ∈ full.take (cnt * size), u.oneCell' = true) (hm : Nat.min m dLen = cnt) (hl : off + cnt * size ≤ cur.size)
    (h : ∀ w', Blk w' g (over cur off (full.take (cnt * size))) T → Wrote (fun k => k = g) w w' → wpList P ops Q rest (a.put o.dst (goInt cnt)) w') : wpList P ops Q (o :: rest) a w :=
  wpList_plain hgd fun _ hK => wp_copy_blk d s t e ho ht size hi g off dLen dCap hd T cur hB G x' m full hx hsl cnt h1 hm hl fun w' r1 r2 => hK _ _ (h w' r1 r2)
theorem step_copy_blk {P : Program} {ops : Array Oper} {w : World} {o : Oper} {a : Act} {C : Act → World → Prop} {Q : Exit → Act → World → Prop} {E : Prop} (hgd : o.guard = none) (d s : Operand) (t e : TypeId)
    (ho : o.op = .call { callee := .builtin .copy, args := #[d, s], argTypes := #[t, t] }) (ht : P.underlying t = some (.slice e)) (size : Nat) (hi : (P.info? e).map (·.size) = some size)
    (g off dLen dCap : Nat) (hd : a.eval d = .slice (some ⟨g, off, none⟩) dLen dCap) (T : TypeId) (cur : Array Value) (hB : Blk w g cur T) (G : Nat → Prop) (x' : Value) (m : Nat) (full : List Value) (hx : a.eval s = x') (hsl : Sl G w size x' m full) (cnt : Nat) (h1 : ∀ u ∈ full.take (cnt * size), u.oneCell' = true) (hm : Nat.min m dLen = cnt) (hl : off + cnt * size ≤ cur.size)
    (h : ∀ w', Blk w' g (over cur off (full.take (cnt * size))) T → Wrote (fun k => k = g) w w' → C (a.put o.dst (goInt cnt)) w') :
    if Region.wanted o (yielded ops a.tmps) = true then Oper.wp P o a w C Q else E :=
  step_of_wp hgd (wp_copy_blk d s t e ho ht size hi g off dLen dCap hd T cur hB G x' m full hx hsl cnt h1 hm hl h)

/-- append of zeros where there is no room: a new row. -/
theorem wpList_append_zeros {P : Program} {ops : Array Oper} {rest : List Oper} {w : World} {o : Oper} {a : Act} {Q : Exit → Act → World → Prop} (hgd : o.guard = none) (s x : Operand) (t tn e : TypeId)
    (ho : o.op = .call { callee := .builtin .append, args := #[s, x], argTypes := #[t, tn] }) (ht : P.underlying t = some (.slice e)) (htn : P.underlying tn = some (.int .i64)) (z : Value) (size bytes : Nat)
    (hinfo : (P.info? e).map (fun i => (i.zero, i.size, i.bytes)) = some (some z, size, bytes)) (hzs : z.cells.size = size) (hsz : 0 < size)
    (g n cap : Nat) (hs : a.eval s = .slice (some ⟨g, 0, none⟩) n cap) (T : TypeId) (cur : Array Value) (hB : Blk w g cur T) (hcs : n * size ≤ cur.size) (k : Nat) (kz : Int) (hkz : kz = (k : Int)) (hx : a.eval x = .int .i64 kz)
    (hk : 0 < k) (hroom : cap < n + k) (hfew : n + k ≤ 1000000) (hby : bytes ≤ 100000) (r : Nat) (hr : n + k = r)
    (h : ∀ w' g' cap' cur', w.heap.size ≤ g' → Blk w' g' cur' e → cur'.size = cap' * size → r ≤ cap' → cap' ≤ maxLen → cur'.toList.take (n * size) = cur.toList.take (n * size) → Below w.heap.size w w' → wpList P ops Q rest (a.put o.dst (.slice (some ⟨g', 0, none⟩) r cap')) w') : wpList P ops Q (o :: rest) a w := by
  subst hr hkz
  obtain ⟨i0, hi, hz0, hz1, hz2⟩ := info_parts hinfo
  subst hz1 hz2
  have hlen : (cur.toList.take (n * i0.size)).length = n * i0.size := by rw [List.length_take, Array.length_toList (xs := cur)]; omega
  have hold : (Builtin.firstCells i0.size n (.slice (some ⟨g, 0, none⟩) n cap)).run P w.drew = .ok (cur.toList.take (n * i0.size)).toArray w.drew :=
    run_firstCells_some w.drew i0.size n ⟨g, 0, none⟩ n cap _ hlen (fun j u hj => by
      rw [add_plain', Nat.zero_add, hB.drewP.get]
      rw [List.getElem?_take] at hj
      split at hj
      · rw [← Array.getElem?_toList]; exact hj
      · cases hj)
  have hb0 : (n + k) * i0.bytes ≤ 140737488355328 := Nat.le_trans (Nat.mul_le_mul hfew hby) (by decide)
  have hb1 : k * i0.bytes ≤ (n + k) * i0.bytes := Nat.mul_le_mul_right _ (by omega)
  have hr := Lib.run_append_grow_zeros (P := P) w t tn o.type e i0 z .i64 .i64 ht htn hi hz0 (some ⟨g, 0, none⟩) n cap _ hold k hk hsz hroom (by omega) (by omega) (growslice_fits hroom (by omega))
  have hge := grownCap_ge w (n + k) cap e
  have hcm := grownCap_le_maxLen w (n + k) cap e (by simp only [maxLen]; omega)
  refine wpList_plain hgd fun K hK => ?_
  unfold Oper.wp execOp
  simp only [ho, resolve, invoke, builtin, Sem.run_bind, Sem.run_pure, Result.andThen_ok, List.map_toArray, List.map_cons, List.map_nil, hs, hx, hr]
  refine hK _ _ (h _ _ _ _ (Nat.le_refl _) (heap_alloc_new w.drew _) ?_ hge hcm ?_ ((below_of_drew (Below.refl _ _)).alloc (Nat.le_refl _) _))
  · simp only [Array.size_append, List.size_toArray, hlen, size_zeroCells, hzs]
    rw [← Nat.add_mul, ← Nat.add_mul]
    congr 1
    omega
  · simp only [Array.toList_append]
    rw [List.append_assoc, List.take_append_of_le_length (by rw [hlen]; exact Nat.le_refl _), List.take_of_length_le (by rw [hlen]; exact Nat.le_refl _)]

theorem zeroCells_one {z : Array Value} (h1 : ∀ v ∈ z.toList, v.oneCell' = true) (hz : 0 < z.size) (n : Nat) : ∀ v ∈ (Builtin.zeroCells z n).toList, v.oneCell' = true := by
  intro v hv
  unfold Builtin.zeroCells at hv
  rw [Array.toList_map] at hv
  obtain ⟨i, _, rfl⟩ := List.mem_map.1 hv
  have hlt : i % z.size < z.size := Nat.mod_lt _ hz
  rw [getElem!_pos z _ hlt]
  exact h1 _ (Array.mem_toList_iff.2 (Array.getElem_mem hlt))
theorem zeroCells_size (z : Array Value) (n : Nat) : (Builtin.zeroCells z n).toList.length = n * z.size := by simp [Builtin.zeroCells]
/-- clear of a part of a block. -/
theorem wpList_clear {P : Program} {ops : Array Oper} {rest : List Oper} {o : Oper} {a : Act} {w : World} {Q : Exit → Act → World → Prop} (hgd : o.guard = none) (t e : TypeId) (z : Value) (x : Operand)
    (ho : o.op = .call { callee := .builtin .clear, args := #[x], argTypes := #[t] }) (ht : P.underlying t = some (.slice e)) (hv : ∀ w, (zeroValue e).run P w = .ok z w)
    (b off n cap : Nat) (hx : a.eval x = .slice (some ⟨b, off, none⟩) n cap) (c : Array Value) (T : TypeId) (hg : Blk w b c T) (hz : 0 < z.cells.size) (hl : off + n * z.cells.size ≤ c.size) (h1 : ∀ v ∈ z.cells.toList, v.oneCell' = true)
    (h : ∀ w' c', Blk w' b c' T → c'.size = c.size → (∀ i, i < off → c'[i]? = c[i]?) → Wrote (fun k => k = b) w w' → wpList P ops Q rest (a.put o.dst (.tuple #[])) w') : wpList P ops Q (o :: rest) a w := by
  refine wpList_plain hgd fun K hK => ?_
  have hst := run_storeCells_at (P := P) b off T (Builtin.zeroCells z.cells n).toList 0 c w hg (by rw [zeroCells_size]; simpa using hl) (zeroCells_one h1 hz n)
  simp only [Nat.add_zero] at hst
  cases n with
  | zero =>
    have hr : (Builtin.clear_ #[t] o.type #[.slice (some ⟨b, off, none⟩) 0 cap]).run P w = .ok (.tuple #[]) w := by
      simp [Builtin.clear_, run_underlying ht]
    unfold Oper.wp execOp
    simp only [ho, resolve, invoke, builtin, Sem.run_bind, Sem.run_pure, Result.andThen_ok, List.map_toArray, List.map_cons, List.map_nil, hx, hr]
    exact hK _ _ (h w c hg rfl (fun _ _ => rfl) (Wrote.of_below (Below.refl _ _)))
  | succ n =>
    have hr : (Builtin.clear_ #[t] o.type #[.slice (some ⟨b, off, none⟩) (n + 1) cap]).run P w = .ok (.tuple #[]) (w.setRow b (over c off (Builtin.zeroCells z.cells (n + 1)).toList)) := by
      simp [Builtin.clear_, run_underlying ht, hv, hst, over]
    unfold Oper.wp execOp
    simp only [ho, resolve, invoke, builtin, Sem.run_bind, Sem.run_pure, Result.andThen_ok, List.map_toArray, List.map_cons, List.map_nil, hx, hr]
    refine hK _ _ (h _ _ (hg.row _) (over_size _ _ _ (by rw [zeroCells_size]; exact hl)) (fun i hi => ?_) (Wrote.setRow_ (S := fun k => k = b) (Wrote.of_below (Below.refl _ _)) rfl _))
    rw [over_get _ _ _ (by rw [zeroCells_size]; exact hl), if_neg (by omega)]
theorem pause_clear {P : Program} {ops : Array Oper} {Q : Exit → Act → World → Prop} {rest : List Oper} {a : Act} {dst : Option Tmp} {ty : TypeId} {pos : String} {after : Array Go.Edge} {guard : Option (Nat × Bool)} {w : World} {xs : Array Operand} {ts : Array TypeId} (h : Pause (wpList P ops Q (⟨dst, .call ⟨.builtin .clear, xs, ts⟩, ty, pos, after, guard⟩ :: rest) a w)) : wpList P ops Q (⟨dst, .call ⟨.builtin .clear, xs, ts⟩, ty, pos, after, guard⟩ :: rest) a w := h
theorem pause_copy {P : Program} {ops : Array Oper} {Q : Exit → Act → World → Prop} {rest : List Oper} {a : Act} {dst : Option Tmp} {ty : TypeId} {pos : String} {after : Array Go.Edge} {guard : Option (Nat × Bool)} {w : World} {xs : Array Operand} {ts : Array TypeId} (h : Pause (wpList P ops Q (⟨dst, .call ⟨.builtin .copy, xs, ts⟩, ty, pos, after, guard⟩ :: rest) a w)) : wpList P ops Q (⟨dst, .call ⟨.builtin .copy, xs, ts⟩, ty, pos, after, guard⟩ :: rest) a w := h

/-- A row of one's own as a block. -/
structure RowB (A e g cap n : Nat) (cur : Array Value) (w : World) : Prop where
  base : A ≤ g
  blk : Blk w g cur e
  size : cur.size = cap * 6
  room : n ≤ cap
  cap : cap ≤ maxLen
theorem ROwnF.rowB {FF : Nat → Prop} {A e : Nat} {w : World} {v : Value} {fs : List Fil} (h : ROwnF filK FF A e w v fs) (hn : 0 < fs.length) :
    ∃ g cap cur, v = .slice (some ⟨g, 0, none⟩) fs.length cap ∧ RowB A e g cap fs.length cur w ∧ Els filK (fun k => FF k ∧ k ≠ g) w (cur.toList.take (fs.length * 6)) fs := by
  obtain ⟨cs, h1, h2⟩ := h
  obtain ⟨h0, ⟨rfl, hz⟩ | ⟨g, cap, cur, rfl, hb, hg, hnc, hcm, hs, htk⟩⟩ := id h1
  · omega
  · refine ⟨g, cap, cur, rfl, ⟨hb, hg, hs, hnc, hcm⟩, ?_⟩
    have e6 : filK.sz = 6 := rfl
    rw [e6] at htk
    rw [htk]
    exact h2.mono fun k _ hF => ⟨hF.1, fun e => hF.2 (by rw [e]; rfl)⟩
theorem ROwnF.of_rowB {FF : Nat → Prop} {A e g cap : Nat} {cur : Array Value} {w : World} {fs : List Fil} (h : RowB A e g cap fs.length cur w) (hE : Els filK (fun k => FF k ∧ k ≠ g) w (cur.toList.take (fs.length * 6)) fs) :
    ROwnF filK FF A e w (.slice (some ⟨g, 0, none⟩) fs.length cap) fs := by
  refine ⟨cur.toList.take (fs.length * 6), ⟨?_, .inr ⟨g, cap, cur, rfl, h.base, h.blk, h.room, h.cap, h.size, rfl⟩⟩, hE.mono fun k _ hF => ⟨hF.1, fun e => hF.2 (by injection e with e; exact e.symm)⟩⟩
  have := h.size
  have := Nat.mul_le_mul_right 6 h.room
  show _ = fs.length * 6
  rw [List.length_take, Array.length_toList (xs := cur)]
  omega
theorem RowB.sl {A e g cap n : Nat} {cur : Array Value} {w : World} (h : RowB A e g cap n cur w) : Sl (fun k => k = g) w 6 (.slice (some ⟨g, 0, none⟩) n cap) n (cur.toList.take (n * 6)) := by
  have hs := h.size
  have hm := Nat.mul_le_mul_right 6 h.room
  refine ⟨_, _, rfl, h.room, h.cap, (fun h => by cases h), by rw [List.length_take, Array.length_toList]; omega, fun j u hj => ⟨_, rfl, rfl, ?_⟩⟩
  rw [add_plain', Nat.zero_add, h.blk.get]
  rw [List.getElem?_take] at hj
  split at hj
  · rw [← Array.getElem?_toList]; exact hj
  · cases hj
theorem RowB.of {A e g cap n n' : Nat} {cur cur' : Array Value} {w w' : World} (h : RowB A e g cap n cur w) (hb : Blk w' g cur' e) (hs : cur'.size = cur.size) (hn : n' ≤ cap) : RowB A e g cap n' cur' w' := ⟨h.base, hb, hs.trans h.size, hn, h.cap⟩
theorem Els.wrote {α : Type} {K : Kind α} {H : Nat → Prop} {S : Nat → Prop} {w w' : World} {cs : List Value} {xs : List α} (h : Els K H w cs xs) (hw : Wrote S w w') (hH : ∀ k, H k → ¬ S k) : Els K H w' cs xs :=
  h.keep fun k hk hF => hw.block k hk (hH k hF)
theorem over_take {c : Array Value} {off m : Nat} {vs : List Value} (h : off + vs.length ≤ c.size) (hm : off + vs.length = m) : (over c off vs).toList.take m = c.toList.take off ++ vs := by
  subst hm
  unfold over
  rw [List.toList_toArray, List.take_append_of_le_length (by simp; omega), List.take_of_length_le (by simp; omega)]
theorem take_agree {c c' : Array Value} {m : Nat} (hs : c'.size = c.size) (h : ∀ i, i < m → c'[i]? = c[i]?) : c'.toList.take m = c.toList.take m := by
  apply List.ext_getElem?
  intro i
  by_cases hi : i < m
  · rw [List.getElem?_take_of_lt hi, List.getElem?_take_of_lt hi, Array.getElem?_toList, Array.getElem?_toList]
    exact h i hi
  · rw [List.getElem?_eq_none (by simp; omega), List.getElem?_eq_none (by simp; omega)]
theorem Sl.drewP {F : Nat → Prop} {w : World} {sz n : Nat} {v : Value} {xs : List Value} (h : Sl F w sz v n xs) : Sl F w.drew sz v n xs := h.keep fun _ _ _ => rfl
theorem under_filsP : Try.prog.underlying 33 = some (.slice (Try.prog.elem 33)) := by kernel_rfl
theorem under_fils : Try.prog.underlying 33 = some (.slice 42) := by kernel_rfl
theorem size_filsP : (Try.prog.info? (Try.prog.elem 33)).map (·.size) = some 6 := by kernel_rfl
theorem size_fil : (Try.prog.info? 42).map (·.size) = some 6 := by kernel_rfl
theorem fsl_h (g n cap q : Nat) (hq : q ≤ cap) (w : World) : (Instr.slice 33 (.slice (some ⟨g, 0, none⟩) n cap) none (some (.int .i64 (q : Int))) none).run Try.prog w = .ok (.slice (some ⟨g, 0, none⟩) q cap) w := by
  rw [run_slice_h w 33 (some ⟨g, 0, none⟩) n cap under_filsP .i64 (q : Int) (by omega) (by omega), run_sizeOf size_filsP]
  simp [sliced, add_plain', Result.andThen]
theorem fsl_l (g n cap q : Nat) (hq : q < cap) (hqn : q ≤ n) (w : World) : (Instr.slice 33 (.slice (some ⟨g, 0, none⟩) n cap) (some (.int .i64 (q : Int))) none none).run Try.prog w = .ok (.slice (some ⟨g, q * 6, none⟩) (n - q) (cap - q)) w := by
  rw [run_slice_l w 33 (some ⟨g, 0, none⟩) n cap under_filsP .i64 (q : Int) (by omega) (by omega), run_sizeOf size_filsP]
  simp [sliced, Nat.ne_of_gt hq, add_plain', Result.andThen]
theorem fsl_lh (g n cap l q : Nat) (hl : l ≤ q) (hlc : l < cap) (hq : q ≤ cap) (w : World) : (Instr.slice 33 (.slice (some ⟨g, 0, none⟩) n cap) (some (.int .i64 (l : Int))) (some (.int .i64 (q : Int))) none).run Try.prog w = .ok (.slice (some ⟨g, l * 6, none⟩) (q - l) (cap - l)) w := by
  rw [run_slice_lh w 33 (some ⟨g, 0, none⟩) n cap under_filsP .i64 .i64 (l : Int) (q : Int) (by omega) (by omega) (by omega), run_sizeOf size_filsP]
  simp [sliced, Nat.ne_of_gt hlc, add_plain', Result.andThen]
end Go.Proofs.Ytkcohhldmhdcfaa

namespace Go.Proofs.Ytkcohhldmhdcfaa
open Go.RowKit

def RowPost (FF : Nat → Prop) (A : Nat) (fs : List Fil) (v : Value) (w : World) (e : Ending) (w' : World) : Prop :=
  ∃ v', e = .returned v' ∧ ROwnF filK FF A 42 w' v' fs ∧ Grew w w' v v'
theorem grew_of_wrote {g n c n' c' : Nat} {w w' : World} (h : Wrote (fun k => k = g) w w') : Grew w w' (.slice (some ⟨g, 0, none⟩) n c) (.slice (some ⟨g, 0, none⟩) n' c') :=
  ⟨⟨h.os, h.tape, h.output, h.size, fun k hk hn => h.block k hk fun e => hn (by rw [e]; rfl)⟩, fun k hk => .inl hk⟩
def zeroFil : Value := .agg #[.int .u64 0, .int .i64 0, .slice none 0 0, .slice none 0 0, .int .i64 0, .int .u64 0]
theorem zero_fil (w : World) : (zeroValue 42).run Try.prog w = .ok zeroFil w := by kernel_rfl
theorem zeroFil_one : ∀ u ∈ zeroFil.cells.toList, u.oneCell' = true := List.all_eq_true.1 (show (zeroFil.cells.toList.all fun u => u.oneCell') = true from rfl)

set_option maxRecDepth 100000 in
set_option maxHeartbeats 4000000 in
theorem fdel_any (FF : Nat → Prop) (A : Nat) (v : Value) (fs : List Fil) (i : Nat) (w : World) (h : ROwnF filK FF A 42 w v fs) (hi : i < fs.length) (hfew : fs.length ≤ 1000000) :
    Calls Try.prog 107 #[v, .int .i64 (i : Int), .int .i64 ((i : Int) + 1)] w (RowPost FF A (fs.eraseIdx i) v w) := by
  obtain ⟨g, cap, cur, rfl, hR, hE⟩ := h.rowB (by omega)
  have hcap := hR.cap
  have hroom := hR.room
  have hsz := hR.size
  simp only [maxLen] at hcap
  obtain ⟨n, hn⟩ : ∃ n, fs.length = n := ⟨_, rfl⟩
  have HN := Lib.hid hn
  rw [hn] at hR hE hi hfew hroom ⊢
  clear hn h
  have HR := Lib.hid hR
  have HE := Lib.hid hE
  have hi1 : ((i + 1 : Nat) : Int) = (i : Int) + 1 := by omega
  obtain ⟨X1, hX1⟩ : ∃ X1, ∀ w, (Instr.slice 33 (.slice (some ⟨g, 0, none⟩) n cap) (some (.int .i64 (i : Int))) (some (.int .i64 ((i : Int) + 1))) (some (.int .i64 (n : Int)))).run Try.prog w = .ok X1 w :=
    ⟨_, fun w => by rw [run_slice_lhm w 33 (some ⟨g, 0, none⟩) n cap under_filsP .i64 .i64 .i64 (i : Int) ((i : Int) + 1) (n : Int) (by omega) (by omega) (by omega) (by omega), run_sizeOf size_filsP]; rfl⟩
  obtain ⟨X2, hX2, hS2⟩ := Sl.slice_l under_filsP size_filsP hR.sl (i + 1) (by omega)
  rw [hi1] at hX2
  have hX3 := fsl_h g n cap i (by omega)
  obtain ⟨k, hk⟩ : ∃ k, i + (n - (i + 1)) = k := ⟨_, rfl⟩
  have hX4 := fsl_lh g k cap k n (by omega) (by omega) (by omega)
  have HS2 := Lib.hid hS2
  obtain ⟨news, hnews⟩ : ∃ news, List.take ((n - (i + 1)) * 6) (List.drop ((i + 1) * 6) (List.take (n * 6) cur.toList)) = news := ⟨_, rfl⟩
  rw [hnews] at HS2
  have hnl : news.length = (n - (i + 1)) * 6 := HS2.out.len
  have HNL := Lib.hid hnl
  have HN1 : Hid (∀ u ∈ news, u.oneCell' = true) := fun u hu => by
    rw [← hnews] at hu
    exact HE.out.one u (List.mem_of_mem_drop (List.mem_of_mem_take hu))
  have HNEW := Lib.hid hnews
  have HK := Lib.hid hk
  have HC := Lib.hid hcap
  have HROOM := Lib.hid hroom
  have HSZ := Lib.hid hsz
  have hne : ((i : Int) == (i : Int) + 1) = false := by simp; omega
  obtain ⟨w0, hw0⟩ : ∃ w0, w0 = w := ⟨_, rfl⟩
  have HW0 := Lib.hid hw0
  have w1 : IntKind.i64.wrap (i : Int) = (i : Int) := wrap_small (by omega) (by omega)
  clear hw0 hR hE hS2 hnews hnl hk hcap hroom hsz hi1
  go_enter Try.func107, Try.ntmps107
  go_wp2_with fail
  go_region_law (refine step_append_blk rfl (.tmp 22) (.tmp 25) 33 42 rfl under_fils 6 size_fil g i cap (by simp [Act.eval, Act.put]) 42 cur HR.out.blk.drewP _ X2 (n - (i + 1)) news (by simp [Act.eval, Act.put]) HS2.out.drewP HN1.out (by have := HROOM.out; omega) (by have := HSZ.out; have := HROOM.out; have := HNL.out; omega) k HK.out ?_; intro w2 hb2 hw2)
  have HB2 := Lib.hid hb2
  have HW2 : Hid (Wrote (fun k => k = g) w w2) := (Wrote.of_below (below_dn (Below.refl _ _) 1)).trans hw2
  clear hb2 hw2 hX2 hX3
  go_wp2_with (with_reducible refine pause_clear ?_)
  clear hX4
  have h6 : zeroFil.cells.size = 6 := rfl
  refine Pause.go (wpList_clear rfl 33 42 zeroFil _ rfl Try.underlying33 zero_fil g (k * 6) (n - k) (cap - k) rfl _ _ HB2.out (by decide) ?_ zeroFil_one ?_)
  · rw [over_size _ _ _ (by have := HSZ.out; have := HROOM.out; have := HNL.out; omega)]
    have := HSZ.out
    have := HROOM.out
    have := HK.out
    show k * 6 + (n - k) * 6 ≤ _
    omega
  intro w3 cur3 hb3 hs3 hk3 hw3
  have HP : Hid (RowPost FF A (fs.eraseIdx i) (.slice (some ⟨g, 0, none⟩) n cap) w (.returned (.slice (some ⟨g, 0, none⟩) k cap)) w3) := by
    have hsz := HSZ.out
    have hroom := HROOM.out
    have hnl := HNL.out
    have hk := HK.out
    have hn := HN.out
    have hov : i * 6 + news.length ≤ cur.size := by omega
    have hkl : (fs.eraseIdx i).length = k := by rw [List.length_eraseIdx_of_lt (by omega)]; omega
    have hww := HW2.out.trans hw3
    refine ⟨_, rfl, ?_, grew_of_wrote hww⟩
    rw [← hkl]
    refine ROwnF.of_rowB (HR.out.of hb3 (hs3.trans (over_size _ _ _ hov)) (by omega)) ?_
    rw [hkl, take_agree hs3 hk3, over_take hov (by omega)]
    have hE := HE.out
    refine Els.wrote ?_ hww fun _ h => h.2
    rw [List.eraseIdx_eq_take_drop_succ]
    refine Els.append ?_ ?_
    · rw [← HNEW.out]
      have h2 := hE.drop (i + 1)
      rw [List.take_of_length_le (by rw [List.length_drop, hE.len, hn]; show _ ≤ _; rw [show filK.sz = 6 from rfl]; omega)]
      exact h2
    · have h2 := hE.take i
      rw [List.take_take, Nat.min_eq_left (by show i * 6 ≤ _; omega)] at h2
      exact h2
  clear HB2 HW2 hb3 hs3 hk3 hw3
  go_wp2_with fail
  go_ret
  exact HP.out
end Go.Proofs.Ytkcohhldmhdcfaa

namespace Go.Proofs.Ytkcohhldmhdcfaa
open Go.RowKit

theorem over2_take {c : Array Value} {i n : Nat} {fc tl : List Value} (hf : fc.length = 6) (ht : tl.length = (n - i) * 6) (hi : i ≤ n) (hs : (n + 1) * 6 ≤ c.size) :
    (over (over c ((i + 1) * 6) tl) (i * 6) fc).toList.take ((n + 1) * 6) = c.toList.take (i * 6) ++ (fc ++ tl) := by
  have hs1 : (i + 1) * 6 + tl.length ≤ c.size := by omega
  have hcl : c.toList.length = c.size := Array.length_toList
  have h1 : (over c ((i + 1) * 6) tl).toList = c.toList.take ((i + 1) * 6) ++ tl ++ c.toList.drop ((i + 1) * 6 + tl.length) := by unfold over; rfl
  have e : (i + 1) * 6 = i * 6 + fc.length := by omega
  have h2 : (over (over c ((i + 1) * 6) tl) (i * 6) fc).toList = c.toList.take (i * 6) ++ (fc ++ tl) ++ c.toList.drop ((i + 1) * 6 + tl.length) := by
    rw [show (over (over c ((i + 1) * 6) tl) (i * 6) fc).toList = (over c ((i + 1) * 6) tl).toList.take (i * 6) ++ fc ++ (over c ((i + 1) * 6) tl).toList.drop (i * 6 + fc.length) by unfold over; rfl]
    rw [h1, ← e]
    have l1 : (c.toList.take ((i + 1) * 6)).length = (i + 1) * 6 := by rw [List.length_take]; omega
    rw [List.append_assoc (c.toList.take ((i + 1) * 6)), List.take_append_of_le_length (by omega), List.drop_append_of_le_length (by omega), List.take_take, Nat.min_eq_left (by omega), List.drop_of_length_le (by omega)]
    simp
  rw [h2, List.take_append_of_le_length (by simp only [List.length_append, List.length_take]; omega), List.take_of_length_le (by simp only [List.length_append, List.length_take]; omega)]

theorem overlaps_false (g vb i lb cb : Nat) (w : World) (cur : Array Value) (c : Array Value) (hne : vb ≠ g) (hg : Blk w g cur 42) (hc : 0 < cur.size) (hv : Blk w vb c 42) :
    (callFunc 130 #[.slice (some ⟨vb, 0, none⟩) 1 1, .slice (some ⟨g, i, none⟩) lb cb]).run Try.prog w = .ok (.value (.bool false)) w := by
  rw [run_callFunc_extern Try.func130 (by kernel_rfl) (by kernel_rfl) (by kernel_rfl) (e := Extern.SlicesOverlaps.overlaps #[33, 33] #[4]) (by kernel_rfl),
    Lib.run_overlaps_apart w 33 4 42 under_fils 6 (run_sizeOf size_fil) ⟨vb, 0, none⟩ ⟨g, i, none⟩ 1 1 lb cb hne _ _ _ _ hv.shape hg.shape (by omega) (hv.free _) (hv.free _)]
  rfl

theorem blk_src {w : World} {vb : Nat} {f : Fil} {vl vm : Value} (hB : Blk w vb (filCells f vl vm).toArray 42) : Sl (fun k => k = vb) w 6 (.slice (some ⟨vb, 0, none⟩) 1 1) 1 (filCells f vl vm) := by
  refine ⟨_, _, rfl, Nat.le_refl _, by simp [maxLen], by simp, rfl, fun j u hj => ⟨_, rfl, rfl, ?_⟩⟩
  rw [add_plain', Nat.zero_add]
  exact hB.cell (by simpa using hj)

/-- A file put in at i. -/
def insAt (fs : List Fil) (i : Nat) (f : Fil) : List Fil := fs.take i ++ f :: fs.drop i
theorem insAt_len {fs : List Fil} {i : Nat} {f : Fil} (h : i ≤ fs.length) : (insAt fs i f).length = fs.length + 1 := by simp [insAt]; omega
theorem insAt_end (fs : List Fil) (f : Fil) : insAt fs fs.length f = fs ++ [f] := by simp [insAt]
theorem els_insAt {H : Nat → Prop} {w : World} {cs fc : List Value} {fs : List Fil} {i : Nat} {f : Fil} (h : Els filK H w cs fs) (hf : filK.R H w fc f) : Els filK H w (cs.take (i * 6) ++ (fc ++ cs.drop (i * 6))) (insAt fs i f) := by
  refine Els.append ?_ (h.take i)
  exact Els.append (xs := [f]) (h.drop i) (Els.single hf)

set_option maxRecDepth 100000 in
set_option maxHeartbeats 4000000 in
theorem fins_end (FF : Nat → Prop) (A : Nat) (v : Value) (fs : List Fil) (f : Fil) (vl vm : Value) (vb : Nat) (w : World) (h : ROwnF filK FF A 42 w v fs) (hfew : fs.length < 100000)
    (hB : Blk w vb (filCells f vl vm).toArray 42) (hf : filK.R (fun k => FF k ∧ v.ownBlock ≠ some k) w (filCells f vl vm) f) (hA : A ≤ w.heap.size) :
    Calls Try.prog 113 #[v, .int .i64 (fs.length : Int), .slice (some ⟨vb, 0, none⟩) 1 1] w (RowPost FF A (insAt fs fs.length f) v w) := by
  rw [insAt_end]
  obtain ⟨X1, hX1, _⟩ := h.rows.slice_l under_filsP size_filsP fs.length (Nat.le_refl _)
  obtain ⟨a, c, rfl⟩ := h.isSlice
  have HH := Lib.hid h
  have HB := Lib.hid hB
  have HF := Lib.hid hf
  obtain ⟨n, hn⟩ : ∃ n, fs.length = n := ⟨_, rfl⟩
  have HN := Lib.hid hn
  rw [hn] at HH HF hX1 hfew ⊢
  clear hn h hf hB
  go_enter Try.func113, Try.ntmps113
  go_wp2_with (with_reducible refine pause_append ?_)
  refine Pause.go (wpList_append_elF 33 42 zeroFil 80 under_fils info_filO rfl FF A (.slice a n c) fs vb 42 _ f rfl _ _ rfl rfl rfl HH.out HB.out HF.out (by rw [HN.out]; omega) (by omega) hA ?_)
  intro v' w' hr hg
  obtain ⟨a', c', rfl⟩ := hr.isSlice
  have HR := Lib.hid hr
  have HG := Lib.hid hg
  have HL : Hid ((fs ++ [f]).length = n + 1) := by show _ = _; rw [List.length_append, HN.out]; rfl
  rw [HL.out] at HR HG ⊢
  clear hr hg hX1
  go_wp2_with fail
  go_ret
  exact ⟨_, rfl, HR.out, HG.out⟩

set_option maxRecDepth 100000 in
set_option maxHeartbeats 4000000 in
theorem fins_shift (FF : Nat → Prop) (A e0 g cap : Nat) (cur : Array Value) (fs : List Fil) (i n : Nat) (f : Fil) (vl vm : Value) (vb : Nat) (w : World) (he : e0 = 42) (hn : fs.length = n) (hR : RowB A e0 g cap n cur w) (hE : Els filK (fun k => FF k ∧ k ≠ g) w (cur.toList.take (n * 6)) fs) (hi : i < n) (hfew : n < 100000) (hroom : n + 1 ≤ cap)
    (hB : Blk w vb (filCells f vl vm).toArray 42) (hf : filK.R (fun k => FF k ∧ k ≠ g) w (filCells f vl vm) f) (hne : vb ≠ g) :
    Calls Try.prog 113 #[.slice (some ⟨g, 0, none⟩) n cap, .int .i64 (i : Int), .slice (some ⟨vb, 0, none⟩) 1 1] w (RowPost FF A (insAt fs i f) (.slice (some ⟨g, 0, none⟩) n cap) w) := by
  subst he
  have hcap := hR.cap
  have hsz := hR.size
  simp only [maxLen] at hcap
  have HN := Lib.hid hn
  have HR := Lib.hid hR
  have HE := Lib.hid hE
  have HB := Lib.hid hB
  have HF := Lib.hid hf
  have HNE := Lib.hid hne
  have i1 : ((i + 1 : Nat) : Int) = (i : Int) + 1 := by omega
  have n1 : ((n + 1 : Nat) : Int) = (n : Int) + 1 := by omega
  have hX1 := fsl_l g n cap i (by omega) (by omega)
  have hX2 := fsl_h g n cap (n + 1) (by omega)
  rw [n1] at hX2
  have hX3 := fsl_l g (n + 1) cap (i + 1) (by omega) (by omega)
  rw [i1] at hX3
  have hX4 := fsl_l g (n + 1) cap i (by omega) (by omega)
  have hov := fun lb cb => overlaps_false g vb ((i + 1) * 6) lb cb w cur _ hne hR.blk (by omega) hB
  -- what is moved
  have HS : Hid (Sl (fun k => k = g) w 6 (.slice (some ⟨g, i * 6, none⟩) (n + 1 - i) (cap - i)) (n + 1 - i) ((cur.toList.take ((n + 1) * 6)).drop (i * 6))) := by
    have h1 := (hR.of (n' := n + 1) hR.blk rfl hroom).sl
    have h2 := h1.cut i (n + 1) (by omega) (Nat.le_refl _)
    unfold cutAddr at h2
    rw [if_neg (by omega)] at h2
    simp only [Option.map_some, add_plain', Nat.zero_add] at h2
    rw [List.take_of_length_le (by rw [List.length_drop, List.length_take, Array.length_toList (xs := cur)]; omega)] at h2
    exact h2
  have t1 : ((i : Int) == (n : Int)) = false := by simp; omega
  have t2 : decide ((cap : Int) < (n : Int) + 1) = false := decide_eq_false (by omega)
  have w1 : IntKind.i64.wrap ((i : Int) + 1) = (i : Int) + 1 := by rw [wrap_small (by omega) (by omega)]
  have HC := Lib.hid hcap
  have HZ := Lib.hid hsz
  have HRM := Lib.hid hroom
  clear hn hR hE hB hf hne hcap hsz i1 n1
  go_enter Try.func113, Try.ntmps113
  go_wp2_with (simp only [hov])
  have HS2 : Hid (cur.size = cap * 6 ∧ n * 6 + 6 ≤ cap * 6) := ⟨HZ.out, by have := HRM.out; omega⟩
  obtain ⟨tl, htl⟩ : ∃ tl, ((cur.toList.take ((n + 1) * 6)).drop (i * 6)).take ((n - i) * 6) = tl := ⟨_, rfl⟩
  have HTL : Hid (tl = (cur.toList.take (n * 6)).drop (i * 6)) := by
    show _ = _
    rw [← htl, List.drop_take, List.drop_take, List.take_take, Nat.min_eq_left (by omega)]
    congr 1
    omega
  have HTN : Hid (tl.length = (n - i) * 6) := by
    show _ = _
    have := HS2.out
    rw [HTL.out, List.length_drop, List.length_take, Array.length_toList (xs := cur)]
    omega
  have HONE : Hid (∀ u ∈ tl, u.oneCell' = true) := fun u hu => by
    rw [HTL.out] at hu
    exact HE.out.one u (List.mem_of_mem_drop hu)
  go_region_law (refine step_copy_blk rfl (.tmp 73) (.tmp 76) 33 42 rfl under_fils 6 size_fil g ((i + 1) * 6) (n + 1 - (i + 1)) (cap - (i + 1)) (by simp [Act.eval, Act.put]) 42 cur HR.out.blk.drewP _ _ (n + 1 - i) _ (by simp [Act.eval, Act.put]) HS.out.drewP (n - i) (by rw [htl]; exact HONE.out) (by simp only [Nat.min_def]; split <;> omega) (by have := HS2.out; omega) ?_; intro w2 hb2 hw2)
  rw [htl] at hb2
  have HB2 := Lib.hid hb2
  have HW2 : Hid (Wrote (fun k => k = g) w w2) := (Wrote.of_below (below_dn (Below.refl _ _) 1)).trans hw2
  clear hb2 hw2 hX2 hX3 htl
  go_wp2_with (with_reducible refine pause_copy ?_)
  have HV2 : Hid (Blk w2 vb (filCells f vl vm).toArray 42) := HB.out.same (HW2.out.block _ HB.out.lt HNE.out)
  have h12 : (filCells f vl vm).take (1 * 6) = filCells f vl vm := rfl
  refine Pause.go (wpList_copy_blk rfl _ _ 33 42 rfl under_fils 6 size_fil g (i * 6) (n + 1 - i) (cap - i) rfl _ _ HB2.out _ _ 1 (filCells f vl vm) rfl (blk_src HV2.out) 1 ?_ ?_ ?_ ?_)
  · rw [h12]; exact filK.one HF.out
  · simp only [Nat.min_def]; split <;> omega
  · rw [over_size _ _ _ (by have := HS2.out; have := HTN.out; omega)]
    have := HS2.out
    omega
  intro w3 hb3 hw3
  rw [h12] at hb3
  have HP : Hid (RowPost FF A (insAt fs i f) (.slice (some ⟨g, 0, none⟩) n cap) w (.returned (.slice (some ⟨g, 0, none⟩) (n + 1) cap)) w3) := by
    have h2 := HS2.out
    have h3 := HTN.out
    have hww := HW2.out.trans hw3
    have hil : (insAt fs i f).length = n + 1 := by rw [insAt_len (by rw [HN.out]; omega), HN.out]
    refine ⟨_, rfl, ?_, grew_of_wrote hww⟩
    rw [← hil]
    have hov : (i + 1) * 6 + tl.length ≤ cur.size := by omega
    refine ROwnF.of_rowB (HR.out.of hb3 ((over_size _ _ _ (by rw [over_size _ _ _ hov]; show i * 6 + 6 ≤ _; omega)).trans (over_size _ _ _ hov)) (by rw [hil]; exact HRM.out)) ?_
    rw [hil, over2_take (n := n) rfl h3 (by omega) (by omega), HTL.out]
    have h5 := els_insAt (i := i) HE.out HF.out
    rw [List.take_take, Nat.min_eq_left (by omega)] at h5
    exact h5.wrote hww fun _ h => h.2
  clear HB2 HW2 hb3 hw3 HV2
  go_wp2_with fail
  go_ret
  exact HP.out

set_option maxRecDepth 100000 in
set_option maxHeartbeats 4000000 in
theorem fins_grow (FF : Nat → Prop) (A e0 g cap : Nat) (cur : Array Value) (fs : List Fil) (i n : Nat) (f : Fil) (vl vm : Value) (vb : Nat) (w : World) (he : e0 = 42) (hn : fs.length = n) (hR : RowB A e0 g cap n cur w) (hE : Els filK (fun k => FF k ∧ k ≠ g) w (cur.toList.take (n * 6)) fs) (hi : i < n) (hfew : n < 100000) (hroom : cap < n + 1)
    (hB : Blk w vb (filCells f vl vm).toArray 42) (hf : filK.R (fun k => FF k ∧ k ≠ g) w (filCells f vl vm) f) (hA : A ≤ w.heap.size) :
    Calls Try.prog 113 #[.slice (some ⟨g, 0, none⟩) n cap, .int .i64 (i : Int), .slice (some ⟨vb, 0, none⟩) 1 1] w (RowPost FF A (insAt fs i f) (.slice (some ⟨g, 0, none⟩) n cap) w) := by
  subst he
  have hcap := hR.cap
  have hsz := hR.size
  have hnc := hR.room
  simp only [maxLen] at hcap
  obtain rfl : cap = n := by omega
  have HN := Lib.hid hn
  have HR := Lib.hid hR
  have HE := Lib.hid hE
  have HB := Lib.hid hB
  have HF := Lib.hid hf
  have HA := Lib.hid hA
  have hX1 := fsl_l g cap cap i (by omega) (by omega)
  have hX2 := fsl_h g cap cap i (by omega)
  have i1 : ((i + 1 : Nat) : Int) = (i : Int) + 1 := by omega
  have HS : Hid (Sl (fun k => k = g) w 6 (.slice (some ⟨g, i * 6, none⟩) (cap - i) (cap - i)) (cap - i) ((cur.toList.take (cap * 6)).drop (i * 6))) := by
    have h2 := hR.sl.cut i cap (by omega) (Nat.le_refl _)
    unfold cutAddr at h2
    rw [if_neg (by omega)] at h2
    simp only [Option.map_some, add_plain', Nat.zero_add] at h2
    rw [List.take_of_length_le (by rw [List.length_drop, List.length_take, Array.length_toList (xs := cur)]; omega)] at h2
    exact h2
  have t1 : ((i : Int) == (cap : Int)) = false := by simp; omega
  have t2 : (cap : Int) < (cap : Int) + 1 := by omega
  have w1 : IntKind.i64.wrap ((i : Int) + 1) = (i : Int) + 1 := by rw [wrap_small (by omega) (by omega)]
  have HZ := Lib.hid hsz
  have HI1 := Lib.hid i1
  clear hn hR hE hB hf hcap hsz i1 hA
  go_enter Try.func113, Try.ntmps113
  go_wp2_with (with_reducible refine pause_append ?_)
  refine Pause.go (wpList_append_zeros rfl _ _ 33 3 42 rfl under_fils Try.underlying3 zeroFil 6 80 info_filO rfl (by decide) g i cap rfl _ cur HR.out.blk (by have := HZ.out; omega) (cap + 1 - i) _ ?_ rfl (by omega) (by omega) (by omega) (by decide) (cap + 1) (by omega) ?_)
  · omega
  intro w2 g2 cap2 cur2 hg2 hb2 hs2 hr2 hm2 htk hB2
  simp only [maxLen] at hm2
  have hX3 := fsl_l g2 (cap + 1) cap2 i (by omega) (by omega)
  have hX4 := fsl_l g2 (cap + 1) cap2 (i + 1) (by omega) (by omega)
  rw [HI1.out] at hX4
  have HB2 := Lib.hid hb2
  have HS2 : Hid (cur2.size = cap2 * 6 ∧ cap + 1 ≤ cap2 ∧ cap2 ≤ maxLen) := ⟨hs2, hr2, by simp only [maxLen]; exact hm2⟩
  have HTK := Lib.hid htk
  have HBW := Lib.hid hB2
  have HG2 := Lib.hid hg2
  have HV2 : Hid (Blk w2 vb (filCells f vl vm).toArray 42) := HB.out.below hB2 HB.out.lt
  have HGO : Hid (Blk w2 g cur 42) := HR.out.blk.below hB2 HR.out.blk.lt
  have h12 : (filCells f vl vm).take (1 * 6) = filCells f vl vm := rfl
  have H12 := Lib.hid h12
  clear hb2 hs2 htk hB2 hg2 h12
  go_wp2_with (with_reducible refine pause_copy ?_)
  refine Pause.go (wpList_copy_blk rfl _ _ 33 42 rfl under_fils 6 size_fil g2 (i * 6) (cap + 1 - i) (cap2 - i) rfl _ _ HB2.out _ _ 1 (filCells f vl vm) rfl (blk_src HV2.out) 1 ?_ ?_ ?_ ?_)
  · rw [H12.out]; exact filK.one HF.out
  · simp only [Nat.min_def]; split <;> omega
  · have := HS2.out
    omega
  intro w3 hb3 hw3
  rw [H12.out] at hb3
  have HB3 := Lib.hid hb3
  have HW3 := Lib.hid hw3
  have HGN : Hid (g ≠ g2) := by
    have h1 := HG2.out
    have h2 := HR.out.blk.lt
    show g ≠ g2
    omega
  have HS3 : Hid (Sl (fun k => k = g) w3 6 (.slice (some ⟨g, i * 6, none⟩) (cap - i) (cap - i)) (cap - i) ((cur.toList.take (cap * 6)).drop (i * 6))) :=
    HS.out.keep fun k hk hF => ((hw3.block k (Nat.lt_of_lt_of_le hk HBW.out.size) (by rw [hF]; exact HGN.out)).trans (HBW.out.block k hk))
  obtain ⟨tl, htl⟩ : ∃ tl, (cur.toList.take (cap * 6)).drop (i * 6) = tl := ⟨_, rfl⟩
  have HTN : Hid (tl.length = (cap - i) * 6) := by
    show _ = _
    have := HZ.out
    rw [← htl, List.length_drop, List.length_take, Array.length_toList (xs := cur)]
    omega
  have HTT : Hid (tl.take ((cap - i) * 6) = tl) := List.take_of_length_le (by rw [HTN.out]; exact Nat.le_refl _)
  have HONE : Hid (∀ u ∈ tl, u.oneCell' = true) := fun u hu => by
    rw [← htl] at hu
    exact HE.out.one u (List.mem_of_mem_drop hu)
  rw [htl] at HS3
  have HTL := Lib.hid htl
  clear hb3 hw3 htl HB2
  go_upto_region 11 with fail
  go_region_law (refine step_copy_blk rfl (.tmp 50) (.tmp 53) 33 42 rfl under_fils 6 size_fil g2 ((i + 1) * 6) (cap + 1 - (i + 1)) (cap2 - (i + 1)) (by simp [Act.eval, Act.put]) 42 _ HB3.out.drewP _ _ (cap - i) _ (by simp [Act.eval, Act.put]) HS3.out.drewP (cap - i) (by rw [HTT.out]; exact HONE.out) (by simp only [Nat.min_def]; split <;> omega) (by rw [over_size _ _ _ (by have := HS2.out; show i * 6 + 6 ≤ _; omega)]; have := HS2.out; omega) ?_; intro w4 hb4 hw4)
  rw [HTT.out] at hb4
  have HP : Hid (RowPost FF A (insAt fs i f) (.slice (some ⟨g, 0, none⟩) cap cap) w (.returned (.slice (some ⟨g2, 0, none⟩) (cap + 1) cap2)) w4) := by
    have h2 := HS2.out
    have h3 := HTN.out
    have hWW : Wrote (fun k => w.heap.size ≤ k) w w4 := by
      have a1 : Wrote (fun k => w.heap.size ≤ k) w w2 := Wrote.of_below HBW.out
      have a2 : Wrote (fun k => w.heap.size ≤ k) w2 w3 := ⟨HW3.out.os, HW3.out.tape, HW3.out.output, HW3.out.size, fun k hk hn => HW3.out.block k hk fun e => hn (by rw [e]; exact HG2.out)⟩
      have a3 : Wrote (fun k => w.heap.size ≤ k) w3 w4 := ⟨hw4.os, hw4.tape, hw4.output, hw4.size, fun k hk hn => hw4.block k hk fun e => hn (by rw [e]; exact HG2.out)⟩
      exact (a1.trans a2).trans a3
    have hil : (insAt fs i f).length = cap + 1 := by rw [insAt_len (by rw [HN.out]; omega), HN.out]
    refine ⟨_, rfl, ?_, ⟨⟨hWW.os, hWW.tape, hWW.output, hWW.size, fun k hk _ => hWW.block k hk (by omega)⟩, fun k hk => .inr ?_⟩⟩
    · rw [← hil]
      have hov : i * 6 + (filCells f vl vm).length ≤ cur2.size := by show i * 6 + 6 ≤ _; omega
      refine ROwnF.of_rowB ⟨Nat.le_trans HA.out HG2.out, hb4, ?_, by rw [hil]; exact h2.2.1, h2.2.2⟩ ?_
      · rw [over_size _ _ _ (by rw [over_size _ _ _ hov]; omega), over_size _ _ _ hov]; exact h2.1
      · rw [hil, over_take (by rw [over_size _ _ _ hov]; omega) (by omega), over_take hov (by show i * 6 + 6 = _; omega), HTK.out, ← HTL.out]
        have h5 := els_insAt (i := i) HE.out HF.out
        rw [List.take_take, Nat.min_eq_left (by omega), ← List.append_assoc] at h5
        have h6 := h5.mono (F' := fun k => FF k ∧ k < w.heap.size) fun k hk hF => ⟨hF.1, hk⟩
        exact (h6.keep (w' := w4) fun k _ hF => hWW.block k hF.2 (by omega)).mono fun k _ hF => ⟨hF.1, by have := HG2.out; omega⟩
    · injection hk with hk
      rw [← hk]
      exact HG2.out
  clear HB3 HW3 hb4 hw4 HS3 hX1 hX2 hX3 hX4
  go_wp2_with fail
  go_ret
  exact HP.out

theorem fins_any (FF : Nat → Prop) (A : Nat) (v : Value) (fs : List Fil) (i : Nat) (f : Fil) (vl vm : Value) (vb : Nat) (w : World) (h : ROwnF filK FF A 42 w v fs) (hi : i ≤ fs.length) (hfew : fs.length < 100000)
    (hB : Blk w vb (filCells f vl vm).toArray 42) (hf : filK.R (fun k => FF k ∧ v.ownBlock ≠ some k) w (filCells f vl vm) f) (hA : A ≤ w.heap.size) (hne : v.ownBlock ≠ some vb) :
    Calls Try.prog 113 #[v, .int .i64 (i : Int), .slice (some ⟨vb, 0, none⟩) 1 1] w (RowPost FF A (insAt fs i f) v w) := by
  by_cases he : i = fs.length
  · subst he
    exact fins_end FF A v fs f vl vm vb w h hfew hB hf hA
  · obtain ⟨g, cap, cur, rfl, hR, hE⟩ := h.rowB (by omega)
    have hf' := filK.mono (F' := fun k => FF k ∧ k ≠ g) hf fun k _ hF => ⟨hF.1, fun e => hF.2 (by rw [e]; rfl)⟩
    by_cases hr : fs.length + 1 ≤ cap
    · exact fins_shift FF A _ g cap cur fs i fs.length f vl vm vb w rfl rfl hR hE (by omega) hfew hr hB hf' (fun e => hne (by rw [e]; rfl))
    · exact fins_grow FF A _ g cap cur fs i fs.length f vl vm vb w rfl rfl hR hE (by omega) hfew (by omega) hB hf' hA
end Go.Proofs.Ytkcohhldmhdcfaa

namespace Go.Proofs.Ytkcohhldmhdcfaa
open Go.RowKit

structure Fw (D E : Nat → Prop) (A : Nat) (w : World) (v : Value) (us : List Value) (files : List (List Fil)) : Prop where
  arr : ROwnF valK (fun _ => False) A 33 w v us
  len : us.length = files.length
  row : ∀ i, i < us.length → ROwnF filK (fun k => E k ∧ Free v us k) A 42 w (uq us i) (files.getD i [])
  dis : ∀ i j k, i < us.length → j < us.length → i ≠ j → (uq us i).ownBlock = some k → (uq us j).ownBlock ≠ some k
  ne : ∀ i k, i < us.length → (uq us i).ownBlock = some k → v.ownBlock ≠ some k
  da : ∀ k, v.ownBlock = some k → D k
  dr : ∀ i k, i < us.length → (uq us i).ownBlock = some k → D k

variable {D E : Nat → Prop} {A : Nat} {w w' : World} {v : Value} {us : List Value} {files : List (List Fil)}
theorem Fw.below (h : Fw D E A w v us files) (hb : Below w.heap.size w w') : Fw D E A w' v us files :=
  ⟨h.arr.below hb, h.len, fun i hi => (h.row i hi).below hb, h.dis, h.ne, h.da, h.dr⟩
theorem Fw.wrote {S : Nat → Prop} (h : Fw D E A w v us files) (hw : Wrote S w w') (hD : ∀ k, D k → ¬ S k) (hE : ∀ k, E k → ¬ S k) : Fw D E A w' v us files :=
  ⟨h.arr.keep fun k hk hF => hw.block k hk (hD k (hF.elim (h.da k) fun hF => hF.1.elim)), h.len, fun i hi => (h.row i hi).keep fun k hk hF => hw.block k hk (hF.elim (fun e => hD k (h.dr i k hi e)) fun hF => hE k hF.1.1), h.dis, h.ne, h.da, h.dr⟩
theorem Fw.lt (h : Fw D E A w v us files) : ∀ k, v.ownBlock = some k → A ≤ k ∧ k < w.heap.size := h.arr.lt
theorem Fw.rows (h : Fw D E A w v us files) : Rw (rowK filK) Any w v files := by
  obtain ⟨cs, h1, h2⟩ := h.arr
  obtain ⟨rfl, _⟩ := els_vals h2
  have hs := (Sl.of_owns h1).mono (F' := Any) fun k _ _ => trivial
  refine ⟨cs, by rw [← h.len]; exact hs, els_rows files cs h.len fun i hi => ?_⟩
  have hi' : i < cs.length := by rw [h.len]; exact hi
  refine ⟨uq cs i, by simp [uq, hi'], ?_⟩
  have h3 := h.row i hi'
  rw [lat_eq hi]
  exact h3.rows.any

/-- One more entry in the last file: the row has grown, and its slice is stored. -/
theorem Fw.last {g cap m : Nat} {u' : Value} {cur : List Fil} (h : Fw D E A w (.slice (some ⟨g, 0, none⟩) us.length cap) us files) (hm : m < us.length) (ha : ROwnF filK (fun k => E k ∧ Free (.slice (some ⟨g, 0, none⟩) us.length cap) us k) A 42 w' u' cur) (hg : Grew w w' (uq us m) u') (h1 : u'.oneCell' = true) (hD : ∀ k, w.heap.size ≤ k → D k) :
    Fw D E A (w'.setCell ⟨g, m, none⟩ u') (.slice (some ⟨g, 0, none⟩) us.length cap) (us.set m u') (files.set m cur) := by
  have hgo : ∀ k, (Value.slice (some ⟨g, 0, none⟩) us.length cap).ownBlock ≠ some k → k ≠ g := fun k hk e => hk (by rw [e]; rfl)
  have hgl : g < w.heap.size := (h.arr.lt g rfl).2
  have hu' : ∀ k, k < w.heap.size → (uq us m).ownBlock ≠ some k → u'.ownBlock ≠ some k := fun k hk hn e => by
    rcases hg.own k e with e | e
    · exact hn e
    · omega
  have hfr : ∀ k, k < w.heap.size → Free (.slice (some ⟨g, 0, none⟩) us.length cap) us k → Free (.slice (some ⟨g, 0, none⟩) us.length cap) (us.set m u') k := fun k hk hF => ⟨hF.1, fun j hj => by
    rw [List.length_set] at hj
    by_cases hjm : m = j
    · subst hjm; rw [uq_set_at hm]; exact hu' k hk (hF.2 m hm)
    · rw [uq_set_ne hjm]; exact hF.2 j hj⟩
  refine ⟨vals_set (h.arr.keep fun k hk hF => hg.grown.block k hk fun e => ?_) h1, by rw [List.length_set, List.length_set]; exact h.len, fun i hi => ?_, fun i j k hi hj hij e => ?_, fun i k hi e => ?_, h.da, fun i k hi e => ?_⟩
  · rcases hF with hF | hF
    · exact h.ne m k hm e.symm hF
    · exact hF.1.elim
  · rw [List.length_set] at hi
    by_cases him : m = i
    · subst him
      rw [uq_set_at hm, show (files.set m cur).getD m [] = cur by simp [List.getD, ← h.len, hm]]
      refine (ha.keep fun k hk hF => heap_setCell_other _ _ _ _ ?_).mono fun k hk hF hne => ⟨hF.1, hF.2.1, fun j hj => ?_⟩
      · rcases hF with hF | hF
        · intro e
          rcases hg.own k hF with e1 | e1
          · exact h.ne m k hm e1 (by rw [show k = g from e]; rfl)
          · rw [show k = g from e] at e1; omega
        · exact hgo k hF.1.2.1
      · rw [List.length_set] at hj
        by_cases hjm : m = j
        · subst hjm; rw [uq_set_at hm]; exact hne
        · rw [uq_set_ne hjm]; exact hF.2.2 j hj
    · rw [uq_set_ne him, show (files.set m cur).getD i [] = files.getD i [] by simp [List.getD, him]]
      have h2 := (h.row i hi).mono (F' := fun k => (E k ∧ Free (.slice (some ⟨g, 0, none⟩) us.length cap) us k) ∧ k < w.heap.size) fun k hk hF _ => ⟨hF, hk⟩
      refine (h2.keep (w' := w'.setCell ⟨g, m, none⟩ u') fun k hk hF => ?_).mono fun k _ hF _ => ⟨hF.1.1, hfr k hF.2 hF.1.2⟩
      rw [heap_setCell_other _ _ _ _ (by
        rcases hF with hF | hF
        · exact fun e => h.ne i k hi hF (by rw [show k = g from e]; rfl)
        · exact hgo k hF.1.1.2.1)]
      refine hg.grown.block k hk fun e => ?_
      rcases hF with hF | hF
      · exact h.dis i m k hi hm (Ne.symm him) hF e.symm
      · exact hF.1.1.2.2 m hm e.symm
  · rw [List.length_set] at hi hj
    by_cases him : m = i
    · subst him
      rw [uq_set_at hm] at e
      rw [uq_set_ne hij]
      intro e2
      rcases hg.own k e with e1 | e1
      · exact h.dis m j k hm hj hij e1 e2
      · have := ((h.row j hj).lt k e2).2; omega
    · rw [uq_set_ne him] at e
      by_cases hjm : m = j
      · subst hjm
        rw [uq_set_at hm]
        exact hu' k ((h.row i hi).lt k e).2 (h.dis i m k hi hm hij e)
      · rw [uq_set_ne hjm]; exact h.dis i j k hi hj hij e
  · rw [List.length_set] at hi
    by_cases him : m = i
    · subst him
      rw [uq_set_at hm] at e
      intro e2
      rcases hg.own k e with e1 | e1
      · exact h.ne m k hm e1 e2
      · have := (h.arr.lt k e2).2; omega
    · rw [uq_set_ne him] at e
      exact h.ne i k hi e
  · rw [List.length_set] at hi
    by_cases him : m = i
    · subst him
      rw [uq_set_at hm] at e
      exact (hg.own k e).elim (h.dr m k hm) (hD k)
    · rw [uq_set_ne him] at e
      exact h.dr i k hi e
end Go.Proofs.Ytkcohhldmhdcfaa
