/- bootprintref07: Insert. -/
import Derived.Test.YtdjjkdhhjdafmaaRf07A
import Derived.Test.YtdjjkdhhjdafmaaSkAll
import Derived.Test.YtdjjkdhhjdafmaaHeP
import Derived.Test.YtdjjkdhhjdafmaaDrawI
namespace Go.Proofs.Ytdjjkdhhjdafmaa
open Go.RowKit

theorem below_al {w W : World} (h : Below w.heap.size w W) (o : Obj) : Below w.heap.size w (W.alloc o) := h.alloc h.size o
theorem below_chain {w W x : World} (h : Below w.heap.size w W) (k : Below W.heap.size W x) : Below w.heap.size w x := h.trans (k.mono h.size)
theorem Blk.below' {w w' : World} {b : Nat} {c : Array Value} {T : TypeId} (h : Blk w b c T) (hb : Below w.heap.size w w') : Blk w' b c T := h.below hb h.lt
/-- Four cells of one block. -/
def set4 (x : World) (z : Nat) (a b c d : Value) : World := (((x.setCell ⟨z, 0, none⟩ a).setCell ⟨z, 1, none⟩ b).setCell ⟨z, 2, none⟩ c).setCell ⟨z, 3, none⟩ d
theorem set4_other (x : World) (z : Nat) (a b c d : Value) {k : Nat} (h : k ≠ z) : (set4 x z a b c d).heap[k]? = x.heap[k]? := by
  unfold set4
  rw [heap_setCell_other _ _ _ _ h, heap_setCell_other _ _ _ _ h, heap_setCell_other _ _ _ _ h, heap_setCell_other _ _ _ _ h]
theorem below_set4 {B : Nat} {w x : World} {z : Nat} (h : Below B w x) (hz : B ≤ z) (a b c d : Value) : Below B w (set4 x z a b c d) :=
  ((((h.setCell hz _).setCell hz _).setCell hz _).setCell hz _)
theorem below_set4' {B : Nat} {w x : World} {z : Nat} (h : Below B w x) (hz : B ≤ z) (a b c d : Value) : Below B w ((((x.setCell ⟨z, 0, none⟩ a).setCell ⟨z, 1, none⟩ b).setCell ⟨z, 2, none⟩ c).setCell ⟨z, 3, none⟩ d) := below_set4 h hz a b c d
theorem Bytes.set4 {F : Nat → Prop} {x : World} {v : Value} {bs : List UInt8} (h : Bytes F x v bs) {z : Nat} (hz : ∀ k, F k → k ≠ z) (a b c d : Value) : Bytes F (set4 x z a b c d) v bs := h.keep fun k _ hF => set4_other x z a b c d (hz k hF)
theorem Blk.set4_zero {x : World} {z : Nat} {T : TypeId} (h : Blk x z zeroE T) (a b c d : Value) : Blk (set4 x z a b c d) z #[a, b, c, d] T := (((h.set 0 _).set 1 _).set 2 _).set 3 _

/-- The entry that Insert makes: block z, all in memory of its own. -/
def InsOwn (wa : World) (e : Ent) (s : Value) (wx : World) : Prop :=
  ∃ (z : Nat) (a1 a2 : Option Addr) (n1 n2 : Nat), s = .pointer (some ⟨z, 0, none⟩) ∧ Hid (Blk wx z (entCells e (.slice a1 e.key.length n1) (.slice a2 e.value.length n2)).toArray 34) ∧ Hid (Bytes (fun k => wa.heap.size ≤ k) wx (.slice a1 e.key.length n1) e.key) ∧ Hid (Bytes (fun k => wa.heap.size ≤ k) wx (.slice a2 e.value.length n2) e.value) ∧ Hid (Below wa.heap.size wa wx)
theorem insOwn_set {wa x2 : World} {e : Ent} {z : Nat} {a1 a2 : Option Addr} {n1 n2 : Nat} {F1 F2 : Nat → Prop} (hz : Blk x2 z zeroE 34) (h1 : Bytes F1 x2 (.slice a1 e.key.length n1) e.key) (h2 : Bytes F2 x2 (.slice a2 e.value.length n2) e.value) (hb : Below wa.heap.size wa x2)
    (hz0 : wa.heap.size ≤ z) (h1z : ∀ k, F1 k → k ≠ z ∧ wa.heap.size ≤ k) (h2z : ∀ k, F2 k → k ≠ z ∧ wa.heap.size ≤ k) :
    InsOwn wa e (.pointer (some ⟨z, 0, none⟩)) ((((x2.setCell ⟨z, 0, none⟩ (.slice a1 e.key.length n1)).setCell ⟨z, 1, none⟩ (.int .u64 e.seq)).setCell ⟨z, 2, none⟩ (.int .i64 e.kind)).setCell ⟨z, 3, none⟩ (.slice a2 e.value.length n2)) :=
  ⟨z, a1, a2, n1, n2, rfl, hz.set4_zero _ _ _ _, (h1.set4 (fun k hk => (h1z k hk).1) _ _ _ _).mono fun k _ hk => (h1z k hk).2, (h2.set4 (fun k hk => (h2z k hk).1) _ _ _ _).mono fun k _ hk => (h2z k hk).2, below_set4 hb hz0 _ _ _ _⟩
theorem insOwn_new {wa x2 : World} {e : Ent} {a1 a2 : Option Addr} {n1 n2 : Nat} {F1 F2 : Nat → Prop} (h1 : Bytes F1 x2 (.slice a1 e.key.length n1) e.key) (h2 : Bytes F2 x2 (.slice a2 e.value.length n2) e.value) (hb : Below wa.heap.size wa x2)
    (h1z : ∀ k, F1 k → wa.heap.size ≤ k) (h2z : ∀ k, F2 k → wa.heap.size ≤ k) :
    InsOwn wa e (.pointer (some ⟨x2.heap.size, 0, none⟩)) (x2.alloc (.cells #[.slice a1 e.key.length n1, .int .u64 e.seq, .int .i64 e.kind, .slice a2 e.value.length n2] 34)) :=
  ⟨x2.heap.size, a1, a2, n1, n2, rfl, Blk.at_new rfl rfl, (h1.below ((Below.refl _ _).alloc (Nat.le_refl _) _)).mono fun k _ hk => h1z k hk, (h2.below ((Below.refl _ _).alloc (Nat.le_refl _) _)).mono fun k _ hk => h2z k hk, below_al hb _⟩

/-- append of things that lay there (in wb), at a step of a region that draws its order. -/
theorem step_append_at {α : Type} {K : Kind α} {P : Program} {ops : Array Oper} {o : Oper} {a : Act} {C : Act → World → Prop} {Q : Exit → Act → World → Prop} {E : Prop} (hgd : o.guard = none) (t e : TypeId) (z : Value) (bytes : Nat) (ht : P.underlying t = some (.slice e))
    (hinfo : (P.info? e).map (fun i => (i.zero, i.size, i.bytes)) = some (some z, K.sz, bytes)) (hzs : z.cells.size = K.sz)
    (F : Nat → Prop) (wb W : World) (v : Value) (xs : List α) (v2 : Value) (ys : List α) (s x : Operand)
    (ho : o.op = .call { callee := .builtin .append, args := #[s, x], argTypes := #[t, t] })
    (hs : a.eval s = v) (hx : a.eval x = v2) (hown : RO K F wb.heap.size e W v xs) (hbW : Below wb.heap.size wb W) (cs2 : List Value) (G R : Nat → Prop) (hsrc : Sl G wb K.sz v2 ys.length cs2)
    (hels : Els K R wb cs2 ys) (hR : ∀ k, k < wb.heap.size → R k → F k) (hFb : ∀ k, F k → k < wb.heap.size) (hm : xs.length + ys.length ≤ 1000000) (hby : bytes ≤ 100000)
    (h : ∀ v' w', RO K F wb.heap.size e w' v' (xs ++ ys) → Below wb.heap.size wb w' → (∀ k, k < W.heap.size → v.ownBlock ≠ some k → w'.heap[k]? = W.heap[k]?) → C (a.put o.dst v') w') :
    if Region.wanted o (yielded ops a.tmps) = true then Oper.wp P o a W C Q else E := by
  refine step_append_RO hgd t e z bytes ht hinfo hzs F wb.heap.size v xs v2 ys s x ho hs hx hown cs2 G (hsrc.keep fun k hk _ => hbW.block k hk) ?_ (fun k hk => Nat.lt_of_lt_of_le (hFb k hk) hbW.size) hm hby hbW.size
    fun v' w' h1 h2 h3 => h v' w' h1 (hbW.trans h2) h3
  exact ((hels.mono (F' := F) hR).keep fun k hk _ => hbW.block k hk).mono fun k _ hF => ⟨hF, fun e => by have := hown.base_le k e; have := hFb k hF; omega⟩

/-- append of one thing that lies in a block of its own. -/
theorem step_append_one_at {α : Type} {K : Kind α} {P : Program} {ops : Array Oper} {o : Oper} {a : Act} {C : Act → World → Prop} {Q : Exit → Act → World → Prop} {E : Prop} (hgd : o.guard = none) (t e : TypeId) (z : Value) (bytes : Nat) (ht : P.underlying t = some (.slice e))
    (hinfo : (P.info? e).map (fun i => (i.zero, i.size, i.bytes)) = some (some z, K.sz, bytes)) (hzs : z.cells.size = K.sz)
    (F : Nat → Prop) (wb W : World) (v : Value) (xs : List α) (k0 : Nat) (c : Array Value) (y : α) (s x : Operand)
    (ho : o.op = .call { callee := .builtin .append, args := #[s, x], argTypes := #[t, t] })
    (hs : a.eval s = v) (hx : a.eval x = .slice (some ⟨k0, 0, none⟩) 1 1) (hown : RO K F wb.heap.size e W v xs) (hbW : Below wb.heap.size wb W) (hblk : Blk W k0 c e)
    (R : Nat → Prop) (hel : K.R R wb c.toList y) (hR : ∀ k, k < wb.heap.size → R k → F k) (hFb : ∀ k, F k → k < wb.heap.size) (hm : xs.length < 1000000) (hby : bytes ≤ 100000)
    (h : ∀ v' w', RO K F wb.heap.size e w' v' (xs ++ [y]) → Below wb.heap.size wb w' → C (a.put o.dst v') w') :
    if Region.wanted o (yielded ops a.tmps) = true then Oper.wp P o a W C Q else E := by
  have hcl := K.len hel
  have hsl : Sl (fun k => k = k0) W K.sz (.slice (some ⟨k0, 0, none⟩) 1 1) ([y] : List α).length c.toList := by
    refine ⟨_, _, rfl, Nat.le_refl _, by simp [maxLen], by simp, by rw [hcl]; simp, fun j u hj => ⟨_, rfl, rfl, ?_⟩⟩
    rw [add_plain']
    exact hblk.cell (by simpa using hj)
  refine step_append_RO hgd t e z bytes ht hinfo hzs F wb.heap.size v xs _ [y] s x ho hs hx hown _ _ hsl ?_ (fun k hk => Nat.lt_of_lt_of_le (hFb k hk) hbW.size) (by simp only [List.length_singleton]; omega) hby hbW.size
    fun v' w' h1 h2 h3 => h v' w' h1 (hbW.trans h2)
  exact (((Els.single hel).mono (F' := F) hR).keep fun k hk _ => hbW.block k hk).mono fun k _ hF => ⟨hF, fun e => by have := hown.base_le k e; have := hFb k hF; omega⟩

theorem Blk.grown {W w' : World} {k : Nat} {c : Array Value} {T : TypeId} {v : Value} (h : Blk W k c T) (hsm : ∀ k, k < W.heap.size → v.ownBlock ≠ some k → w'.heap[k]? = W.heap[k]?) (hne : v.ownBlock ≠ some k) : Blk w' k c T := h.same (hsm k h.lt hne)

/-- Rows that were made anew, and stored into cell j of block rb. -/
def NewRow {α : Type} (K : Kind α) (F : Nat → Prop) (e T : TypeId) (rb j : Nat) (row : Array Value) (wb : World) (xs : List α) (wx : World) : Prop :=
  ∃ v, Blk wx rb (row.setIfInBounds j v) T ∧ RO K F wb.heap.size e wx v xs ∧ Wrote (fun k => k = rb) wb wx
theorem newRow_of {α : Type} {K : Kind α} {F : Nat → Prop} {e T : TypeId} {rb j : Nat} {row : Array Value} {wb x : World} {xs : List α} {v : Value} (h : RO K F wb.heap.size e x v xs) (hb : Below wb.heap.size wb x) (hrb : Blk x rb row T) (hlt : rb < wb.heap.size) (hF : ∀ k, F k → k ≠ rb) :
    NewRow K F e T rb j row wb xs (x.setCell ⟨rb, j, none⟩ v) := by
  refine ⟨v, hrb.set j v, ?_, (Wrote.of_below hb).setCell _ _ (.inl rfl)⟩
  rcases h with h | h
  · exact .inl h
  · refine .inr (h.keep fun k hk hF' => heap_setCell_other _ _ _ _ ?_)
    rcases hF' with hF' | hF'
    · have := (h.lt k hF').1
      show k ≠ rb
      omega
    · exact hF k hF'.1

/-- What Insert says and leaves, in plain lists. -/
def RefIns (e : Ent) (h : Int) (es : List Ent) (hs : List Nat) (c : Nat) (es' : List Ent) (hs' : List Nat) : Prop :=
  (e.chk ≠ 0 ∧ c = e.chk ∧ es' = es ∧ hs' = hs) ∨ (e.chk = 0 ∧ (h < 1 ∨ 12 < h) ∧ c = 2 ∧ es' = es ∧ hs' = hs) ∨
    (e.chk = 0 ∧ 1 ≤ h ∧ h ≤ 12 ∧ isOf (plc e.key e.seq) es (placeOf (plc e.key e.seq) es) = true ∧ c = 5 ∧ es' = es ∧ hs' = hs) ∨
    (e.chk = 0 ∧ 1 ≤ h ∧ h ≤ 12 ∧ isOf (plc e.key e.seq) es (placeOf (plc e.key e.seq) es) = false ∧ c = 0 ∧
      es' = (es.take (placeOf (plc e.key e.seq) es) ++ [e]) ++ es.drop (placeOf (plc e.key e.seq) es) ∧ hs' = (hs.take (placeOf (plc e.key e.seq) es) ++ [h.toNat]) ++ hs.drop (placeOf (plc e.key e.seq) es))

def RefInsPost (p : Nat → Prop) (rb : Nat) (es : List Ent) (hs : List Nat) (e : Ent) (h : Int) (w : World) (x : Ending) (w' : World) : Prop :=
  ∃ (c : Nat) (es' : List Ent) (hs' : List Nat), x = .returned (.int .i64 (c : Int)) ∧ RfT (fun k => p k ∨ w.heap.size ≤ k) w' rb es' hs' ∧ Wrote (fun k => k = rb) w w' ∧ RefIns e h es hs c es' hs'

theorem size_ent : (Try.prog.info? (Try.prog.elem 22)).map (·.size) = some 4 := by kernel_rfl
theorem under_ents : Try.prog.underlying 22 = some (.slice (Try.prog.elem 22)) := by kernel_rfl
theorem size_int : (Try.prog.info? (Try.prog.elem 23)).map (·.size) = some 1 := by kernel_rfl
theorem under_ints : Try.prog.underlying 23 = some (.slice (Try.prog.elem 23)) := by kernel_rfl
theorem info_int : (Try.prog.info? 3).map (fun i => (i.zero, i.size, i.bytes)) = some (some (.int .i64 0), 1, 8) := by kernel_rfl

set_option maxRecDepth 100000 in
set_option maxHeartbeats 4000000 in
theorem rfIns_any (p : Nat → Prop) (rb : Nat) (es : List Ent) (hs : List Nat) (hlen : hs.length = es.length) (hfew : es.length < 1000000) (F G : Nat → Prop) (e : Ent) (vk vv : Value) (h : Int) (w : World) (hI : RfT p w rb es hs) (hk : Bytes F w vk e.key) (hv : Bytes G w vv e.value) :
    Calls Try.prog 26 #[.pointer (some ⟨rb, 0, none⟩), .agg (entCells e vk vv).toArray, .int .i64 h] w (RefInsPost p rb es hs e h w) := by
  obtain ⟨ka, kc, rfl⟩ := hk.isSlice
  obtain ⟨va, vc, rfl⟩ := hv.isSlice
  have HI := Lib.hid (hI.mono (q := fun k => p k ∧ k < w.heap.size) fun k hk hp => ⟨hp, hk⟩)
  have HK := Lib.hid hk
  have HV := Lib.hid hv
  have HL := Lib.hid hlen
  have HR := Lib.hid hI.lt
  clear hI hk hv hlen
  have HQ : Hid (∀ {wz : World} {c : Nat}, Below w.heap.size w wz → RefIns e h es hs c es hs → RefInsPost p rb es hs e h w (.returned (.int .i64 (c : Int))) wz) := fun hb hr =>
    ⟨_, es, hs, rfl, ((HI.out.below hb).mono fun k _ hp => .inl hp.1), Wrote.of_below hb, hr⟩
  unfold entCells
  go_enter Try.func26, Try.ntmps26
  go_upto_region 1 with fail
  refine wp_gen fun w1 hw1 => ?_
  have HW1 : Hid (Below w.heap.size w w1) := by rw [hw1]; exact (Below.refl _ _).alloc (Nat.le_refl _) _
  have HE1 : Hid (Blk w1 w.heap.size (entCells e (.slice ka e.key.length kc) (.slice va e.value.length vc)).toArray 34) := by rw [hw1]; exact Blk.at_new rfl rfl
  clear hw1
  have c0 : w1.cell? ⟨w.heap.size, 0, none⟩ = some (.slice ka e.key.length kc) := HE1.out.cell rfl
  have c1 : w1.cell? ⟨w.heap.size, 1, none⟩ = some (.int .u64 e.seq) := HE1.out.cell rfl
  have c2 : w1.cell? ⟨w.heap.size, 2, none⟩ = some (.int .i64 e.kind) := HE1.out.cell rfl
  have c3 : w1.cell? ⟨w.heap.size, 3, none⟩ = some (.slice va e.value.length vc) := HE1.out.cell rfl
  go_wp2_with fail
  refine Calls.mono (rcheckE_any _ _ e (.slice ka e.key.length kc) (.slice va e.value.length vc) w1 (HK.out.below HW1.out) (HV.out.below HW1.out)) ?_
  rintro _ w2 ⟨rfl, hb2⟩
  have HW2 : Hid (Below w.heap.size w w2) := HW1.out.trans (hb2.mono HW1.out.size)
  have HE2 := Lib.hid (HE1.out.below hb2 HE1.out.lt)
  clear hb2 HW1 HE1 c0 c1 c2 c3
  by_cases hch : e.chk = 0
  · rw [hch]
    have HCH := Lib.hid hch
    clear hch
    by_cases hh : 1 ≤ h ∧ h ≤ 12
    · have h1 : ¬ h < 1 := by omega
      have h2 : ¬ 12 < h := by omega
      have c0 : w2.cell? ⟨w.heap.size, 0, none⟩ = some (.slice ka e.key.length kc) := HE2.out.cell rfl
      have c1 : w2.cell? ⟨w.heap.size, 1, none⟩ = some (.int .u64 e.seq) := HE2.out.cell rfl
      have HH := Lib.hid hh
      clear hh
      go_wp2_with fail
      refine Calls.mono (place_any _ rb es hs _ e.key e.seq _ w2 (HI.out.below HW2.out) (HK.out.below HW2.out)) ?_
      rintro _ w3 ⟨rfl, hb3⟩
      have HW3 : Hid (Below w.heap.size w w3) := HW2.out.trans (hb3.mono HW2.out.size)
      have HE3 := Lib.hid (HE2.out.below hb3 HE2.out.lt)
      clear hb3 HW2 HE2 c0 c1 h1 h2
      have c0 : w3.cell? ⟨w.heap.size, 0, none⟩ = some (.slice ka e.key.length kc) := HE3.out.cell rfl
      have c1 : w3.cell? ⟨w.heap.size, 1, none⟩ = some (.int .u64 e.seq) := HE3.out.cell rfl
      have hple := placeOf_le (plc e.key e.seq) es
      obtain ⟨i, hi⟩ : ∃ i, placeOf (plc e.key e.seq) es = i := ⟨_, rfl⟩
      have HIP := Lib.hid hi
      rw [hi] at hple
      rw [hi]
      clear hi
      go_wp2_with fail
      refine Calls.mono (rfIs_any _ rb es hs _ i e.key e.seq _ w3 (HI.out.below HW3.out) (HK.out.below HW3.out)) ?_
      rintro _ w4 ⟨rfl, hb4⟩
      have HW4 : Hid (Below w.heap.size w w4) := HW3.out.trans (hb4.mono HW3.out.size)
      have HE4 := Lib.hid (HE3.out.below hb4 HE3.out.lt)
      clear hb4 HW3 HE3 c0 c1
      cases hi : isOf (plc e.key e.seq) es i with
      | true =>
        have HII : Hid (isOf (plc e.key e.seq) es (placeOf (plc e.key e.seq) es) = true) := by show _ = _; rw [HIP.out, hi]
        clear hi
        go_wp2_with fail
        go_ret
        exact HQ.out (c := 5) HW4.out (.inr (.inr (.inl ⟨HCH.out, HH.out.1, HH.out.2, HII.out, rfl, rfl, rfl⟩)))
      | false =>
        have HII : Hid (isOf (plc e.key e.seq) es (placeOf (plc e.key e.seq) es) = false) := by show _ = _; rw [HIP.out, hi]
        clear hi
        go_upto_region 9 with fail
        refine wp_gen fun wa hwa => ?_
        subst hwa
        have HCk := chk_zero HCH.out
        have HC : Hid (C4 w.heap.size e (.slice ka e.key.length kc) (.slice va e.value.length vc) wa) := ⟨HE4.out.cell rfl, HE4.out.cell rfl, HE4.out.cell rfl, HE4.out.cell rfl⟩
        have HZ : Hid (w.heap.size < wa.heap.size) := HE4.out.lt
        have HKa := Lib.hid (HK.out.below HW4.out)
        have HVa := Lib.hid (HV.out.below HW4.out)
        have HLK : Hid (e.key.length ≤ 140737488355328 ∧ e.value.length ≤ 140737488355328) := ⟨by omega, by omega⟩
        clear HE4 HCk
        go_cut [9] from 34 to 46 (fun s wx => InsOwn wa e s wx)
        case first =>
          go_region_held3 (fun w' => w'.cell? ⟨w.heap.size, 0, none⟩ = some (.slice ka e.key.length kc) ∧ w'.cell? ⟨w.heap.size, 1, none⟩ = some (.int .u64 e.seq) ∧ w'.cell? ⟨w.heap.size, 2, none⟩ = some (.int .i64 e.kind) ∧ w'.cell? ⟨w.heap.size, 3, none⟩ = some (.slice va e.value.length vc))
            ((refine HC.out.keep (B := wa.heap.size) ?_ HZ.out; first | ((with_reducible refine below_set4' ?_ ?_ _ _ _ _) <;> first | assumption | exact Nat.le_refl _ | exact hb1.size | (simp; done) | (have := hb1.size; simp; omega) | (have := hb1.size; omega)) | (repeat (first | assumption | exact Below.refl _ _ | with_reducible refine below_drew ?_ | with_reducible refine below_al ?_ _))))
            (first
              | (refine step_append_new (by rfl) _ F (.slice ka e.key.length kc) e.key (.tmp 34) (.tmp 36) (by rfl) (by rfl) (by rfl) ?_ HLK.out.1 ?_
                 · refine HKa.out.below ?_
                   (repeat (first | assumption | exact Below.refl _ _ | with_reducible refine below_drew ?_ | with_reducible refine below_al ?_ _))
                 intro v1 x1 hv1 hbk1
                 have hb1 : Below wa.heap.size wa x1 := by
                   refine below_chain ?_ hbk1
                   (repeat (first | assumption | exact Below.refl _ _ | with_reducible refine below_drew ?_ | with_reducible refine below_al ?_ _))
                 have hf1 := hv1.mono (F' := fun k => (_ ≤ k) ∧ k < x1.heap.size) fun k hk h => ⟨h, hk⟩
                 try
                   have hz10 : Blk x1 wa.heap.size zeroE 34 := by
                     refine Blk.below' ?_ hbk1
                     (repeat (first | assumption | ((with_reducible refine Blk.at_new ?_ ?_) <;> first | (simp; done) | (unfold zeroE; rfl)) | with_reducible refine Blk.drew ?_ | with_reducible refine Blk.alloc ?_ _))
                 try
                   have hz11 : Blk x1 (wa.heap.size + 1) zeroE 34 := by
                     refine Blk.below' ?_ hbk1
                     (repeat (first | assumption | ((with_reducible refine Blk.at_new ?_ ?_) <;> first | (simp; done) | (unfold zeroE; rfl)) | with_reducible refine Blk.drew ?_ | with_reducible refine Blk.alloc ?_ _))
                 try
                   have hz12 : Blk x1 (wa.heap.size + 1 + 1) zeroE 34 := by
                     refine Blk.below' ?_ hbk1
                     (repeat (first | assumption | ((with_reducible refine Blk.at_new ?_ ?_) <;> first | (simp; done) | (unfold zeroE; rfl)) | with_reducible refine Blk.drew ?_ | with_reducible refine Blk.alloc ?_ _))
                 obtain ⟨a1, n1, rfl⟩ := hv1.isSlice
                 clear hv1)
              | (refine step_append_new (by rfl) _ G (.slice va e.value.length vc) e.value (.tmp 42) (.tmp 44) (by rfl) (by rfl) (by rfl) ?_ HLK.out.2 ?_
                 · refine HVa.out.below ?_
                   (repeat (first | assumption | exact Below.refl _ _ | with_reducible refine below_drew ?_ | with_reducible refine below_al ?_ _))
                 intro v2 x2 hv2 hbk2
                 have hb2 : Below wa.heap.size wa x2 := by
                   refine below_chain ?_ hbk2
                   (repeat (first | assumption | exact Below.refl _ _ | with_reducible refine below_drew ?_ | with_reducible refine below_al ?_ _))
                 have hf2 := hv2.mono (F' := fun k => (_ ≤ k) ∧ k < x2.heap.size) fun k hk h => ⟨h, hk⟩
                 have hg1 : Below x1.heap.size x1 x2 := by
                   refine below_chain ?_ hbk2
                   (repeat (first | assumption | exact Below.refl _ _ | with_reducible refine below_drew ?_ | with_reducible refine below_al ?_ _))
                 try
                   have hz20 : Blk x2 wa.heap.size zeroE 34 := by
                     refine Blk.below' ?_ hbk2
                     (repeat (first | assumption | ((with_reducible refine Blk.at_new ?_ ?_) <;> first | (simp; done) | (unfold zeroE; rfl)) | with_reducible refine Blk.drew ?_ | with_reducible refine Blk.alloc ?_ _))
                 try
                   have hz21 : Blk x2 (wa.heap.size + 1) zeroE 34 := by
                     refine Blk.below' ?_ hbk2
                     (repeat (first | assumption | ((with_reducible refine Blk.at_new ?_ ?_) <;> first | (simp; done) | (unfold zeroE; rfl)) | with_reducible refine Blk.drew ?_ | with_reducible refine Blk.alloc ?_ _))
                 try
                   have hz22 : Blk x2 (wa.heap.size + 1 + 1) zeroE 34 := by
                     refine Blk.below' ?_ hbk2
                     (repeat (first | assumption | ((with_reducible refine Blk.at_new ?_ ?_) <;> first | (simp; done) | (unfold zeroE; rfl)) | with_reducible refine Blk.drew ?_ | with_reducible refine Blk.alloc ?_ _))
                 try
                   have hz23 : Blk x2 x1.heap.size zeroE 34 := by
                     refine Blk.below' ?_ hbk2
                     (repeat (first | assumption | ((with_reducible refine Blk.at_new ?_ ?_) <;> first | (simp; done) | (unfold zeroE; rfl)) | with_reducible refine Blk.drew ?_ | with_reducible refine Blk.alloc ?_ _))
                 try
                   have hz24 : Blk x2 (x1.heap.size + 1) zeroE 34 := by
                     refine Blk.below' ?_ hbk2
                     (repeat (first | assumption | ((with_reducible refine Blk.at_new ?_ ?_) <;> first | (simp; done) | (unfold zeroE; rfl)) | with_reducible refine Blk.drew ?_ | with_reducible refine Blk.alloc ?_ _))
                 obtain ⟨a2, n2, rfl⟩ := hv2.isSlice
                 clear hv2
                 try
                   have q0 := hz20.cell (i := 0) rfl
                   have q1 := hz20.cell (i := 1) rfl
                   have q2 := hz20.cell (i := 2) rfl
                   have q3 := hz20.cell (i := 3) rfl
                   have f0 := hz20.free 0
                   have f1 := hz20.free 1
                   have f2 := hz20.free 2
                   have f3 := hz20.free 3
                 try
                   have q0 := hz21.cell (i := 0) rfl
                   have q1 := hz21.cell (i := 1) rfl
                   have q2 := hz21.cell (i := 2) rfl
                   have q3 := hz21.cell (i := 3) rfl
                   have f0 := hz21.free 0
                   have f1 := hz21.free 1
                   have f2 := hz21.free 2
                   have f3 := hz21.free 3
                 try
                   have q0 := hz22.cell (i := 0) rfl
                   have q1 := hz22.cell (i := 1) rfl
                   have q2 := hz22.cell (i := 2) rfl
                   have q3 := hz22.cell (i := 3) rfl
                   have f0 := hz22.free 0
                   have f1 := hz22.free 1
                   have f2 := hz22.free 2
                   have f3 := hz22.free 3
                 try
                   have q0 := hz23.cell (i := 0) rfl
                   have q1 := hz23.cell (i := 1) rfl
                   have q2 := hz23.cell (i := 2) rfl
                   have q3 := hz23.cell (i := 3) rfl
                   have f0 := hz23.free 0
                   have f1 := hz23.free 1
                   have f2 := hz23.free 2
                   have f3 := hz23.free 3
                 try
                   have q0 := hz24.cell (i := 0) rfl
                   have q1 := hz24.cell (i := 1) rfl
                   have q2 := hz24.cell (i := 2) rfl
                   have q3 := hz24.cell (i := 3) rfl
                   have f0 := hz24.free 0
                   have f1 := hz24.free 1
                   have f2 := hz24.free 2
                   have f3 := hz24.free 3))
          all_goals
            go_wp2_with fail
            go_meet
            have hs1 := hb1.size
            have hs2 := hg1.size
            first
              | have hq1 := hz10.lt
              | have hq1 := hz11.lt
              | have hq1 := hz12.lt
              | skip
            first
              | (with_reducible refine insOwn_new (hf1.below hg1) hf2 hb2 ?_ ?_)
              | (with_reducible refine insOwn_set hz20 (hf1.below hg1) hf2 hb2 ?_ ?_ ?_)
              | (with_reducible refine insOwn_set hz21 (hf1.below hg1) hf2 hb2 ?_ ?_ ?_)
              | (with_reducible refine insOwn_set hz22 (hf1.below hg1) hf2 hb2 ?_ ?_ ?_)
              | (with_reducible refine insOwn_set hz23 (hf1.below hg1) hf2 hb2 ?_ ?_ ?_)
              | (with_reducible refine insOwn_set hz24 (hf1.below hg1) hf2 hb2 ?_ ?_ ?_)
            all_goals
              first
                | (intro k hk; simp at hk; omega)
                | omega
        case rest =>
          obtain ⟨z, a1, a2, n1, n2, rfl, HZb, HB1, HB2, HBw⟩ := hcut
          go_upto_region 10 with fail
          refine wp_gen fun wb hwb => ?_
          subst hwb
          have HIb := Lib.hid ((HI.out.below HW4.out).below HBw.out)
          have HWb : Hid (Below w.heap.size w wb) := HW4.out.trans (HBw.out.mono HW4.out.size)
          have HSz : Hid (w.heap.size < wa.heap.size ∧ wa.heap.size ≤ wb.heap.size) := ⟨HZ.out, HBw.out.size⟩
          clear HC HKa HVa HLK HI HW4 HBw HZ
          obtain ⟨v0, vh0, hrb, hre, hrn⟩ := HIb.out
          obtain ⟨ea, ec, rfl⟩ := hre.isSlice
          obtain ⟨na, nc, rfl⟩ := hrn.isSlice
          have HRB := Lib.hid hrb
          have HRN := Lib.hid hrn
          have k0 : wb.cell? ⟨rb, 0, none⟩ = some (.slice ea es.length ec) := hrb.cell rfl
          have hn0 := World.new_ne wb _ k0
          obtain ⟨s1, hs1, hw1⟩ := hre.slice_h under_ents size_ent i hple
          obtain ⟨s2, hs2, hw2⟩ := hre.slice_l under_ents size_ent i hple
          obtain ⟨p1, q1, hv1⟩ := hw1.isSlice
          obtain ⟨p2, q2, hv2⟩ := hw2.isSlice
          rw [List.length_take, Nat.min_eq_left hple] at hv1
          rw [List.length_drop] at hv2
          subst hv1 hv2
          obtain ⟨cs1, hsl1, hel1⟩ := hw1
          obtain ⟨cs2, hsl2, hel2⟩ := hw2
          have HS1 := Lib.hid hsl1
          have HE1 := Lib.hid hel1
          have HS2 := Lib.hid hsl2
          have HE2 := Lib.hid hel2
          obtain ⟨F, hF⟩ : ∃ F : Nat → Prop, F = fun k => k < wb.heap.size ∧ k ≠ rb ∧ ((p k ∧ k < w.heap.size) ∨ wa.heap.size ≤ k) := ⟨_, rfl⟩
          have HR1 : Hid (∀ k, k < wb.heap.size → ((p k ∧ k < w.heap.size) ∧ k ≠ rb) → F k) := fun k hk hp => by rw [hF]; exact ⟨hk, hp.2, .inl hp.1⟩
          have HR2 : Hid (∀ k, k < wb.heap.size → wa.heap.size ≤ k → F k) := fun k hk hp => by rw [hF]; exact ⟨hk, by have := HR.out; have := HSz.out; omega, .inr hp⟩
          have HFb : Hid (∀ k, F k → k < wb.heap.size) := fun k hk => by rw [hF] at hk; exact hk.1
          have HFr : Hid (∀ k, F k → k ≠ rb) := fun k hk => by rw [hF] at hk; exact hk.2.1
          have HFx : Hid (∀ k, F k → p k ∨ w.heap.size ≤ k) := fun k hk => by rw [hF] at hk; rcases hk.2.2 with h | h; exact .inl h.1; exact .inr (by have := HSz.out; omega)
          have HEL : Hid (entK.R (fun k => wa.heap.size ≤ k) wb (entCells e (.slice a1 e.key.length n1) (.slice a2 e.value.length n2)).toArray.toList e) := ⟨_, _, rfl, HB1.out, HB2.out⟩
          have HM1 : Hid (([] : List Ent).length + (es.take i).length ≤ 1000000) := by show _ ≤ _; rw [List.length_take, List.length_nil]; omega
          have HM2 : Hid ((es.take i).length < 1000000) := by show _ < _; rw [List.length_take]; omega
          have HM3 : Hid ((es.take i ++ [e]).length + (es.drop i).length ≤ 1000000) := by show _ ≤ _; rw [List.length_append, List.length_take, List.length_drop, List.length_singleton]; omega
          have HC : Hid (C4 z e (.slice a1 e.key.length n1) (.slice a2 e.value.length n2) wb) := ⟨HZb.out.cell rfl, HZb.out.cell rfl, HZb.out.cell rfl, HZb.out.cell rfl⟩
          have HZ : Hid (z < wb.heap.size) := HZb.out.lt
          have hil : (i : Int) ≤ (es.length : Int) := by omega
          have hi0 : (0 : Int) ≤ (i : Int) := by omega
          clear hrb hre hrn hsl1 hsl2 hel1 hel2 hF HIb HZb HB1 HB2
          go_cut [8] from 47 to 67 (fun s wx => s = .int .i64 (i : Int) ∧ NewRow entK F 34 55 rb 0 #[.slice ea es.length ec, .slice na hs.length nc] wb ((es.take i ++ [e]) ++ es.drop i) wx)
          case first =>
            have HSK : Hid (∀ x, Below wb.heap.size wb x → (fun w' : World => w'.cell? ⟨rb, 0, none⟩ = some (.slice ea es.length ec) ∧ w'.cell? ⟨z, 0, none⟩ = some (.slice a1 e.key.length n1) ∧ w'.cell? ⟨z, 1, none⟩ = some (.int .u64 e.seq) ∧ w'.cell? ⟨z, 2, none⟩ = some (.int .i64 e.kind) ∧ w'.cell? ⟨z, 3, none⟩ = some (.slice a2 e.value.length n2)) x) := fun x hx => ⟨(World.cell?_of_block (a := ⟨rb, 0, none⟩) (hx.block rb HRB.out.lt)).trans k0, HC.out.keep hx HZ.out⟩
            have hS : (fun w' : World => w'.cell? ⟨rb, 0, none⟩ = some (.slice ea es.length ec) ∧ w'.cell? ⟨z, 0, none⟩ = some (.slice a1 e.key.length n1) ∧ w'.cell? ⟨z, 1, none⟩ = some (.int .u64 e.seq) ∧ w'.cell? ⟨z, 2, none⟩ = some (.int .i64 e.kind) ∧ w'.cell? ⟨z, 3, none⟩ = some (.slice a2 e.value.length n2)) wb.drew := HSK.out _ (below_drew (Below.refl _ _))
            refine wp_region_last (S := (fun w' : World => w'.cell? ⟨rb, 0, none⟩ = some (.slice ea es.length ec) ∧ w'.cell? ⟨z, 0, none⟩ = some (.slice a1 e.key.length n1) ∧ w'.cell? ⟨z, 1, none⟩ = some (.int .u64 e.seq) ∧ w'.cell? ⟨z, 2, none⟩ = some (.int .i64 e.kind) ∧ w'.cell? ⟨z, 3, none⟩ = some (.slice a2 e.value.length n2))) (n := 21) (l := ?lT) (o := ?oT) rfl ?hlT ?hoT ?hnT ?hbT ?hgT ?hT
            case hlT => simp only [List.dropLast]; rfl
            case hoT => rfl
            case hnT => rfl
            case hbT => kernel_rfl
            case hgT => rfl
            refine wpAnyH_take (i := 0) (oi := ?oT_0) (v := ?vT_0) ?eT_0 (by kernel_rfl) (by kernel_rfl) (by kernel_rfl) ?qT_0 (Or.inl ⟨?wT_0, ?yT_0⟩) (by assumption) ?rT_0
            case eT_0 => simp only [List.getElem?_toArray, List.getElem?_cons_zero]; rfl
            case wT_0 => rfl
            case qT_0 => exact fun _ _ _ h => h
            case yT_0 => (intro w hSw; (try dsimp only at hSw); go_simp; try with_reducible rfl)
            try simp only [Act.put, List.setIfInBounds_toArray, List.set_cons_zero, List.set_cons_succ]
            refine wpAnyH_take (i := 2) (oi := ?oT_2) (v := ?vT_2) ?eT_2 (by kernel_rfl) (by kernel_rfl) (by kernel_rfl) ?qT_2 (Or.inl ⟨?wT_2, ?yT_2⟩) (by assumption) ?rT_2
            case eT_2 => simp only [List.getElem?_toArray, List.getElem?_cons_succ, List.getElem?_cons_zero]; rfl
            case wT_2 => rfl
            case qT_2 => exact fun _ _ _ h => h
            case yT_2 => (intro w hSw; (try dsimp only at hSw); go_simp; try with_reducible rfl)
            try simp only [Act.put, List.setIfInBounds_toArray, List.set_cons_zero, List.set_cons_succ]
            refine wpAnyH_take (i := 3) (oi := ?oT_3) (v := ?vT_3) ?eT_3 (by kernel_rfl) (by kernel_rfl) (by kernel_rfl) ?qT_3 (Or.inl ⟨?wT_3, ?yT_3⟩) (by assumption) ?rT_3
            case eT_3 => simp only [List.getElem?_toArray, List.getElem?_cons_succ, List.getElem?_cons_zero]; rfl
            case wT_3 => rfl
            case qT_3 => exact fun _ _ _ h => h
            case yT_3 => (intro w hSw; (try dsimp only at hSw); go_simp; try with_reducible rfl)
            try simp only [Act.put, List.setIfInBounds_toArray, List.set_cons_zero, List.set_cons_succ]
            refine wpAnyH_take (i := 4) (oi := ?oT_4) (v := ?vT_4) ?eT_4 (by kernel_rfl) (by kernel_rfl) (by kernel_rfl) ?qT_4 (Or.inl ⟨?wT_4, ?yT_4⟩) (by assumption) ?rT_4
            case eT_4 => simp only [List.getElem?_toArray, List.getElem?_cons_succ, List.getElem?_cons_zero]; rfl
            case wT_4 => rfl
            case qT_4 => exact fun _ _ _ h => h
            case yT_4 => (intro w hSw; (try dsimp only at hSw); go_simp; try with_reducible rfl)
            try simp only [Act.put, List.setIfInBounds_toArray, List.set_cons_zero, List.set_cons_succ]
            refine wpAnyH_take (i := 5) (oi := ?oT_5) (v := ?vT_5) ?eT_5 (by kernel_rfl) (by kernel_rfl) (by kernel_rfl) ?qT_5 (Or.inl ⟨?wT_5, ?yT_5⟩) (by assumption) ?rT_5
            case eT_5 => simp only [List.getElem?_toArray, List.getElem?_cons_succ, List.getElem?_cons_zero]; rfl
            case wT_5 => rfl
            case qT_5 => exact fun _ _ _ h => h
            case yT_5 => (intro w hSw; (try dsimp only at hSw); go_simp; try with_reducible rfl)
            try simp only [Act.put, List.setIfInBounds_toArray, List.set_cons_zero, List.set_cons_succ]
            refine wpAnyH_take (i := 6) (oi := ?oT_6) (v := ?vT_6) ?eT_6 (by kernel_rfl) (by kernel_rfl) (by kernel_rfl) ?qT_6 (Or.inl ⟨?wT_6, ?yT_6⟩) (by assumption) ?rT_6
            case eT_6 => simp only [List.getElem?_toArray, List.getElem?_cons_succ, List.getElem?_cons_zero]; rfl
            case wT_6 => rfl
            case qT_6 => exact fun _ _ _ h => h
            case yT_6 => (intro w hSw; (try dsimp only at hSw); go_simp; try with_reducible rfl)
            try simp only [Act.put, List.setIfInBounds_toArray, List.set_cons_zero, List.set_cons_succ]
            refine wpAnyH_take (i := 7) (oi := ?oT_7) (v := ?vT_7) ?eT_7 (by kernel_rfl) (by kernel_rfl) (by kernel_rfl) ?qT_7 (Or.inl ⟨?wT_7, ?yT_7⟩) (by assumption) ?rT_7
            case eT_7 => simp only [List.getElem?_toArray, List.getElem?_cons_succ, List.getElem?_cons_zero]; rfl
            case wT_7 => rfl
            case qT_7 => exact fun _ _ _ h => h
            case yT_7 => (intro w hSw; (try dsimp only at hSw); go_simp; try with_reducible rfl)
            try simp only [Act.put, List.setIfInBounds_toArray, List.set_cons_zero, List.set_cons_succ]
            refine wpAnyH_take (i := 9) (oi := ?oT_9) (v := ?vT_9) ?eT_9 (by kernel_rfl) (by kernel_rfl) (by kernel_rfl) ?qT_9 (Or.inl ⟨?wT_9, ?yT_9⟩) (by assumption) ?rT_9
            case eT_9 => simp only [List.getElem?_toArray, List.getElem?_cons_succ, List.getElem?_cons_zero]; rfl
            case wT_9 => rfl
            case qT_9 => exact fun _ _ _ h => h
            case yT_9 => (intro w hSw; (try dsimp only at hSw); go_simp; try with_reducible rfl)
            try simp only [Act.put, List.setIfInBounds_toArray, List.set_cons_zero, List.set_cons_succ]
            refine wpAnyH_take (i := 12) (oi := ?oT_12) (v := ?vT_12) ?eT_12 (by kernel_rfl) (by kernel_rfl) (by kernel_rfl) ?qT_12 (Or.inl ⟨?wT_12, ?yT_12⟩) (by assumption) ?rT_12
            case eT_12 => simp only [List.getElem?_toArray, List.getElem?_cons_succ, List.getElem?_cons_zero]; rfl
            case wT_12 => rfl
            case qT_12 => exact fun _ _ _ h => h
            case yT_12 => (intro w hSw; (try dsimp only at hSw); go_simp; try with_reducible rfl)
            try simp only [Act.put, List.setIfInBounds_toArray, List.set_cons_zero, List.set_cons_succ]
            refine wpAnyH_take (i := 13) (oi := ?oT_13) (v := ?vT_13) ?eT_13 (by kernel_rfl) (by kernel_rfl) (by kernel_rfl) ?qT_13 (Or.inl ⟨?wT_13, ?yT_13⟩) (by assumption) ?rT_13
            case eT_13 => simp only [List.getElem?_toArray, List.getElem?_cons_succ, List.getElem?_cons_zero]; rfl
            case wT_13 => rfl
            case qT_13 => exact fun _ _ _ h => h
            case yT_13 => (intro w hSw; (try dsimp only at hSw); go_simp; try with_reducible rfl)
            try simp only [Act.put, List.setIfInBounds_toArray, List.set_cons_zero, List.set_cons_succ]
            refine wpAnyH_take (i := 14) (oi := ?oT_14) (v := ?vT_14) ?eT_14 (by kernel_rfl) (by kernel_rfl) (by kernel_rfl) ?qT_14 (Or.inl ⟨?wT_14, ?yT_14⟩) (by assumption) ?rT_14
            case eT_14 => simp only [List.getElem?_toArray, List.getElem?_cons_succ, List.getElem?_cons_zero]; rfl
            case wT_14 => rfl
            case qT_14 => exact fun _ _ _ h => h
            case yT_14 => (intro w hSw; (try dsimp only at hSw); go_simp; try with_reducible rfl)
            try simp only [Act.put, List.setIfInBounds_toArray, List.set_cons_zero, List.set_cons_succ]
            refine wpAnyH_take (i := 15) (oi := ?oT_15) (v := ?vT_15) ?eT_15 (by kernel_rfl) (by kernel_rfl) (by kernel_rfl) ?qT_15 (Or.inl ⟨?wT_15, ?yT_15⟩) (by assumption) ?rT_15
            case eT_15 => simp only [List.getElem?_toArray, List.getElem?_cons_succ, List.getElem?_cons_zero]; rfl
            case wT_15 => rfl
            case qT_15 => exact fun _ _ _ h => h
            case yT_15 => (intro w hSw; (try dsimp only at hSw); go_simp; try with_reducible rfl)
            try simp only [Act.put, List.setIfInBounds_toArray, List.set_cons_zero, List.set_cons_succ]
            refine wpAnyH_take (i := 16) (oi := ?oT_16) (v := ?vT_16) ?eT_16 (by kernel_rfl) (by kernel_rfl) (by kernel_rfl) ?qT_16 (Or.inl ⟨?wT_16, ?yT_16⟩) (by assumption) ?rT_16
            case eT_16 => simp only [List.getElem?_toArray, List.getElem?_cons_succ, List.getElem?_cons_zero]; rfl
            case wT_16 => rfl
            case qT_16 => exact fun _ _ _ h => h
            case yT_16 => (intro w hSw; (try dsimp only at hSw); go_simp; try with_reducible rfl)
            try simp only [Act.put, List.setIfInBounds_toArray, List.set_cons_zero, List.set_cons_succ]
            refine wpAnyH_take (i := 17) (oi := ?oT_17) (v := ?vT_17) ?eT_17 (by kernel_rfl) (by kernel_rfl) (by kernel_rfl) ?qT_17 (Or.inl ⟨?wT_17, ?yT_17⟩) (by assumption) ?rT_17
            case eT_17 => simp only [List.getElem?_toArray, List.getElem?_cons_succ, List.getElem?_cons_zero]; rfl
            case wT_17 => rfl
            case qT_17 => exact fun _ _ _ h => h
            case yT_17 => (intro w hSw; (try dsimp only at hSw); go_simp; try with_reducible rfl)
            try simp only [Act.put, List.setIfInBounds_toArray, List.set_cons_zero, List.set_cons_succ]
            refine wpAnyH_ready (rs := [1, 10]) (by kernel_rfl) (by simp) ?_
            refine AllReadyH.cons (o := ?oTq1) ?eTq1 (fun K hK => ?_) (AllReadyH.cons (o := ?pTq1) ?fTq1 (fun K hK => ?_) AllReadyH.nil)
            case eTq1 => simp only [List.getElem?_toArray, List.getElem?_cons_succ, List.getElem?_cons_zero]; rfl
            case fTq1 => simp only [List.getElem?_toArray, List.getElem?_cons_succ, List.getElem?_cons_zero]; rfl
            · rw [if_pos (by rfl)]
              go_wp2_with fail
              refine hK.out _ _ (HSK.out _ (by (repeat (first | assumption | exact Below.refl _ _ | with_reducible refine below_drew ?_ | with_reducible refine below_al ?_ _)))) (fun hS => ?_)
              clear hK
              try simp only [Act.put, List.setIfInBounds_toArray, List.set_cons_zero, List.set_cons_succ]
              refine wpAnyH_ready (rs := [8, 10]) (by kernel_rfl) (by simp) ?_
              refine AllReadyH.cons (o := ?oTq2) ?eTq2 (fun K hK => ?_) (AllReadyH.cons (o := ?pTq2) ?fTq2 (fun K hK => ?_) AllReadyH.nil)
              case eTq2 => simp only [List.getElem?_toArray, List.getElem?_cons_succ, List.getElem?_cons_zero]; rfl
              case fTq2 => simp only [List.getElem?_toArray, List.getElem?_cons_succ, List.getElem?_cons_zero]; rfl
              · refine step_append_at (K := entK) (by rfl) 22 34 (.agg zeroE) 64 Try.underlying22 info_entry rfl F wb _ (.slice (some ⟨_, 0, none⟩) 0 0) [] (.slice p1 i q1) (es.take i) (.tmp 48) (.tmp 54) (by rfl) (by rfl) (by rfl) (.inl ⟨rfl, _, ?_, rfl⟩) ?_ _ _ _ HS1.out HE1.out HR1.out HFb.out ?_ (by decide) ?_
                · first
                    | exact Nat.le_refl _
                    | (simp; done)
                · (repeat (first | assumption | exact Below.refl _ _ | with_reducible refine below_drew ?_ | with_reducible refine below_al ?_ _))
                · exact HM1.out
                intro v1 x1 ho1 hb1 hsm1
                clear hsm1
                refine hK.out _ _ (HSK.out _ hb1) (fun hS => ?_)
                clear hK
                try simp only [Act.put, List.setIfInBounds_toArray, List.set_cons_zero, List.set_cons_succ]
                refine wpAnyH_ready (rs := [10]) (by kernel_rfl) (by simp) ?_
                refine AllReadyH.cons (o := ?oTq3) ?eTq3 (fun K hK => ?_) AllReadyH.nil
                case eTq3 => simp only [List.getElem?_toArray, List.getElem?_cons_succ, List.getElem?_cons_zero]; rfl
                rw [if_pos (by rfl)]
                go_wp2_with fail
                refine hK.out _ _ (HSK.out _ (by (repeat (first | assumption | exact Below.refl _ _ | with_reducible refine below_drew ?_ | with_reducible refine below_al ?_ _)))) (fun hS => ?_)
                clear hK
                try simp only [Act.put, List.setIfInBounds_toArray, List.set_cons_zero, List.set_cons_succ]
                refine wpAnyH_ready (rs := [11]) (by kernel_rfl) (by simp) ?_
                refine AllReadyH.cons (o := ?oTq4) ?eTq4 (fun K hK => ?_) AllReadyH.nil
                case eTq4 => simp only [List.getElem?_toArray, List.getElem?_cons_succ, List.getElem?_cons_zero]; rfl
                refine step_append_one_at (K := entK) (by rfl) 22 34 (.agg zeroE) 64 Try.underlying22 info_entry rfl F wb _ v1 (es.take i) _ #[.slice a1 e.key.length n1, .int .u64 e.seq, .int .i64 e.kind, .slice a2 e.value.length n2] e (.tmp 55) (.tmp 57) (by rfl) (by rfl) (by rfl) ?_ ?_ ?_ _ HEL.out HR2.out HFb.out HM2.out (by decide) ?_
                · refine ho1.below ?_
                  (repeat (first | assumption | exact Below.refl _ _ | with_reducible refine below_drew ?_ | with_reducible refine below_al ?_ _))
                · refine below_chain hb1 ?_
                  (repeat (first | assumption | exact Below.refl _ _ | with_reducible refine below_drew ?_ | with_reducible refine below_al ?_ _))
                · (repeat (first | assumption | ((with_reducible refine Blk.at_new ?_ ?_) <;> first | (simp; done) | rfl) | with_reducible refine Blk.drew ?_ | with_reducible refine Blk.alloc ?_ _))
                intro v2 x2 ho2 hb2
                refine hK.out _ _ (HSK.out _ hb2) (fun hS => ?_)
                clear hK
                try simp only [Act.put, List.setIfInBounds_toArray, List.set_cons_zero, List.set_cons_succ]
                refine wpAnyH_ready (rs := [18]) (by kernel_rfl) (by simp) ?_
                refine AllReadyH.cons (o := ?oTq5) ?eTq5 (fun K hK => ?_) AllReadyH.nil
                case eTq5 => simp only [List.getElem?_toArray, List.getElem?_cons_succ, List.getElem?_cons_zero]; rfl
                refine step_append_at (K := entK) (by rfl) 22 34 (.agg zeroE) 64 Try.underlying22 info_entry rfl F wb _ v2 (es.take i ++ [e]) (.slice p2 (es.length - i) q2) (es.drop i) (.tmp 58) (.tmp 64) (by rfl) (by rfl) (by rfl) ?_ ?_ _ _ _ HS2.out HE2.out HR1.out HFb.out HM3.out (by decide) ?_
                · refine ho2.below ?_
                  (repeat (first | assumption | exact Below.refl _ _ | with_reducible refine below_drew ?_ | with_reducible refine below_al ?_ _))
                · refine below_chain hb2 ?_
                  (repeat (first | assumption | exact Below.refl _ _ | with_reducible refine below_drew ?_ | with_reducible refine below_al ?_ _))
                intro v3 x3 ho3 hb3 hsm3
                obtain ⟨a3, n3, hv3⟩ := ho3.isSlice
                obtain ⟨N3, hN3⟩ : ∃ N, ((es.take i ++ [e]) ++ es.drop i).length = N := ⟨_, rfl⟩
                rw [hN3] at hv3
                subst hv3
                clear hsm3 hN3
                refine hK.out _ _ (HSK.out _ hb3) (fun hS => ?_)
                clear hK
                try simp only [Act.put, List.setIfInBounds_toArray, List.set_cons_zero, List.set_cons_succ]
                refine wpAnyH_take (i := 19) (oi := ?oTaP) (v := ?vTaP) ?eTaP (by kernel_rfl) (by kernel_rfl) (by kernel_rfl) ?qTaP (Or.inl ⟨?wTaP, ?yTaP⟩) (by assumption) ?rTaP
                case eTaP => simp only [List.getElem?_toArray, List.getElem?_cons_succ, List.getElem?_cons_zero]; rfl
                case wTaP => rfl
                case qTaP => exact fun _ _ _ h => h
                case yTaP => (intro w hSw; (try dsimp only at hSw); go_simp; try with_reducible rfl)
                try simp only [Act.put, List.setIfInBounds_toArray, List.set_cons_zero, List.set_cons_succ]
                refine wpAnyH_take (i := 20) (oi := ?oTaQ) (v := ?vTaQ) ?eTaQ (by kernel_rfl) (by kernel_rfl) (by kernel_rfl) ?qTaQ (Or.inl ⟨?wTaQ, ?yTaQ⟩) (by assumption) ?rTaQ
                case eTaQ => simp only [List.getElem?_toArray, List.getElem?_cons_succ, List.getElem?_cons_zero]; rfl
                case wTaQ => rfl
                case qTaQ => exact fun _ _ _ h => h
                case yTaQ => (intro w hSw; (try dsimp only at hSw); go_simp; try with_reducible rfl)
                try simp only [Act.put, List.setIfInBounds_toArray, List.set_cons_zero, List.set_cons_succ]
                refine wpAnyH_done (by kernel_rfl) ?_ _
                have hrb3 := HRB.out.below hb3 HRB.out.lt
                have hr3 := hrb3.cell (i := 0) rfl
                have hf3 := hrb3.free 0
                have HFIN := Lib.hid (newRow_of (j := 0) ho3 hb3 hrb3 HRB.out.lt HFr.out)
                clear ho3 hb3 hrb3 ho2 hb2 ho1 hb1
                refine thenLast_of fun K hK => ?_
                go_wp2_with fail
                refine hK.out _ _ ?_
                clear hK
                go_wp2_with fail
                go_meet
                exact ⟨rfl, HFIN.out⟩
              · rw [if_pos (by rfl)]
                go_wp2_with fail
                refine hK.out _ _ (HSK.out _ (by (repeat (first | assumption | exact Below.refl _ _ | with_reducible refine below_drew ?_ | with_reducible refine below_al ?_ _)))) (fun hS => ?_)
                clear hK
                try simp only [Act.put, List.setIfInBounds_toArray, List.set_cons_zero, List.set_cons_succ]
                refine wpAnyH_ready (rs := [8]) (by kernel_rfl) (by simp) ?_
                refine AllReadyH.cons (o := ?oTq6) ?eTq6 (fun K hK => ?_) AllReadyH.nil
                case eTq6 => simp only [List.getElem?_toArray, List.getElem?_cons_succ, List.getElem?_cons_zero]; rfl
                refine step_append_at (K := entK) (by rfl) 22 34 (.agg zeroE) 64 Try.underlying22 info_entry rfl F wb _ (.slice (some ⟨_, 0, none⟩) 0 0) [] (.slice p1 i q1) (es.take i) (.tmp 48) (.tmp 54) (by rfl) (by rfl) (by rfl) (.inl ⟨rfl, _, ?_, rfl⟩) ?_ _ _ _ HS1.out HE1.out HR1.out HFb.out ?_ (by decide) ?_
                · first
                    | exact Nat.le_refl _
                    | (simp; done)
                · (repeat (first | assumption | exact Below.refl _ _ | with_reducible refine below_drew ?_ | with_reducible refine below_al ?_ _))
                · exact HM1.out
                intro v1 x1 ho1 hb1 hsm1
                have hl1 : Blk x1 (wb.heap.size + 1) #[.slice a1 e.key.length n1, .int .u64 e.seq, .int .i64 e.kind, .slice a2 e.value.length n2] 34 := by
                  refine Blk.grown ?_ hsm1 ?_
                  · (repeat (first | assumption | ((with_reducible refine Blk.at_new ?_ ?_) <;> first | (simp; done) | rfl) | with_reducible refine Blk.drew ?_ | with_reducible refine Blk.alloc ?_ _))
                  · simp [Value.ownBlock]
                clear hsm1
                refine hK.out _ _ (HSK.out _ hb1) (fun hS => ?_)
                clear hK
                try simp only [Act.put, List.setIfInBounds_toArray, List.set_cons_zero, List.set_cons_succ]
                refine wpAnyH_ready (rs := [11]) (by kernel_rfl) (by simp) ?_
                refine AllReadyH.cons (o := ?oTq7) ?eTq7 (fun K hK => ?_) AllReadyH.nil
                case eTq7 => simp only [List.getElem?_toArray, List.getElem?_cons_succ, List.getElem?_cons_zero]; rfl
                refine step_append_one_at (K := entK) (by rfl) 22 34 (.agg zeroE) 64 Try.underlying22 info_entry rfl F wb _ v1 (es.take i) _ #[.slice a1 e.key.length n1, .int .u64 e.seq, .int .i64 e.kind, .slice a2 e.value.length n2] e (.tmp 55) (.tmp 57) (by rfl) (by rfl) (by rfl) ?_ ?_ ?_ _ HEL.out HR2.out HFb.out HM2.out (by decide) ?_
                · refine ho1.below ?_
                  (repeat (first | assumption | exact Below.refl _ _ | with_reducible refine below_drew ?_ | with_reducible refine below_al ?_ _))
                · refine below_chain hb1 ?_
                  (repeat (first | assumption | exact Below.refl _ _ | with_reducible refine below_drew ?_ | with_reducible refine below_al ?_ _))
                · (repeat (first | assumption | ((with_reducible refine Blk.at_new ?_ ?_) <;> first | (simp; done) | rfl) | with_reducible refine Blk.drew ?_ | with_reducible refine Blk.alloc ?_ _))
                intro v2 x2 ho2 hb2
                refine hK.out _ _ (HSK.out _ hb2) (fun hS => ?_)
                clear hK
                try simp only [Act.put, List.setIfInBounds_toArray, List.set_cons_zero, List.set_cons_succ]
                refine wpAnyH_ready (rs := [18]) (by kernel_rfl) (by simp) ?_
                refine AllReadyH.cons (o := ?oTq8) ?eTq8 (fun K hK => ?_) AllReadyH.nil
                case eTq8 => simp only [List.getElem?_toArray, List.getElem?_cons_succ, List.getElem?_cons_zero]; rfl
                refine step_append_at (K := entK) (by rfl) 22 34 (.agg zeroE) 64 Try.underlying22 info_entry rfl F wb _ v2 (es.take i ++ [e]) (.slice p2 (es.length - i) q2) (es.drop i) (.tmp 58) (.tmp 64) (by rfl) (by rfl) (by rfl) ?_ ?_ _ _ _ HS2.out HE2.out HR1.out HFb.out HM3.out (by decide) ?_
                · refine ho2.below ?_
                  (repeat (first | assumption | exact Below.refl _ _ | with_reducible refine below_drew ?_ | with_reducible refine below_al ?_ _))
                · refine below_chain hb2 ?_
                  (repeat (first | assumption | exact Below.refl _ _ | with_reducible refine below_drew ?_ | with_reducible refine below_al ?_ _))
                intro v3 x3 ho3 hb3 hsm3
                obtain ⟨a3, n3, hv3⟩ := ho3.isSlice
                obtain ⟨N3, hN3⟩ : ∃ N, ((es.take i ++ [e]) ++ es.drop i).length = N := ⟨_, rfl⟩
                rw [hN3] at hv3
                subst hv3
                clear hsm3 hN3
                refine hK.out _ _ (HSK.out _ hb3) (fun hS => ?_)
                clear hK
                try simp only [Act.put, List.setIfInBounds_toArray, List.set_cons_zero, List.set_cons_succ]
                refine wpAnyH_take (i := 19) (oi := ?oTbP) (v := ?vTbP) ?eTbP (by kernel_rfl) (by kernel_rfl) (by kernel_rfl) ?qTbP (Or.inl ⟨?wTbP, ?yTbP⟩) (by assumption) ?rTbP
                case eTbP => simp only [List.getElem?_toArray, List.getElem?_cons_succ, List.getElem?_cons_zero]; rfl
                case wTbP => rfl
                case qTbP => exact fun _ _ _ h => h
                case yTbP => (intro w hSw; (try dsimp only at hSw); go_simp; try with_reducible rfl)
                try simp only [Act.put, List.setIfInBounds_toArray, List.set_cons_zero, List.set_cons_succ]
                refine wpAnyH_take (i := 20) (oi := ?oTbQ) (v := ?vTbQ) ?eTbQ (by kernel_rfl) (by kernel_rfl) (by kernel_rfl) ?qTbQ (Or.inl ⟨?wTbQ, ?yTbQ⟩) (by assumption) ?rTbQ
                case eTbQ => simp only [List.getElem?_toArray, List.getElem?_cons_succ, List.getElem?_cons_zero]; rfl
                case wTbQ => rfl
                case qTbQ => exact fun _ _ _ h => h
                case yTbQ => (intro w hSw; (try dsimp only at hSw); go_simp; try with_reducible rfl)
                try simp only [Act.put, List.setIfInBounds_toArray, List.set_cons_zero, List.set_cons_succ]
                refine wpAnyH_done (by kernel_rfl) ?_ _
                have hrb3 := HRB.out.below hb3 HRB.out.lt
                have hr3 := hrb3.cell (i := 0) rfl
                have hf3 := hrb3.free 0
                have HFIN := Lib.hid (newRow_of (j := 0) ho3 hb3 hrb3 HRB.out.lt HFr.out)
                clear ho3 hb3 hrb3 ho2 hb2 ho1 hb1
                refine thenLast_of fun K hK => ?_
                go_wp2_with fail
                refine hK.out _ _ ?_
                clear hK
                go_wp2_with fail
                go_meet
                exact ⟨rfl, HFIN.out⟩
            · rw [if_pos (by rfl)]
              go_wp2_with fail
              refine hK.out _ _ (HSK.out _ (by (repeat (first | assumption | exact Below.refl _ _ | with_reducible refine below_drew ?_ | with_reducible refine below_al ?_ _)))) (fun hS => ?_)
              clear hK
              try simp only [Act.put, List.setIfInBounds_toArray, List.set_cons_zero, List.set_cons_succ]
              refine wpAnyH_ready (rs := [1]) (by kernel_rfl) (by simp) ?_
              refine AllReadyH.cons (o := ?oTq9) ?eTq9 (fun K hK => ?_) AllReadyH.nil
              case eTq9 => simp only [List.getElem?_toArray, List.getElem?_cons_succ, List.getElem?_cons_zero]; rfl
              rw [if_pos (by rfl)]
              go_wp2_with fail
              refine hK.out _ _ (HSK.out _ (by (repeat (first | assumption | exact Below.refl _ _ | with_reducible refine below_drew ?_ | with_reducible refine below_al ?_ _)))) (fun hS => ?_)
              clear hK
              try simp only [Act.put, List.setIfInBounds_toArray, List.set_cons_zero, List.set_cons_succ]
              refine wpAnyH_ready (rs := [8]) (by kernel_rfl) (by simp) ?_
              refine AllReadyH.cons (o := ?oTq10) ?eTq10 (fun K hK => ?_) AllReadyH.nil
              case eTq10 => simp only [List.getElem?_toArray, List.getElem?_cons_succ, List.getElem?_cons_zero]; rfl
              refine step_append_at (K := entK) (by rfl) 22 34 (.agg zeroE) 64 Try.underlying22 info_entry rfl F wb _ (.slice (some ⟨_, 0, none⟩) 0 0) [] (.slice p1 i q1) (es.take i) (.tmp 48) (.tmp 54) (by rfl) (by rfl) (by rfl) (.inl ⟨rfl, _, ?_, rfl⟩) ?_ _ _ _ HS1.out HE1.out HR1.out HFb.out ?_ (by decide) ?_
              · first
                  | exact Nat.le_refl _
                  | (simp; done)
              · (repeat (first | assumption | exact Below.refl _ _ | with_reducible refine below_drew ?_ | with_reducible refine below_al ?_ _))
              · exact HM1.out
              intro v1 x1 ho1 hb1 hsm1
              have hl1 : Blk x1 wb.heap.size #[.slice a1 e.key.length n1, .int .u64 e.seq, .int .i64 e.kind, .slice a2 e.value.length n2] 34 := by
                refine Blk.grown ?_ hsm1 ?_
                · (repeat (first | assumption | ((with_reducible refine Blk.at_new ?_ ?_) <;> first | (simp; done) | rfl) | with_reducible refine Blk.drew ?_ | with_reducible refine Blk.alloc ?_ _))
                · simp [Value.ownBlock]
              clear hsm1
              refine hK.out _ _ (HSK.out _ hb1) (fun hS => ?_)
              clear hK
              try simp only [Act.put, List.setIfInBounds_toArray, List.set_cons_zero, List.set_cons_succ]
              refine wpAnyH_ready (rs := [11]) (by kernel_rfl) (by simp) ?_
              refine AllReadyH.cons (o := ?oTq11) ?eTq11 (fun K hK => ?_) AllReadyH.nil
              case eTq11 => simp only [List.getElem?_toArray, List.getElem?_cons_succ, List.getElem?_cons_zero]; rfl
              refine step_append_one_at (K := entK) (by rfl) 22 34 (.agg zeroE) 64 Try.underlying22 info_entry rfl F wb _ v1 (es.take i) _ #[.slice a1 e.key.length n1, .int .u64 e.seq, .int .i64 e.kind, .slice a2 e.value.length n2] e (.tmp 55) (.tmp 57) (by rfl) (by rfl) (by rfl) ?_ ?_ ?_ _ HEL.out HR2.out HFb.out HM2.out (by decide) ?_
              · refine ho1.below ?_
                (repeat (first | assumption | exact Below.refl _ _ | with_reducible refine below_drew ?_ | with_reducible refine below_al ?_ _))
              · refine below_chain hb1 ?_
                (repeat (first | assumption | exact Below.refl _ _ | with_reducible refine below_drew ?_ | with_reducible refine below_al ?_ _))
              · (repeat (first | assumption | ((with_reducible refine Blk.at_new ?_ ?_) <;> first | (simp; done) | rfl) | with_reducible refine Blk.drew ?_ | with_reducible refine Blk.alloc ?_ _))
              intro v2 x2 ho2 hb2
              refine hK.out _ _ (HSK.out _ hb2) (fun hS => ?_)
              clear hK
              try simp only [Act.put, List.setIfInBounds_toArray, List.set_cons_zero, List.set_cons_succ]
              refine wpAnyH_ready (rs := [18]) (by kernel_rfl) (by simp) ?_
              refine AllReadyH.cons (o := ?oTq12) ?eTq12 (fun K hK => ?_) AllReadyH.nil
              case eTq12 => simp only [List.getElem?_toArray, List.getElem?_cons_succ, List.getElem?_cons_zero]; rfl
              refine step_append_at (K := entK) (by rfl) 22 34 (.agg zeroE) 64 Try.underlying22 info_entry rfl F wb _ v2 (es.take i ++ [e]) (.slice p2 (es.length - i) q2) (es.drop i) (.tmp 58) (.tmp 64) (by rfl) (by rfl) (by rfl) ?_ ?_ _ _ _ HS2.out HE2.out HR1.out HFb.out HM3.out (by decide) ?_
              · refine ho2.below ?_
                (repeat (first | assumption | exact Below.refl _ _ | with_reducible refine below_drew ?_ | with_reducible refine below_al ?_ _))
              · refine below_chain hb2 ?_
                (repeat (first | assumption | exact Below.refl _ _ | with_reducible refine below_drew ?_ | with_reducible refine below_al ?_ _))
              intro v3 x3 ho3 hb3 hsm3
              obtain ⟨a3, n3, hv3⟩ := ho3.isSlice
              obtain ⟨N3, hN3⟩ : ∃ N, ((es.take i ++ [e]) ++ es.drop i).length = N := ⟨_, rfl⟩
              rw [hN3] at hv3
              subst hv3
              clear hsm3 hN3
              refine hK.out _ _ (HSK.out _ hb3) (fun hS => ?_)
              clear hK
              try simp only [Act.put, List.setIfInBounds_toArray, List.set_cons_zero, List.set_cons_succ]
              refine wpAnyH_take (i := 19) (oi := ?oTcP) (v := ?vTcP) ?eTcP (by kernel_rfl) (by kernel_rfl) (by kernel_rfl) ?qTcP (Or.inl ⟨?wTcP, ?yTcP⟩) (by assumption) ?rTcP
              case eTcP => simp only [List.getElem?_toArray, List.getElem?_cons_succ, List.getElem?_cons_zero]; rfl
              case wTcP => rfl
              case qTcP => exact fun _ _ _ h => h
              case yTcP => (intro w hSw; (try dsimp only at hSw); go_simp; try with_reducible rfl)
              try simp only [Act.put, List.setIfInBounds_toArray, List.set_cons_zero, List.set_cons_succ]
              refine wpAnyH_take (i := 20) (oi := ?oTcQ) (v := ?vTcQ) ?eTcQ (by kernel_rfl) (by kernel_rfl) (by kernel_rfl) ?qTcQ (Or.inl ⟨?wTcQ, ?yTcQ⟩) (by assumption) ?rTcQ
              case eTcQ => simp only [List.getElem?_toArray, List.getElem?_cons_succ, List.getElem?_cons_zero]; rfl
              case wTcQ => rfl
              case qTcQ => exact fun _ _ _ h => h
              case yTcQ => (intro w hSw; (try dsimp only at hSw); go_simp; try with_reducible rfl)
              try simp only [Act.put, List.setIfInBounds_toArray, List.set_cons_zero, List.set_cons_succ]
              refine wpAnyH_done (by kernel_rfl) ?_ _
              have hrb3 := HRB.out.below hb3 HRB.out.lt
              have hr3 := hrb3.cell (i := 0) rfl
              have hf3 := hrb3.free 0
              have HFIN := Lib.hid (newRow_of (j := 0) ho3 hb3 hrb3 HRB.out.lt HFr.out)
              clear ho3 hb3 hrb3 ho2 hb2 ho1 hb1
              refine thenLast_of fun K hK => ?_
              go_wp2_with fail
              refine hK.out _ _ ?_
              clear hK
              go_wp2_with fail
              go_meet
              exact ⟨rfl, HFIN.out⟩
          case rest =>
            obtain ⟨rfl, v3, hrb3, hro3, hwr3⟩ := hcut
            have HN := HRN.out
            have hrn2 := HRN.out.keep (w' := _) fun k hk hR => hwr3.block k hk hR.2
            have HF2 : Hid (∀ k, F k → p k ∨ w.heap.size ≤ k) := HFx
            have HRO := Lib.hid hro3
            have HWR : Hid (Wrote (fun k => k = rb) w _) := (Wrote.of_below HWb.out).trans ⟨hwr3.os, hwr3.tape, hwr3.output, hwr3.size, hwr3.block⟩
            have HLB : Hid (rb < wb.heap.size) := HRB.out.lt
            have HWS : Hid (w.heap.size ≤ wb.heap.size) := HWb.out.size
            obtain ⟨a3, n3, hv3⟩ := hro3.isSlice
            obtain ⟨N3, hN3⟩ : ∃ N, ((es.take i ++ [e]) ++ es.drop i).length = N := ⟨_, rfl⟩
            rw [hN3] at hv3
            subst hv3
            clear HRB HS1 HE1 HS2 HE2 HM1 HM2 HM3 HEL HC HZ HR2 k0 hn0 hs1 hs2 hN3 HN HWb
            go_upto_region 11 with fail
            refine wp_gen fun wc hwc => ?_
            subst hwc
            have HRB : Hid (Blk wc rb #[.slice a3 N3 n3, .slice na hs.length nc] 55) := hrb3
            have HSC : Hid (wb.heap.size ≤ wc.heap.size) := hwr3.size
            have k0 : wc.cell? ⟨rb, 1, none⟩ = some (.slice na hs.length nc) := hrb3.cell rfl
            have hih : i ≤ hs.length := by rw [HL.out]; exact hple
            obtain ⟨s1, hs1, hw1⟩ := hrn2.slice_h under_ints size_int i hih
            obtain ⟨s2, hs2, hw2⟩ := hrn2.slice_l under_ints size_int i hih
            obtain ⟨p1, q1, hv1⟩ := hw1.isSlice
            obtain ⟨p2, q2, hv2⟩ := hw2.isSlice
            rw [List.length_take, Nat.min_eq_left hih] at hv1
            rw [List.length_drop] at hv2
            subst hv1 hv2
            obtain ⟨cs1, hsl1, hel1⟩ := hw1
            obtain ⟨cs2, hsl2, hel2⟩ := hw2
            have HS1 := Lib.hid hsl1
            have HE1 := Lib.hid hel1
            have HS2 := Lib.hid hsl2
            have HE2 := Lib.hid hel2
            have HQF := HFr
            have HQB := HFb
            clear HFb HFr HFx HR1
            generalize hFe : F = FE at *
            clear hFe
            obtain ⟨F, hF⟩ : ∃ F : Nat → Prop, F = fun k => k < wc.heap.size ∧ ((p k ∧ k < w.heap.size) ∧ k ≠ rb) := ⟨_, rfl⟩
            have HR1 : Hid (∀ k, k < wc.heap.size → ((p k ∧ k < w.heap.size) ∧ k ≠ rb) → F k) := fun k hk hp => by rw [hF]; exact ⟨hk, hp⟩
            have HR2 : Hid (∀ k, k < wc.heap.size → False → F k) := fun k _ hp => hp.elim
            have HFb : Hid (∀ k, F k → k < wc.heap.size) := fun k hk => by rw [hF] at hk; exact hk.1
            have HFr : Hid (∀ k, F k → k ≠ rb) := fun k hk => by rw [hF] at hk; exact hk.2.2
            have HFx : Hid (∀ k, F k → p k ∨ w.heap.size ≤ k) := fun k hk => by rw [hF] at hk; exact .inl hk.2.1.1
            have HEL : Hid (natK.R (fun _ => False) wc (#[.int .i64 h] : Array Value).toList h.toNat) := by
              show [Value.int .i64 h] = [Value.int .i64 ((h.toNat : Nat) : Int)]
              rw [Int.toNat_of_nonneg (by have := HH.out.1; omega)]
            have HM1 : Hid (([] : List Nat).length + (hs.take i).length ≤ 1000000) := by show _ ≤ _; rw [List.length_take, List.length_nil]; omega
            have HM2 : Hid ((hs.take i).length < 1000000) := by show _ < _; rw [List.length_take]; omega
            have HM3 : Hid ((hs.take i ++ [h.toNat]).length + (hs.drop i).length ≤ 1000000) := by show _ ≤ _; rw [List.length_append, List.length_take, List.length_drop, List.length_singleton, HL.out]; omega
            have hih' : (i : Int) ≤ (hs.length : Int) := by omega
            clear hrb3 hro3 hwr3 hrn2 hsl1 hsl2 hel1 hel2 hF
            go_cut [8] from 68 to 88 (fun s wx => s = .int .i64 (i : Int) ∧ NewRow natK F 3 55 rb 1 #[.slice a3 N3 n3, .slice na hs.length nc] wc ((hs.take i ++ [h.toNat]) ++ hs.drop i) wx)
            case first =>
              have HSK : Hid (∀ x, Below wc.heap.size wc x → (fun w' : World => w'.cell? ⟨rb, 1, none⟩ = some (.slice na hs.length nc)) x) := fun x hx => (World.cell?_of_block (a := ⟨rb, 1, none⟩) (hx.block rb HRB.out.lt)).trans k0
              have hS : (fun w' : World => w'.cell? ⟨rb, 1, none⟩ = some (.slice na hs.length nc)) wc.drew := HSK.out _ (below_drew (Below.refl _ _))
              refine wp_region_last (S := (fun w' : World => w'.cell? ⟨rb, 1, none⟩ = some (.slice na hs.length nc))) (n := 21) (l := ?lU) (o := ?oU) rfl ?hlU ?hoU ?hnU ?hbU ?hgU ?hU
              case hlU => simp only [List.dropLast]; rfl
              case hoU => rfl
              case hnU => rfl
              case hbU => kernel_rfl
              case hgU => rfl
              refine wpAnyH_take (i := 0) (oi := ?oU_0) (v := ?vU_0) ?eU_0 (by kernel_rfl) (by kernel_rfl) (by kernel_rfl) ?qU_0 (Or.inl ⟨?wU_0, ?yU_0⟩) (by assumption) ?rU_0
              case eU_0 => simp only [List.getElem?_toArray, List.getElem?_cons_zero]; rfl
              case wU_0 => rfl
              case qU_0 => exact fun _ _ _ h => h
              case yU_0 => (intro w hSw; (try dsimp only at hSw); go_simp; try with_reducible rfl)
              try simp only [Act.put, List.setIfInBounds_toArray, List.set_cons_zero, List.set_cons_succ]
              refine wpAnyH_take (i := 2) (oi := ?oU_2) (v := ?vU_2) ?eU_2 (by kernel_rfl) (by kernel_rfl) (by kernel_rfl) ?qU_2 (Or.inl ⟨?wU_2, ?yU_2⟩) (by assumption) ?rU_2
              case eU_2 => simp only [List.getElem?_toArray, List.getElem?_cons_succ, List.getElem?_cons_zero]; rfl
              case wU_2 => rfl
              case qU_2 => exact fun _ _ _ h => h
              case yU_2 => (intro w hSw; (try dsimp only at hSw); go_simp; try with_reducible rfl)
              try simp only [Act.put, List.setIfInBounds_toArray, List.set_cons_zero, List.set_cons_succ]
              refine wpAnyH_take (i := 3) (oi := ?oU_3) (v := ?vU_3) ?eU_3 (by kernel_rfl) (by kernel_rfl) (by kernel_rfl) ?qU_3 (Or.inl ⟨?wU_3, ?yU_3⟩) (by assumption) ?rU_3
              case eU_3 => simp only [List.getElem?_toArray, List.getElem?_cons_succ, List.getElem?_cons_zero]; rfl
              case wU_3 => rfl
              case qU_3 => exact fun _ _ _ h => h
              case yU_3 => (intro w hSw; (try dsimp only at hSw); go_simp; try with_reducible rfl)
              try simp only [Act.put, List.setIfInBounds_toArray, List.set_cons_zero, List.set_cons_succ]
              refine wpAnyH_take (i := 4) (oi := ?oU_4) (v := ?vU_4) ?eU_4 (by kernel_rfl) (by kernel_rfl) (by kernel_rfl) ?qU_4 (Or.inl ⟨?wU_4, ?yU_4⟩) (by assumption) ?rU_4
              case eU_4 => simp only [List.getElem?_toArray, List.getElem?_cons_succ, List.getElem?_cons_zero]; rfl
              case wU_4 => rfl
              case qU_4 => exact fun _ _ _ h => h
              case yU_4 => (intro w hSw; (try dsimp only at hSw); go_simp; try with_reducible rfl)
              try simp only [Act.put, List.setIfInBounds_toArray, List.set_cons_zero, List.set_cons_succ]
              refine wpAnyH_take (i := 5) (oi := ?oU_5) (v := ?vU_5) ?eU_5 (by kernel_rfl) (by kernel_rfl) (by kernel_rfl) ?qU_5 (Or.inl ⟨?wU_5, ?yU_5⟩) (by assumption) ?rU_5
              case eU_5 => simp only [List.getElem?_toArray, List.getElem?_cons_succ, List.getElem?_cons_zero]; rfl
              case wU_5 => rfl
              case qU_5 => exact fun _ _ _ h => h
              case yU_5 => (intro w hSw; (try dsimp only at hSw); go_simp; try with_reducible rfl)
              try simp only [Act.put, List.setIfInBounds_toArray, List.set_cons_zero, List.set_cons_succ]
              refine wpAnyH_take (i := 6) (oi := ?oU_6) (v := ?vU_6) ?eU_6 (by kernel_rfl) (by kernel_rfl) (by kernel_rfl) ?qU_6 (Or.inl ⟨?wU_6, ?yU_6⟩) (by assumption) ?rU_6
              case eU_6 => simp only [List.getElem?_toArray, List.getElem?_cons_succ, List.getElem?_cons_zero]; rfl
              case wU_6 => rfl
              case qU_6 => exact fun _ _ _ h => h
              case yU_6 => (intro w hSw; (try dsimp only at hSw); go_simp; try with_reducible rfl)
              try simp only [Act.put, List.setIfInBounds_toArray, List.set_cons_zero, List.set_cons_succ]
              refine wpAnyH_take (i := 7) (oi := ?oU_7) (v := ?vU_7) ?eU_7 (by kernel_rfl) (by kernel_rfl) (by kernel_rfl) ?qU_7 (Or.inl ⟨?wU_7, ?yU_7⟩) (by assumption) ?rU_7
              case eU_7 => simp only [List.getElem?_toArray, List.getElem?_cons_succ, List.getElem?_cons_zero]; rfl
              case wU_7 => rfl
              case qU_7 => exact fun _ _ _ h => h
              case yU_7 => (intro w hSw; (try dsimp only at hSw); go_simp; try with_reducible rfl)
              try simp only [Act.put, List.setIfInBounds_toArray, List.set_cons_zero, List.set_cons_succ]
              refine wpAnyH_take (i := 9) (oi := ?oU_9) (v := ?vU_9) ?eU_9 (by kernel_rfl) (by kernel_rfl) (by kernel_rfl) ?qU_9 (Or.inl ⟨?wU_9, ?yU_9⟩) (by assumption) ?rU_9
              case eU_9 => simp only [List.getElem?_toArray, List.getElem?_cons_succ, List.getElem?_cons_zero]; rfl
              case wU_9 => rfl
              case qU_9 => exact fun _ _ _ h => h
              case yU_9 => (intro w hSw; (try dsimp only at hSw); go_simp; try with_reducible rfl)
              try simp only [Act.put, List.setIfInBounds_toArray, List.set_cons_zero, List.set_cons_succ]
              refine wpAnyH_take (i := 12) (oi := ?oU_12) (v := ?vU_12) ?eU_12 (by kernel_rfl) (by kernel_rfl) (by kernel_rfl) ?qU_12 (Or.inl ⟨?wU_12, ?yU_12⟩) (by assumption) ?rU_12
              case eU_12 => simp only [List.getElem?_toArray, List.getElem?_cons_succ, List.getElem?_cons_zero]; rfl
              case wU_12 => rfl
              case qU_12 => exact fun _ _ _ h => h
              case yU_12 => (intro w hSw; (try dsimp only at hSw); go_simp; try with_reducible rfl)
              try simp only [Act.put, List.setIfInBounds_toArray, List.set_cons_zero, List.set_cons_succ]
              refine wpAnyH_take (i := 13) (oi := ?oU_13) (v := ?vU_13) ?eU_13 (by kernel_rfl) (by kernel_rfl) (by kernel_rfl) ?qU_13 (Or.inl ⟨?wU_13, ?yU_13⟩) (by assumption) ?rU_13
              case eU_13 => simp only [List.getElem?_toArray, List.getElem?_cons_succ, List.getElem?_cons_zero]; rfl
              case wU_13 => rfl
              case qU_13 => exact fun _ _ _ h => h
              case yU_13 => (intro w hSw; (try dsimp only at hSw); go_simp; try with_reducible rfl)
              try simp only [Act.put, List.setIfInBounds_toArray, List.set_cons_zero, List.set_cons_succ]
              refine wpAnyH_take (i := 14) (oi := ?oU_14) (v := ?vU_14) ?eU_14 (by kernel_rfl) (by kernel_rfl) (by kernel_rfl) ?qU_14 (Or.inl ⟨?wU_14, ?yU_14⟩) (by assumption) ?rU_14
              case eU_14 => simp only [List.getElem?_toArray, List.getElem?_cons_succ, List.getElem?_cons_zero]; rfl
              case wU_14 => rfl
              case qU_14 => exact fun _ _ _ h => h
              case yU_14 => (intro w hSw; (try dsimp only at hSw); go_simp; try with_reducible rfl)
              try simp only [Act.put, List.setIfInBounds_toArray, List.set_cons_zero, List.set_cons_succ]
              refine wpAnyH_take (i := 15) (oi := ?oU_15) (v := ?vU_15) ?eU_15 (by kernel_rfl) (by kernel_rfl) (by kernel_rfl) ?qU_15 (Or.inl ⟨?wU_15, ?yU_15⟩) (by assumption) ?rU_15
              case eU_15 => simp only [List.getElem?_toArray, List.getElem?_cons_succ, List.getElem?_cons_zero]; rfl
              case wU_15 => rfl
              case qU_15 => exact fun _ _ _ h => h
              case yU_15 => (intro w hSw; (try dsimp only at hSw); go_simp; try with_reducible rfl)
              try simp only [Act.put, List.setIfInBounds_toArray, List.set_cons_zero, List.set_cons_succ]
              refine wpAnyH_take (i := 16) (oi := ?oU_16) (v := ?vU_16) ?eU_16 (by kernel_rfl) (by kernel_rfl) (by kernel_rfl) ?qU_16 (Or.inl ⟨?wU_16, ?yU_16⟩) (by assumption) ?rU_16
              case eU_16 => simp only [List.getElem?_toArray, List.getElem?_cons_succ, List.getElem?_cons_zero]; rfl
              case wU_16 => rfl
              case qU_16 => exact fun _ _ _ h => h
              case yU_16 => (intro w hSw; (try dsimp only at hSw); go_simp; try with_reducible rfl)
              try simp only [Act.put, List.setIfInBounds_toArray, List.set_cons_zero, List.set_cons_succ]
              refine wpAnyH_take (i := 17) (oi := ?oU_17) (v := ?vU_17) ?eU_17 (by kernel_rfl) (by kernel_rfl) (by kernel_rfl) ?qU_17 (Or.inl ⟨?wU_17, ?yU_17⟩) (by assumption) ?rU_17
              case eU_17 => simp only [List.getElem?_toArray, List.getElem?_cons_succ, List.getElem?_cons_zero]; rfl
              case wU_17 => rfl
              case qU_17 => exact fun _ _ _ h => h
              case yU_17 => (intro w hSw; (try dsimp only at hSw); go_simp; try with_reducible rfl)
              try simp only [Act.put, List.setIfInBounds_toArray, List.set_cons_zero, List.set_cons_succ]
              refine wpAnyH_ready (rs := [1, 10]) (by kernel_rfl) (by simp) ?_
              refine AllReadyH.cons (o := ?oUq1) ?eUq1 (fun K hK => ?_) (AllReadyH.cons (o := ?pUq1) ?fUq1 (fun K hK => ?_) AllReadyH.nil)
              case eUq1 => simp only [List.getElem?_toArray, List.getElem?_cons_succ, List.getElem?_cons_zero]; rfl
              case fUq1 => simp only [List.getElem?_toArray, List.getElem?_cons_succ, List.getElem?_cons_zero]; rfl
              · rw [if_pos (by rfl)]
                go_wp2_with fail
                refine hK.out _ _ (HSK.out _ (by (repeat (first | assumption | exact Below.refl _ _ | with_reducible refine below_drew ?_ | with_reducible refine below_al ?_ _)))) (fun hS => ?_)
                clear hK
                try simp only [Act.put, List.setIfInBounds_toArray, List.set_cons_zero, List.set_cons_succ]
                refine wpAnyH_ready (rs := [8, 10]) (by kernel_rfl) (by simp) ?_
                refine AllReadyH.cons (o := ?oUq2) ?eUq2 (fun K hK => ?_) (AllReadyH.cons (o := ?pUq2) ?fUq2 (fun K hK => ?_) AllReadyH.nil)
                case eUq2 => simp only [List.getElem?_toArray, List.getElem?_cons_succ, List.getElem?_cons_zero]; rfl
                case fUq2 => simp only [List.getElem?_toArray, List.getElem?_cons_succ, List.getElem?_cons_zero]; rfl
                · refine step_append_at (K := natK) (by rfl) 23 3 (.int .i64 0) 8 Try.underlying23 info_int rfl F wc _ (.slice (some ⟨_, 0, none⟩) 0 0) [] (.slice p1 i q1) (hs.take i) (.tmp 69) (.tmp 75) (by rfl) (by rfl) (by rfl) (.inl ⟨rfl, _, ?_, rfl⟩) ?_ _ _ _ HS1.out HE1.out HR1.out HFb.out ?_ (by decide) ?_
                  · first
                      | exact Nat.le_refl _
                      | (simp; done)
                  · (repeat (first | assumption | exact Below.refl _ _ | with_reducible refine below_drew ?_ | with_reducible refine below_al ?_ _))
                  · exact HM1.out
                  intro v1 x1 ho1 hb1 hsm1
                  clear hsm1
                  refine hK.out _ _ (HSK.out _ hb1) (fun hS => ?_)
                  clear hK
                  try simp only [Act.put, List.setIfInBounds_toArray, List.set_cons_zero, List.set_cons_succ]
                  refine wpAnyH_ready (rs := [10]) (by kernel_rfl) (by simp) ?_
                  refine AllReadyH.cons (o := ?oUq3) ?eUq3 (fun K hK => ?_) AllReadyH.nil
                  case eUq3 => simp only [List.getElem?_toArray, List.getElem?_cons_succ, List.getElem?_cons_zero]; rfl
                  rw [if_pos (by rfl)]
                  go_wp2_with fail
                  refine hK.out _ _ (HSK.out _ (by (repeat (first | assumption | exact Below.refl _ _ | with_reducible refine below_drew ?_ | with_reducible refine below_al ?_ _)))) (fun hS => ?_)
                  clear hK
                  try simp only [Act.put, List.setIfInBounds_toArray, List.set_cons_zero, List.set_cons_succ]
                  refine wpAnyH_ready (rs := [11]) (by kernel_rfl) (by simp) ?_
                  refine AllReadyH.cons (o := ?oUq4) ?eUq4 (fun K hK => ?_) AllReadyH.nil
                  case eUq4 => simp only [List.getElem?_toArray, List.getElem?_cons_succ, List.getElem?_cons_zero]; rfl
                  refine step_append_one_at (K := natK) (by rfl) 23 3 (.int .i64 0) 8 Try.underlying23 info_int rfl F wc _ v1 (hs.take i) _ #[.int .i64 h] h.toNat (.tmp 76) (.tmp 78) (by rfl) (by rfl) (by rfl) ?_ ?_ ?_ _ HEL.out HR2.out HFb.out HM2.out (by decide) ?_
                  · refine ho1.below ?_
                    (repeat (first | assumption | exact Below.refl _ _ | with_reducible refine below_drew ?_ | with_reducible refine below_al ?_ _))
                  · refine below_chain hb1 ?_
                    (repeat (first | assumption | exact Below.refl _ _ | with_reducible refine below_drew ?_ | with_reducible refine below_al ?_ _))
                  · (repeat (first | assumption | ((with_reducible refine Blk.at_new ?_ ?_) <;> first | (simp; done) | rfl) | with_reducible refine Blk.drew ?_ | with_reducible refine Blk.alloc ?_ _))
                  intro v2 x2 ho2 hb2
                  refine hK.out _ _ (HSK.out _ hb2) (fun hS => ?_)
                  clear hK
                  try simp only [Act.put, List.setIfInBounds_toArray, List.set_cons_zero, List.set_cons_succ]
                  refine wpAnyH_ready (rs := [18]) (by kernel_rfl) (by simp) ?_
                  refine AllReadyH.cons (o := ?oUq5) ?eUq5 (fun K hK => ?_) AllReadyH.nil
                  case eUq5 => simp only [List.getElem?_toArray, List.getElem?_cons_succ, List.getElem?_cons_zero]; rfl
                  refine step_append_at (K := natK) (by rfl) 23 3 (.int .i64 0) 8 Try.underlying23 info_int rfl F wc _ v2 (hs.take i ++ [h.toNat]) (.slice p2 (hs.length - i) q2) (hs.drop i) (.tmp 79) (.tmp 85) (by rfl) (by rfl) (by rfl) ?_ ?_ _ _ _ HS2.out HE2.out HR1.out HFb.out HM3.out (by decide) ?_
                  · refine ho2.below ?_
                    (repeat (first | assumption | exact Below.refl _ _ | with_reducible refine below_drew ?_ | with_reducible refine below_al ?_ _))
                  · refine below_chain hb2 ?_
                    (repeat (first | assumption | exact Below.refl _ _ | with_reducible refine below_drew ?_ | with_reducible refine below_al ?_ _))
                  intro v3 x3 ho3 hb3 hsm3
                  obtain ⟨a3, n3, hv3⟩ := ho3.isSlice
                  obtain ⟨N3, hN3⟩ : ∃ N, ((hs.take i ++ [h.toNat]) ++ hs.drop i).length = N := ⟨_, rfl⟩
                  rw [hN3] at hv3
                  subst hv3
                  clear hsm3 hN3
                  refine hK.out _ _ (HSK.out _ hb3) (fun hS => ?_)
                  clear hK
                  try simp only [Act.put, List.setIfInBounds_toArray, List.set_cons_zero, List.set_cons_succ]
                  refine wpAnyH_take (i := 19) (oi := ?oUaP) (v := ?vUaP) ?eUaP (by kernel_rfl) (by kernel_rfl) (by kernel_rfl) ?qUaP (Or.inl ⟨?wUaP, ?yUaP⟩) (by assumption) ?rUaP
                  case eUaP => simp only [List.getElem?_toArray, List.getElem?_cons_succ, List.getElem?_cons_zero]; rfl
                  case wUaP => rfl
                  case qUaP => exact fun _ _ _ h => h
                  case yUaP => (intro w hSw; (try dsimp only at hSw); go_simp; try with_reducible rfl)
                  try simp only [Act.put, List.setIfInBounds_toArray, List.set_cons_zero, List.set_cons_succ]
                  refine wpAnyH_take (i := 20) (oi := ?oUaQ) (v := ?vUaQ) ?eUaQ (by kernel_rfl) (by kernel_rfl) (by kernel_rfl) ?qUaQ (Or.inl ⟨?wUaQ, ?yUaQ⟩) (by assumption) ?rUaQ
                  case eUaQ => simp only [List.getElem?_toArray, List.getElem?_cons_succ, List.getElem?_cons_zero]; rfl
                  case wUaQ => rfl
                  case qUaQ => exact fun _ _ _ h => h
                  case yUaQ => (intro w hSw; (try dsimp only at hSw); go_simp; try with_reducible rfl)
                  try simp only [Act.put, List.setIfInBounds_toArray, List.set_cons_zero, List.set_cons_succ]
                  refine wpAnyH_done (by kernel_rfl) ?_ _
                  have hrb3 := HRB.out.below hb3 HRB.out.lt
                  have hr3 := hrb3.cell (i := 1) rfl
                  have hf3 := hrb3.free 1
                  have HFIN := Lib.hid (newRow_of (j := 1) ho3 hb3 hrb3 HRB.out.lt HFr.out)
                  clear ho3 hb3 hrb3 ho2 hb2 ho1 hb1
                  refine thenLast_of fun K hK => ?_
                  go_wp2_with fail
                  refine hK.out _ _ ?_
                  clear hK
                  go_wp2_with fail
                  go_meet
                  exact ⟨rfl, HFIN.out⟩
                · rw [if_pos (by rfl)]
                  go_wp2_with fail
                  refine hK.out _ _ (HSK.out _ (by (repeat (first | assumption | exact Below.refl _ _ | with_reducible refine below_drew ?_ | with_reducible refine below_al ?_ _)))) (fun hS => ?_)
                  clear hK
                  try simp only [Act.put, List.setIfInBounds_toArray, List.set_cons_zero, List.set_cons_succ]
                  refine wpAnyH_ready (rs := [8]) (by kernel_rfl) (by simp) ?_
                  refine AllReadyH.cons (o := ?oUq6) ?eUq6 (fun K hK => ?_) AllReadyH.nil
                  case eUq6 => simp only [List.getElem?_toArray, List.getElem?_cons_succ, List.getElem?_cons_zero]; rfl
                  refine step_append_at (K := natK) (by rfl) 23 3 (.int .i64 0) 8 Try.underlying23 info_int rfl F wc _ (.slice (some ⟨_, 0, none⟩) 0 0) [] (.slice p1 i q1) (hs.take i) (.tmp 69) (.tmp 75) (by rfl) (by rfl) (by rfl) (.inl ⟨rfl, _, ?_, rfl⟩) ?_ _ _ _ HS1.out HE1.out HR1.out HFb.out ?_ (by decide) ?_
                  · first
                      | exact Nat.le_refl _
                      | (simp; done)
                  · (repeat (first | assumption | exact Below.refl _ _ | with_reducible refine below_drew ?_ | with_reducible refine below_al ?_ _))
                  · exact HM1.out
                  intro v1 x1 ho1 hb1 hsm1
                  have hl1 : Blk x1 (wc.heap.size + 1) #[.int .i64 h] 3 := by
                    refine Blk.grown ?_ hsm1 ?_
                    · (repeat (first | assumption | ((with_reducible refine Blk.at_new ?_ ?_) <;> first | (simp; done) | rfl) | with_reducible refine Blk.drew ?_ | with_reducible refine Blk.alloc ?_ _))
                    · simp [Value.ownBlock]
                  clear hsm1
                  refine hK.out _ _ (HSK.out _ hb1) (fun hS => ?_)
                  clear hK
                  try simp only [Act.put, List.setIfInBounds_toArray, List.set_cons_zero, List.set_cons_succ]
                  refine wpAnyH_ready (rs := [11]) (by kernel_rfl) (by simp) ?_
                  refine AllReadyH.cons (o := ?oUq7) ?eUq7 (fun K hK => ?_) AllReadyH.nil
                  case eUq7 => simp only [List.getElem?_toArray, List.getElem?_cons_succ, List.getElem?_cons_zero]; rfl
                  refine step_append_one_at (K := natK) (by rfl) 23 3 (.int .i64 0) 8 Try.underlying23 info_int rfl F wc _ v1 (hs.take i) _ #[.int .i64 h] h.toNat (.tmp 76) (.tmp 78) (by rfl) (by rfl) (by rfl) ?_ ?_ ?_ _ HEL.out HR2.out HFb.out HM2.out (by decide) ?_
                  · refine ho1.below ?_
                    (repeat (first | assumption | exact Below.refl _ _ | with_reducible refine below_drew ?_ | with_reducible refine below_al ?_ _))
                  · refine below_chain hb1 ?_
                    (repeat (first | assumption | exact Below.refl _ _ | with_reducible refine below_drew ?_ | with_reducible refine below_al ?_ _))
                  · (repeat (first | assumption | ((with_reducible refine Blk.at_new ?_ ?_) <;> first | (simp; done) | rfl) | with_reducible refine Blk.drew ?_ | with_reducible refine Blk.alloc ?_ _))
                  intro v2 x2 ho2 hb2
                  refine hK.out _ _ (HSK.out _ hb2) (fun hS => ?_)
                  clear hK
                  try simp only [Act.put, List.setIfInBounds_toArray, List.set_cons_zero, List.set_cons_succ]
                  refine wpAnyH_ready (rs := [18]) (by kernel_rfl) (by simp) ?_
                  refine AllReadyH.cons (o := ?oUq8) ?eUq8 (fun K hK => ?_) AllReadyH.nil
                  case eUq8 => simp only [List.getElem?_toArray, List.getElem?_cons_succ, List.getElem?_cons_zero]; rfl
                  refine step_append_at (K := natK) (by rfl) 23 3 (.int .i64 0) 8 Try.underlying23 info_int rfl F wc _ v2 (hs.take i ++ [h.toNat]) (.slice p2 (hs.length - i) q2) (hs.drop i) (.tmp 79) (.tmp 85) (by rfl) (by rfl) (by rfl) ?_ ?_ _ _ _ HS2.out HE2.out HR1.out HFb.out HM3.out (by decide) ?_
                  · refine ho2.below ?_
                    (repeat (first | assumption | exact Below.refl _ _ | with_reducible refine below_drew ?_ | with_reducible refine below_al ?_ _))
                  · refine below_chain hb2 ?_
                    (repeat (first | assumption | exact Below.refl _ _ | with_reducible refine below_drew ?_ | with_reducible refine below_al ?_ _))
                  intro v3 x3 ho3 hb3 hsm3
                  obtain ⟨a3, n3, hv3⟩ := ho3.isSlice
                  obtain ⟨N3, hN3⟩ : ∃ N, ((hs.take i ++ [h.toNat]) ++ hs.drop i).length = N := ⟨_, rfl⟩
                  rw [hN3] at hv3
                  subst hv3
                  clear hsm3 hN3
                  refine hK.out _ _ (HSK.out _ hb3) (fun hS => ?_)
                  clear hK
                  try simp only [Act.put, List.setIfInBounds_toArray, List.set_cons_zero, List.set_cons_succ]
                  refine wpAnyH_take (i := 19) (oi := ?oUbP) (v := ?vUbP) ?eUbP (by kernel_rfl) (by kernel_rfl) (by kernel_rfl) ?qUbP (Or.inl ⟨?wUbP, ?yUbP⟩) (by assumption) ?rUbP
                  case eUbP => simp only [List.getElem?_toArray, List.getElem?_cons_succ, List.getElem?_cons_zero]; rfl
                  case wUbP => rfl
                  case qUbP => exact fun _ _ _ h => h
                  case yUbP => (intro w hSw; (try dsimp only at hSw); go_simp; try with_reducible rfl)
                  try simp only [Act.put, List.setIfInBounds_toArray, List.set_cons_zero, List.set_cons_succ]
                  refine wpAnyH_take (i := 20) (oi := ?oUbQ) (v := ?vUbQ) ?eUbQ (by kernel_rfl) (by kernel_rfl) (by kernel_rfl) ?qUbQ (Or.inl ⟨?wUbQ, ?yUbQ⟩) (by assumption) ?rUbQ
                  case eUbQ => simp only [List.getElem?_toArray, List.getElem?_cons_succ, List.getElem?_cons_zero]; rfl
                  case wUbQ => rfl
                  case qUbQ => exact fun _ _ _ h => h
                  case yUbQ => (intro w hSw; (try dsimp only at hSw); go_simp; try with_reducible rfl)
                  try simp only [Act.put, List.setIfInBounds_toArray, List.set_cons_zero, List.set_cons_succ]
                  refine wpAnyH_done (by kernel_rfl) ?_ _
                  have hrb3 := HRB.out.below hb3 HRB.out.lt
                  have hr3 := hrb3.cell (i := 1) rfl
                  have hf3 := hrb3.free 1
                  have HFIN := Lib.hid (newRow_of (j := 1) ho3 hb3 hrb3 HRB.out.lt HFr.out)
                  clear ho3 hb3 hrb3 ho2 hb2 ho1 hb1
                  refine thenLast_of fun K hK => ?_
                  go_wp2_with fail
                  refine hK.out _ _ ?_
                  clear hK
                  go_wp2_with fail
                  go_meet
                  exact ⟨rfl, HFIN.out⟩
              · rw [if_pos (by rfl)]
                go_wp2_with fail
                refine hK.out _ _ (HSK.out _ (by (repeat (first | assumption | exact Below.refl _ _ | with_reducible refine below_drew ?_ | with_reducible refine below_al ?_ _)))) (fun hS => ?_)
                clear hK
                try simp only [Act.put, List.setIfInBounds_toArray, List.set_cons_zero, List.set_cons_succ]
                refine wpAnyH_ready (rs := [1]) (by kernel_rfl) (by simp) ?_
                refine AllReadyH.cons (o := ?oUq9) ?eUq9 (fun K hK => ?_) AllReadyH.nil
                case eUq9 => simp only [List.getElem?_toArray, List.getElem?_cons_succ, List.getElem?_cons_zero]; rfl
                rw [if_pos (by rfl)]
                go_wp2_with fail
                refine hK.out _ _ (HSK.out _ (by (repeat (first | assumption | exact Below.refl _ _ | with_reducible refine below_drew ?_ | with_reducible refine below_al ?_ _)))) (fun hS => ?_)
                clear hK
                try simp only [Act.put, List.setIfInBounds_toArray, List.set_cons_zero, List.set_cons_succ]
                refine wpAnyH_ready (rs := [8]) (by kernel_rfl) (by simp) ?_
                refine AllReadyH.cons (o := ?oUq10) ?eUq10 (fun K hK => ?_) AllReadyH.nil
                case eUq10 => simp only [List.getElem?_toArray, List.getElem?_cons_succ, List.getElem?_cons_zero]; rfl
                refine step_append_at (K := natK) (by rfl) 23 3 (.int .i64 0) 8 Try.underlying23 info_int rfl F wc _ (.slice (some ⟨_, 0, none⟩) 0 0) [] (.slice p1 i q1) (hs.take i) (.tmp 69) (.tmp 75) (by rfl) (by rfl) (by rfl) (.inl ⟨rfl, _, ?_, rfl⟩) ?_ _ _ _ HS1.out HE1.out HR1.out HFb.out ?_ (by decide) ?_
                · first
                    | exact Nat.le_refl _
                    | (simp; done)
                · (repeat (first | assumption | exact Below.refl _ _ | with_reducible refine below_drew ?_ | with_reducible refine below_al ?_ _))
                · exact HM1.out
                intro v1 x1 ho1 hb1 hsm1
                have hl1 : Blk x1 wc.heap.size #[.int .i64 h] 3 := by
                  refine Blk.grown ?_ hsm1 ?_
                  · (repeat (first | assumption | ((with_reducible refine Blk.at_new ?_ ?_) <;> first | (simp; done) | rfl) | with_reducible refine Blk.drew ?_ | with_reducible refine Blk.alloc ?_ _))
                  · simp [Value.ownBlock]
                clear hsm1
                refine hK.out _ _ (HSK.out _ hb1) (fun hS => ?_)
                clear hK
                try simp only [Act.put, List.setIfInBounds_toArray, List.set_cons_zero, List.set_cons_succ]
                refine wpAnyH_ready (rs := [11]) (by kernel_rfl) (by simp) ?_
                refine AllReadyH.cons (o := ?oUq11) ?eUq11 (fun K hK => ?_) AllReadyH.nil
                case eUq11 => simp only [List.getElem?_toArray, List.getElem?_cons_succ, List.getElem?_cons_zero]; rfl
                refine step_append_one_at (K := natK) (by rfl) 23 3 (.int .i64 0) 8 Try.underlying23 info_int rfl F wc _ v1 (hs.take i) _ #[.int .i64 h] h.toNat (.tmp 76) (.tmp 78) (by rfl) (by rfl) (by rfl) ?_ ?_ ?_ _ HEL.out HR2.out HFb.out HM2.out (by decide) ?_
                · refine ho1.below ?_
                  (repeat (first | assumption | exact Below.refl _ _ | with_reducible refine below_drew ?_ | with_reducible refine below_al ?_ _))
                · refine below_chain hb1 ?_
                  (repeat (first | assumption | exact Below.refl _ _ | with_reducible refine below_drew ?_ | with_reducible refine below_al ?_ _))
                · (repeat (first | assumption | ((with_reducible refine Blk.at_new ?_ ?_) <;> first | (simp; done) | rfl) | with_reducible refine Blk.drew ?_ | with_reducible refine Blk.alloc ?_ _))
                intro v2 x2 ho2 hb2
                refine hK.out _ _ (HSK.out _ hb2) (fun hS => ?_)
                clear hK
                try simp only [Act.put, List.setIfInBounds_toArray, List.set_cons_zero, List.set_cons_succ]
                refine wpAnyH_ready (rs := [18]) (by kernel_rfl) (by simp) ?_
                refine AllReadyH.cons (o := ?oUq12) ?eUq12 (fun K hK => ?_) AllReadyH.nil
                case eUq12 => simp only [List.getElem?_toArray, List.getElem?_cons_succ, List.getElem?_cons_zero]; rfl
                refine step_append_at (K := natK) (by rfl) 23 3 (.int .i64 0) 8 Try.underlying23 info_int rfl F wc _ v2 (hs.take i ++ [h.toNat]) (.slice p2 (hs.length - i) q2) (hs.drop i) (.tmp 79) (.tmp 85) (by rfl) (by rfl) (by rfl) ?_ ?_ _ _ _ HS2.out HE2.out HR1.out HFb.out HM3.out (by decide) ?_
                · refine ho2.below ?_
                  (repeat (first | assumption | exact Below.refl _ _ | with_reducible refine below_drew ?_ | with_reducible refine below_al ?_ _))
                · refine below_chain hb2 ?_
                  (repeat (first | assumption | exact Below.refl _ _ | with_reducible refine below_drew ?_ | with_reducible refine below_al ?_ _))
                intro v3 x3 ho3 hb3 hsm3
                obtain ⟨a3, n3, hv3⟩ := ho3.isSlice
                obtain ⟨N3, hN3⟩ : ∃ N, ((hs.take i ++ [h.toNat]) ++ hs.drop i).length = N := ⟨_, rfl⟩
                rw [hN3] at hv3
                subst hv3
                clear hsm3 hN3
                refine hK.out _ _ (HSK.out _ hb3) (fun hS => ?_)
                clear hK
                try simp only [Act.put, List.setIfInBounds_toArray, List.set_cons_zero, List.set_cons_succ]
                refine wpAnyH_take (i := 19) (oi := ?oUcP) (v := ?vUcP) ?eUcP (by kernel_rfl) (by kernel_rfl) (by kernel_rfl) ?qUcP (Or.inl ⟨?wUcP, ?yUcP⟩) (by assumption) ?rUcP
                case eUcP => simp only [List.getElem?_toArray, List.getElem?_cons_succ, List.getElem?_cons_zero]; rfl
                case wUcP => rfl
                case qUcP => exact fun _ _ _ h => h
                case yUcP => (intro w hSw; (try dsimp only at hSw); go_simp; try with_reducible rfl)
                try simp only [Act.put, List.setIfInBounds_toArray, List.set_cons_zero, List.set_cons_succ]
                refine wpAnyH_take (i := 20) (oi := ?oUcQ) (v := ?vUcQ) ?eUcQ (by kernel_rfl) (by kernel_rfl) (by kernel_rfl) ?qUcQ (Or.inl ⟨?wUcQ, ?yUcQ⟩) (by assumption) ?rUcQ
                case eUcQ => simp only [List.getElem?_toArray, List.getElem?_cons_succ, List.getElem?_cons_zero]; rfl
                case wUcQ => rfl
                case qUcQ => exact fun _ _ _ h => h
                case yUcQ => (intro w hSw; (try dsimp only at hSw); go_simp; try with_reducible rfl)
                try simp only [Act.put, List.setIfInBounds_toArray, List.set_cons_zero, List.set_cons_succ]
                refine wpAnyH_done (by kernel_rfl) ?_ _
                have hrb3 := HRB.out.below hb3 HRB.out.lt
                have hr3 := hrb3.cell (i := 1) rfl
                have hf3 := hrb3.free 1
                have HFIN := Lib.hid (newRow_of (j := 1) ho3 hb3 hrb3 HRB.out.lt HFr.out)
                clear ho3 hb3 hrb3 ho2 hb2 ho1 hb1
                refine thenLast_of fun K hK => ?_
                go_wp2_with fail
                refine hK.out _ _ ?_
                clear hK
                go_wp2_with fail
                go_meet
                exact ⟨rfl, HFIN.out⟩
            case rest =>
              obtain ⟨rfl, v4, hrb4, hro4, hwr4⟩ := hcut
              go_upto_region 12 with fail
              refine wp_gen fun wd hwd => ?_
              subst hwd
              have HFIN : Hid (RefInsPost p rb es hs e h w (.returned (.int .i64 ((0 : Nat) : Int))) wd) := by
                refine ⟨0, (es.take i ++ [e]) ++ es.drop i, (hs.take i ++ [h.toNat]) ++ hs.drop i, rfl, ⟨_, _, hrb4, ?_, ?_⟩, HWR.out.trans hwr4, .inr (.inr (.inr ⟨HCH.out, HH.out.1, HH.out.2, HII.out, rfl, by rw [HIP.out], by rw [HIP.out]⟩))⟩
                · refine (HRO.out.rows.keep fun k hk hF' => hwr4.block k hk ?_).mono fun k _ hF' => ?_
                  · rcases hF' with hF' | hF'
                    · have := HRO.out.base_le k hF'; have := HLB.out; omega
                    · exact HQF.out k hF'.1
                  · rcases hF' with hF' | hF'
                    · have := HRO.out.base_le k hF'
                      have h1 := HLB.out
                      have h2 := HWS.out
                      exact ⟨.inr (by omega), by omega⟩
                    · exact ⟨HF2.out k hF'.1, HQF.out k hF'.1⟩
                · refine hro4.rows.mono fun k _ hF' => ?_
                  rcases hF' with hF' | hF'
                  · have := hro4.base_le k hF'
                    have h1 := HLB.out
                    have h2 := HWS.out
                    have h3 := HSC.out
                    exact ⟨.inr (by omega), by omega⟩
                  · exact ⟨HFx.out k hF'.1, HFr.out k hF'.1⟩
              clear hrb4 hro4 hwr4
              go_wp2_with fail
              go_ret
              exact HFIN.out
    · have HHH : Hid (h < 1 ∨ 12 < h) := by show _ ∨ _; omega
      have h1 : h < 1 ∨ ¬ h < 1 := by omega
      rcases h1 with h1 | h1
      · go_wp2_with fail
        go_ret
        exact HQ.out (c := 2) HW2.out (.inr (.inl ⟨HCH.out, HHH.out, rfl, rfl, rfl⟩))
      · have h2 : 12 < h := by omega
        go_wp2_with fail
        go_ret
        exact HQ.out (c := 2) HW2.out (.inr (.inl ⟨HCH.out, HHH.out, rfl, rfl, rfl⟩))
  · have hne : ((e.chk : Int) != 0) = true := by rw [bne_iff_ne]; omega
    have HCH := Lib.hid hch
    clear hch
    generalize hcq : e.chk = c at *
    have HCQ := Lib.hid hcq
    clear hcq
    go_wp2_with fail
    go_ret
    exact HQ.out HW2.out (.inl ⟨by rw [HCQ.out]; exact HCH.out, HCQ.out.symm, rfl, rfl⟩)
end Go.Proofs.Ytdjjkdhhjdafmaa
