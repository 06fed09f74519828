/- Merge: heads of rows, and a heap of them, as plain lists. Merge: a heap's methods, called through its interface: which function they are. Merge: heads in memory; a merger. Merge: the heap's methods: Len, Less, Swap. Merge: the heap's methods: Less. Merge: container/heap over a merger's heads. Merge: container/heap over a merger's heads: Init, Fix, Pop. Merge: container/heap over a merger's heads: Pop. Merge: heap.Pop; step. Merge: step. -/
import Derived.Test.YtmpapipobjoboaaOrd
import Derived.Test.YtmpapipobjoboaaMgBase
import Derived.Test.YtmpapipobjoboaaRf06
namespace Go.Proofs.Ytmpapipobjoboaa
open Go.RowKit

/-- What is left of a row, and the row's number. -/
structure Hd where
  l : List Ent
  no : Int
def Hd.none : Hd := ⟨[], 0⟩
def Hd.first (h : Hd) : Ent := h.l.headD ⟨[], 0, 0, []⟩
/-- The order of heads: by their first entries, then by number. -/
def hcmp (a b : Hd) : Int := Ent.lex (Ent.cmp a.first b.first) (Ent.sgn a.no b.no)
theorem isCmp_hd : IsCmp hcmp := (isCmp_ent.comap Hd.first).lex (isCmp_sgn.comap Hd.no)
theorem hcmp_self (a : Hd) : hcmp a a = 0 := by have := isCmp_hd.anti a a; omega

def hat (l : List Hd) (i : Nat) : Hd := l.getD i Hd.none
theorem hat_eq {l : List Hd} {i : Nat} (h : i < l.length) : hat l i = l[i] := by simp [hat, h]
def swp (l : List Hd) (i j : Nat) : List Hd := (l.set i (hat l j)).set j (hat l i)
theorem swp_len (l : List Hd) (i j : Nat) : (swp l i j).length = l.length := by simp [swp]
theorem swp_at {l : List Hd} {i j : Nat} (hi : i < l.length) (hj : j < l.length) (k : Nat) : hat (swp l i j) k = if k = j then hat l i else if k = i then hat l j else hat l k := by
  unfold hat swp
  simp only [List.getD_eq_getElem?_getD, List.getElem?_set, List.length_set]
  by_cases h1 : k = j
  · subst h1; simp [hat, hj]
  · by_cases h2 : k = i
    · subst h2; simp [hat, h1, Ne.symm h1, hi]
    · simp [h1, h2, Ne.symm h1, Ne.symm h2]
theorem swp_self {l : List Hd} {i : Nat} : swp l i i = l := by
  unfold swp
  by_cases hi : i < l.length
  · rw [List.set_set, hat_eq hi]; simp
  · rw [List.set_eq_of_length_le (by simp; omega), List.set_eq_of_length_le (by omega)]
theorem swp_perm {l : List Hd} {i j : Nat} (hi : i < l.length) (hj : j < l.length) : (swp l i j).Perm l := by
  unfold swp
  rw [hat_eq hi, hat_eq hj]
  exact List.set_set_perm hi hj

/-- The heap's order, for all pairs whose upper one stands from i0 on. -/
def HeapFrom (l : List Hd) (n i0 : Nat) : Prop := ∀ j, 0 < j → j < n → i0 ≤ (j - 1) / 2 → hcmp (hat l ((j - 1) / 2)) (hat l j) ≤ 0
/-- The same, while the one at i sinks. -/
def Sift (l : List Hd) (n i0 i : Nat) : Prop :=
  (∀ j, 0 < j → j < n → i0 ≤ (j - 1) / 2 → (j - 1) / 2 ≠ i → hcmp (hat l ((j - 1) / 2)) (hat l j) ≤ 0) ∧
  ∀ j, 0 < j → j < n → (j - 1) / 2 = i → 0 < i → i0 ≤ (i - 1) / 2 → hcmp (hat l ((i - 1) / 2)) (hat l j) ≤ 0
/-- The lesser child. -/
def Child (l : List Hd) (n i j : Nat) : Prop := j < n ∧ (j = 2 * i + 1 ∨ j = 2 * i + 2) ∧ ∀ k, k < n → k = 2 * i + 1 ∨ k = 2 * i + 2 → hcmp (hat l j) (hat l k) ≤ 0

theorem Sift.start {l : List Hd} {n i0 : Nat} (h : HeapFrom l n (i0 + 1)) : Sift l n i0 i0 :=
  ⟨fun j h1 h2 h3 h4 => h j h1 h2 (by omega), fun _ _ _ _ h5 h6 => by omega⟩
theorem Sift.done {l : List Hd} {n i0 i : Nat} (h : Sift l n i0 i) (hn : n ≤ 2 * i + 1) : HeapFrom l n i0 :=
  fun j h1 h2 h3 => h.1 j h1 h2 h3 (by omega)
theorem Sift.stop {l : List Hd} {n i0 i j : Nat} (h : Sift l n i0 i) (hc : Child l n i j) (hl : ¬ hcmp (hat l j) (hat l i) < 0) : HeapFrom l n i0 := by
  intro k h1 h2 h3
  by_cases e : (k - 1) / 2 = i
  · rw [e]
    have h4 := hc.2.2 k h2 (by omega)
    have h5 := isCmp_hd.anti (hat l j) (hat l i)
    exact isCmp_hd.tr _ _ _ (by omega) h4
  · exact h.1 k h1 h2 h3 e
theorem Sift.step {l : List Hd} {n i0 i j : Nat} (h : Sift l n i0 i) (hc : Child l n i j) (hn : n ≤ l.length) (h0 : i0 ≤ i) (hl : hcmp (hat l j) (hat l i) < 0) : Sift (swp l i j) n i0 j := by
  obtain ⟨hj, hjc, hmin⟩ := hc
  have hi : i < l.length := by omega
  have hij : i ≠ j := by omega
  refine ⟨fun k h1 h2 h3 h4 => ?_, fun k h1 h2 h3 h4 h5 => ?_⟩
  · rw [swp_at hi (by omega), swp_at hi (by omega), if_neg h4]
    by_cases e : (k - 1) / 2 = i
    · rw [if_pos e]
      by_cases ek : k = j
      · rw [if_pos ek]; omega
      · rw [if_neg ek, if_neg (by omega)]
        exact hmin k h2 (by omega)
    · rw [if_neg e, if_neg (by omega)]
      by_cases ek : k = i
      · rw [if_pos ek, ek]
        exact h.2 j (by omega) hj (by omega) (by omega) (by omega)
      · rw [if_neg ek]
        exact h.1 k h1 h2 h3 e
  · have e : (j - 1) / 2 = i := by omega
    rw [e, swp_at hi (by omega), swp_at hi (by omega), if_neg (by omega), if_pos rfl, if_neg (by omega), if_neg (by omega), ← h3]
    exact h.1 k h1 h2 (by omega) (by omega)

/-- At the top stands the least one. -/
theorem HeapFrom.top {l : List Hd} {n : Nat} (h : HeapFrom l n 0) : ∀ j, j < n → hcmp (hat l 0) (hat l j) ≤ 0 := by
  intro j
  induction j using Nat.strongRecOn with
  | _ j ih =>
    intro hj
    by_cases h0 : j = 0
    · subst h0; rw [hcmp_self]; omega
    · exact isCmp_hd.tr _ _ _ (ih ((j - 1) / 2) (by omega) (by omega)) (h j (by omega) hj (by omega))
theorem HeapFrom.half (l : List Hd) (n i : Nat) (h : n ≤ 2 * i + 1) : HeapFrom l n i := fun j h1 h2 h3 => by omega
theorem HeapFrom.cut {l l' : List Hd} {n i0 : Nat} (h : HeapFrom l n i0) (he : ∀ k, k < n → i0 ≤ k → hat l' k = hat l k) : HeapFrom l' n i0 := fun j h1 h2 h3 => by
  rw [he _ (by omega) h3, he j h2 (by omega)]
  exact h j h1 h2 h3
end Go.Proofs.Ytmpapipobjoboaa

namespace Go.Proofs.Ytmpapipobjoboaa
open Go.RowKit

theorem meth_len {b off : Nat} {v : Value} {w : World} (h : w.cell? ⟨b, off, none⟩ = some v) :
    (method 220 82 (.pointer (some ⟨b, off, none⟩)) "Len").run Try.prog w = .ok (101, v) w := by
  have h1 : (method 220 82 (.pointer (some ⟨b, off, none⟩)) "Len").run Try.prog w = ((load ⟨b, off, none⟩ : Sem Value) >>= fun v => pure (101, v)).run Try.prog w := by kernel_rfl
  rw [h1]
  simp [h, go_sem]
theorem meth_pop (b off : Nat) (w : World) :
    (method 220 82 (.pointer (some ⟨b, off, none⟩)) "Pop").run Try.prog w = .ok (104, .pointer (some ⟨b, off, none⟩)) w := by kernel_rfl
end Go.Proofs.Ytmpapipobjoboaa

namespace Go.Proofs.Ytmpapipobjoboaa
open Go.RowKit

def headK : Kind Hd where
  sz := 2
  R F w cs x := ∃ v, cs = [v, .int .i64 x.no] ∧ Rw entK F w v x.l
  pos := by decide
  len := by rintro _ _ _ _ ⟨v, rfl, _⟩; rfl
  keep := by rintro _ _ _ _ _ ⟨v, rfl, h⟩ hk; exact ⟨v, rfl, h.keep hk⟩
  mono := by rintro _ _ _ _ _ ⟨v, rfl, h⟩ hk; exact ⟨v, rfl, h.mono hk⟩
  one := by
    rintro _ _ _ _ ⟨v, rfl, h⟩ u hu
    simp only [List.mem_cons, List.not_mem_nil, or_false] at hu
    rcases hu with rfl | rfl
    · exact h.oneCell
    · rfl

section
variable {F : Nat → Prop} {w w' : World} {v : Value} {l : List Hd} {B e : Nat}
/-- Where heads lie. -/
theorem hds_at (h : ROwnF headK F B e w v l) (hne : 0 < l.length) :
    ∃ g cap, v = .slice (some ⟨g, 0, none⟩) l.length cap ∧ B ≤ g ∧ g < w.heap.size ∧ (∀ j, w.frozen? ⟨g, j, none⟩ = false) ∧
      ∀ i, i < l.length → ∃ u, Rw entK (fun k => F k ∧ k ≠ g) w u (hat l i).l ∧ w.cell? ⟨g, i * 2, none⟩ = some u ∧ w.cell? ⟨g, i * 2 + 1, none⟩ = some (.int .i64 (hat l i).no) := by
  have hlt := h.lt
  obtain ⟨cs, h1, h2⟩ := h
  have hcl := h2.len
  obtain ⟨_, g, cap, cur, e1, hb, hg, hn, hc, hs, htk⟩ : cs.length = l.length * headK.sz ∧ ∃ g cap cur, v = .slice (some ⟨g, 0, none⟩) l.length cap ∧ B ≤ g ∧ w.heap[g]? = some (.cells cur e (0, 0)) ∧ l.length ≤ cap ∧ cap ≤ maxLen ∧ cur.size = cap * headK.sz ∧ cur.toList.take (l.length * headK.sz) = cs := by
    rcases h1 with ⟨hl, ⟨_, h0⟩ | h3⟩
    · omega
    · exact ⟨hl, h3⟩
  subst e1
  refine ⟨g, cap, rfl, hb, (hlt g rfl).2, fun j => World.ownsRow.frozenAt h1 j, fun i hi => ?_⟩
  obtain ⟨u, hu, hr⟩ := h2.get i hi
  have hsz : headK.sz = 2 := rfl
  rw [hsz] at hcl hu
  have c0 : (cs.drop (i * 2))[0]? = some u := by
    have := congrArg (fun z => z[0]?) hu
    simpa [List.getElem?_take] using this
  have c1 : (cs.drop (i * 2))[1]? = some (.int .i64 l[i].no) := by
    have := congrArg (fun z => z[1]?) hu
    simpa [List.getElem?_take] using this
  rw [List.getElem?_drop] at c0 c1
  rw [hat_eq hi]
  refine ⟨u, hr.mono fun k _ hk => ⟨hk.1, fun e => hk.2 (by rw [e]; rfl)⟩, ?_, ?_⟩
  · rw [World.ownsRow.cellAt h1 (i * 2) (by rw [hsz]; omega)]; simpa using c0
  · rw [World.ownsRow.cellAt h1 (i * 2 + 1) (by rw [hsz]; omega)]; exact c1

/-- A head is written. -/
theorem hds_set {g cap : Nat} {u : Value} {x : Hd} (h : ROwnF headK F B e w (.slice (some ⟨g, 0, none⟩) l.length cap) l) {i : Nat} (hi : i < l.length) (hu : Rw entK (fun k => F k ∧ k ≠ g) w u x.l) :
    ROwnF headK F B e ((w.setCell ⟨g, i * 2, none⟩ u).setCell ⟨g, i * 2 + 1, none⟩ (.int .i64 x.no)) (.slice (some ⟨g, 0, none⟩) l.length cap) (l.set i x) := by
  obtain ⟨cs, h1, h2⟩ := h
  have hcl := h2.len
  have hsz : headK.sz = 2 := rfl
  rw [hsz] at hcl
  have hF : ∀ k, (F k ∧ (Value.slice (some ⟨g, 0, none⟩) l.length cap).ownBlock ≠ some k) → k ≠ g := fun k hk e => hk.2 (by rw [e]; rfl)
  have hel := h2.set (x := x) (ecs := [u, .int .i64 x.no]) ⟨u, rfl, hu.mono fun k _ hk => ⟨hk.1, fun e => by injection e with e; exact hk.2 e.symm⟩⟩ i hi
  rw [hsz] at hel
  have hcs : (cs.set (i * 2) u).set (i * 2 + 1) (.int .i64 x.no) = cs.take (i * 2) ++ ([u, .int .i64 x.no] ++ cs.drop (i * 2 + 2)) := by
    apply List.ext_getElem?
    intro k
    simp only [List.getElem?_set, List.length_set, List.getElem?_append, List.length_take, List.getElem?_take, List.length_cons, List.length_nil, List.getElem?_drop]
    rcases Nat.lt_trichotomy k (i * 2) with hk | hk | hk
    · rw [if_neg (by omega), if_neg (by omega), if_pos (by omega), if_pos (by omega)]
    · subst hk; rw [if_neg (by omega), if_pos rfl, if_pos (by omega), if_neg (by omega), if_pos (by omega)]; simp [Nat.min_eq_left (show i * 2 ≤ cs.length by omega)]
    · by_cases hk2 : k = i * 2 + 1
      · subst hk2; rw [if_pos rfl, if_pos (by omega), if_neg (by omega), if_pos (by omega)]; simp [Nat.min_eq_left (show i * 2 ≤ cs.length by omega)]
      · rw [if_neg (by omega), if_neg (by omega), if_neg (by omega), if_neg (by omega)]
        congr 1
        omega
  refine ⟨(cs.set (i * 2) u).set (i * 2 + 1) (.int .i64 x.no), ?_, ?_⟩
  · rw [List.length_set]
    exact (World.ownsRow.stored (World.ownsRow.stored h1 (i * 2) u).1 (i * 2 + 1) _).1
  · rw [hcs]
    exact hel.keep fun k _ hk => (heap_setCell_other _ _ _ _ (hF k hk)).trans (heap_setCell_other _ _ _ _ (hF k hk))
end

theorem Wrote.mono {S S' : Nat → Prop} {w w' : World} (h : Wrote S w w') (hS : ∀ k, S k → S' k) : Wrote S' w w' := ⟨h.os, h.tape, h.output, h.size, fun k hk hn => h.block k hk fun e => hn (hS k e)⟩
theorem Wrote.drew {S : Nat → Prop} {w w' : World} (h : Wrote S w w') : Wrote S w w'.drew := ⟨h.os, h.tape, h.output, h.size, h.block⟩

/-- A merger in block m: its heads l lie in a row of its own, from block B on; their entries in blocks of F. -/
structure Hp (B : Nat) (F : Nat → Prop) (w : World) (m : Nat) (l : List Hd) : Prop where
  ex : ∃ v, Blk w m #[v, .bool true] 53 ∧ ROwnF headK F B 80 w v l ∧ v.ownBlock ≠ some m
  lo : B ≤ m
  nm : ¬ F m
theorem Hp.below {B : Nat} {F : Nat → Prop} {w w' : World} {m : Nat} {l : List Hd} (h : Hp B F w m l) (hb : Below w.heap.size w w') : Hp B F w' m l := by
  obtain ⟨⟨v, h1, h2, h3⟩, h4, h5⟩ := h
  exact ⟨⟨v, h1.below hb h1.lt, h2.below hb, h3⟩, h4, h5⟩
end Go.Proofs.Ytmpapipobjoboaa

namespace Go.Proofs.Ytmpapipobjoboaa
open Go.RowKit

theorem hlen_any (a : Option Addr) (n c : Nat) (w : World) : Calls Try.prog 101 #[.slice a n c] w fun x w' => x = .returned (.int .i64 (n : Int)) ∧ w' = w := by
  go_enter Try.func101, Try.ntmps101
  go_wp2_with fail
  go_ret
  exact ⟨rfl, rfl⟩

theorem cell_stored {w : World} {p q : Addr} {x v : Value} (h : w.cell? q = some v) : ∃ v', (w.setCell p x).cell? q = some v' := by
  by_cases e : p = q
  · subst e; exact ⟨x, World.cell?_setCell_same w p x h⟩
  · exact ⟨v, (World.cell?_setCell_other w p q x e).trans h⟩

theorem hds_swap {F : Nat → Prop} {w : World} {l : List Hd} {B e g cap : Nat} {ui uj : Value} (h : ROwnF headK F B e w (.slice (some ⟨g, 0, none⟩) l.length cap) l) {i j : Nat} (hi : i < l.length) (hj : j < l.length)
    (hui : Rw entK (fun k => F k ∧ k ≠ g) w ui (hat l i).l) (huj : Rw entK (fun k => F k ∧ k ≠ g) w uj (hat l j).l) :
    ROwnF headK F B e ((((w.setCell ⟨g, i * 2, none⟩ uj).setCell ⟨g, i * 2 + 1, none⟩ (.int .i64 (hat l j).no)).setCell ⟨g, j * 2, none⟩ ui).setCell ⟨g, j * 2 + 1, none⟩ (.int .i64 (hat l i).no)).drew (.slice (some ⟨g, 0, none⟩) l.length cap) (swp l i j) ∧
    Wrote (fun k => k = g) w ((((w.setCell ⟨g, i * 2, none⟩ uj).setCell ⟨g, i * 2 + 1, none⟩ (.int .i64 (hat l j).no)).setCell ⟨g, j * 2, none⟩ ui).setCell ⟨g, j * 2 + 1, none⟩ (.int .i64 (hat l i).no)).drew := by
  have h1 := hds_set h hi huj
  have hl : (l.set i (hat l j)).length = l.length := List.length_set
  rw [← hl] at h1
  have h2 := hds_set h1 (i := j) (x := hat l i) (by rw [hl]; exact hj) (u := ui) (hui.keep fun k _ hk => (heap_setCell_other _ _ _ _ hk.2).trans (heap_setCell_other _ _ _ _ hk.2))
  rw [hl] at h2
  refine ⟨h2.keep fun _ _ _ => rfl, ?_⟩
  have g0 : Wrote (fun k => k = g) w w := Wrote.of_below (Below.refl _ _)
  have g1 := g0.setCell ⟨g, i * 2, none⟩ uj (.inl rfl)
  have g2 := g1.setCell ⟨g, i * 2 + 1, none⟩ (.int .i64 (hat l j).no) (.inl rfl)
  have g3 := g2.setCell ⟨g, j * 2, none⟩ ui (.inl rfl)
  have g4 := g3.setCell ⟨g, j * 2 + 1, none⟩ (.int .i64 (hat l i).no) (.inl rfl)
  exact g4.drew

set_option maxRecDepth 100000 in
theorem hswap_any {F : Nat → Prop} {w : World} {v : Value} {l : List Hd} {B : Nat} (h : ROwnF headK F B 80 w v l) (hlen : l.length ≤ 1000000) (i j : Nat) (hi : i < l.length) (hj : j < l.length) :
    Calls Try.prog 103 #[v, .int .i64 (i : Int), .int .i64 (j : Int)] w fun x w' => x = .returned (.tuple #[]) ∧ ROwnF headK F B 80 w' v (swp l i j) ∧ Wrote (fun k => v.ownBlock = some k) w w' := by
  obtain ⟨g, cap, rfl, _, hg, hf, hc⟩ := hds_at h (by omega)
  obtain ⟨ui, hui, ci0, ci1⟩ := hc i hi
  obtain ⟨uj, huj, cj0, cj1⟩ := hc j hj
  obtain ⟨ai, ni, rfl⟩ := hui.isSlice
  obtain ⟨aj, nj, rfl⟩ := huj.isSlice
  have HH := Lib.hid h
  have HI := Lib.hid hui
  have HJ := Lib.hid huj
  have f0 := hf (i * 2)
  have f1 := hf (i * 2 + 1)
  have f2 := hf (j * 2)
  have f3 := hf (j * 2 + 1)
  have b1 : (i : Int) < (l.length : Int) := by omega
  have b2 : (j : Int) < (l.length : Int) := by omega
  have b3 : 0 ≤ (i : Int) := by omega
  have b4 : 0 ≤ (j : Int) := by omega
  obtain ⟨y0, hy0⟩ := cell_stored (p := ⟨g, i * 2, none⟩) (x := .slice aj (hat l j).l.length nj) cj0
  obtain ⟨y1, hy1⟩ := cell_stored (p := ⟨g, i * 2, none⟩) (x := .slice aj (hat l j).l.length nj) cj1
  obtain ⟨y2, hy2⟩ := cell_stored (p := ⟨g, i * 2 + 1, none⟩) (x := .int .i64 (hat l j).no) hy1
  clear h hui huj hc hf
  go_enter Try.func103, Try.ntmps103
  go_region_law fail
  all_goals
    go_wp2_with fail
    go_end0
    exact ⟨rfl, hds_swap HH.out hi hj HI.out HJ.out |>.1, (hds_swap HH.out hi hj HI.out HJ.out).2.mono fun k hk => by rw [hk]; rfl⟩
end Go.Proofs.Ytmpapipobjoboaa

namespace Go.Proofs.Ytmpapipobjoboaa
open Go.RowKit

theorem ents0_at {F : Nat → Prop} {w : World} {v : Value} {h : Hd} (hr : Rw entK F w v h.l) (hne : h.l ≠ []) :
    ∃ b off cap n, v = .slice (some ⟨b, off, none⟩) n cap ∧ n = h.l.length ∧ 0 < n ∧ F b ∧ b < w.heap.size ∧ ∃ vk vv, Bytes F w vk h.first.key ∧ Bytes F w vv h.first.value ∧ C4o b off h.first vk vv w := by
  have hl : 0 < h.l.length := List.length_pos_iff.2 hne
  obtain ⟨b, off, cap, e, hF, hb, hc⟩ := ents_at hr hl
  obtain ⟨vk, vv, h1, h2, c0, c1, c2, c3⟩ := hc 0 hl
  have hf : h.l[0] = h.first := by
    simp [Hd.first, List.headD_eq_head?_getD, List.head?_eq_getElem?, hl]
  rw [hf] at h1 h2 c1 c2
  rw [Nat.zero_mul, Nat.add_zero] at c0 c1 c2 c3
  exact ⟨b, off, cap, _, e, rfl, hl, hF, hb, vk, vv, h1, h2, c0, c1, c2, c3⟩

def LessPost (r : Bool) (w : World) (x : Ending) (w' : World) : Prop := x = .returned (.bool r) ∧ Below w.heap.size w w'

theorem lex_lt0 {c s : Int} (h : c < 0) : decide (Ent.lex c s < 0) = true := by unfold Ent.lex; rw [if_pos (by omega)]; simpa using h
theorem lex_gt0 {c s : Int} (h : 0 < c) : decide (Ent.lex c s < 0) = false := by unfold Ent.lex; rw [if_pos (by omega)]; simp; omega
theorem lex_eq0 {a b : Int} : decide (Ent.lex 0 (Ent.sgn a b) < 0) = decide (a < b) := by
  unfold Ent.lex Ent.sgn; by_cases h : a < b
  · simp [h]
  · by_cases h2 : b < a <;> simp [h, h2]

set_option maxRecDepth 100000 in
set_option maxHeartbeats 1000000 in
theorem hless_any {F : Nat → Prop} {w : World} {v : Value} {l : List Hd} {B : Nat} (h : ROwnF headK F B 80 w v l) (hlen : l.length ≤ 1000000) (i j : Nat) (hi : i < l.length) (hj : j < l.length) (ni : (hat l i).l ≠ []) (nj : (hat l j).l ≠ []) :
    Calls Try.prog 102 #[v, .int .i64 (i : Int), .int .i64 (j : Int)] w (LessPost (decide (hcmp (hat l i) (hat l j) < 0)) w) := by
  obtain ⟨g, cap, rfl, _, hg, hf, hc⟩ := hds_at h (by omega)
  obtain ⟨ui, hui, ci0, ci1⟩ := hc i hi
  obtain ⟨uj, huj, cj0, cj1⟩ := hc j hj
  obtain ⟨bi, oi, capi, mi, rfl, hmi, li, _, hbi, ki, vi, hki, hvi, hci⟩ := ents0_at hui ni
  obtain ⟨bj, oj, capj, mj, rfl, hmj, lj, _, hbj, kj, vj, hkj, hvj, hcj⟩ := ents0_at huj nj
  obtain ⟨kia, kic, rfl⟩ := hki.isSlice
  obtain ⟨via, vic, rfl⟩ := hvi.isSlice
  obtain ⟨kja, kjc, rfl⟩ := hkj.isSlice
  obtain ⟨vja, vjc, rfl⟩ := hvj.isSlice
  have hml : mi ≤ 9223372036854775807 := by have := hui.len; unfold maxLen at this; omega
  have hmj' : mj ≤ 9223372036854775807 := by have := huj.len; unfold maxLen at this; omega
  have HI := Lib.hid (hki.below (below_drew (Below.refl _ _)))
  have HJ := Lib.hid (hkj.below (below_drew (Below.refl _ _)))
  have HVI := Lib.hid (hvi.below (below_drew (Below.refl _ _)))
  have HVJ := Lib.hid (hvj.below (below_drew (Below.refl _ _)))
  have b1 : (i : Int) < (l.length : Int) := by omega
  have b2 : (j : Int) < (l.length : Int) := by omega
  have b3 : 0 ≤ (i : Int) := by omega
  have b4 : 0 ≤ (j : Int) := by omega
  clear h hui huj hc hf hmi hmj hki hkj hvi hvj ni nj
  unfold hcmp
  generalize (hat l i).first = x at *
  generalize (hat l j).first = y at *
  generalize (hat l i).no = p at *
  generalize (hat l j).no = q at *
  generalize l.length = n at *
  obtain ⟨c, hcc⟩ : ∃ c, Ent.cmp x y = c := ⟨_, rfl⟩
  rw [hcc]
  have HC := Lib.hid hcc
  have HX : Hid (C4o bi oi x (.slice kia x.key.length kic) (.slice via x.value.length vic) w.drew) := hci
  have HY : Hid (C4o bj oj y (.slice kja y.key.length kjc) (.slice vja y.value.length vjc) w.drew) := hcj
  have HA : Hid (w.drew.cell? ⟨g, i * 2, none⟩ = some (.slice (some ⟨bi, oi, none⟩) mi capi) ∧ w.drew.cell? ⟨g, j * 2, none⟩ = some (.slice (some ⟨bj, oj, none⟩) mj capj)) := ⟨ci0, cj0⟩
  have HN : Hid (w.cell? ⟨g, i * 2 + 1, none⟩ = some (.int .i64 p) ∧ w.cell? ⟨g, j * 2 + 1, none⟩ = some (.int .i64 q)) := ⟨ci1, cj1⟩
  have HB : Hid (g < w.drew.heap.size ∧ bi < w.drew.heap.size ∧ bj < w.drew.heap.size) := ⟨hg, hbi, hbj⟩
  clear hci hcj ci0 ci1 cj0 cj1 hcc hg hbi hbj
  go_enter Try.func102, Try.ntmps102
  go_wp2_with fail
  go_region_held3 (fun w' => (w'.cell? ⟨g, i * 2, none⟩ = some (.slice (some ⟨bi, oi, none⟩) mi capi) ∧ w'.cell? ⟨g, j * 2, none⟩ = some (.slice (some ⟨bj, oj, none⟩) mj capj)) ∧ (w'.cell? ⟨bi, oi, none⟩ = some (.slice kia x.key.length kic) ∧ w'.cell? ⟨bi, oi + 1, none⟩ = some (.int .u64 x.seq) ∧ w'.cell? ⟨bi, oi + 2, none⟩ = some (.int .i64 x.kind) ∧ w'.cell? ⟨bi, oi + 3, none⟩ = some (.slice via x.value.length vic)) ∧ (w'.cell? ⟨bj, oj, none⟩ = some (.slice kja y.key.length kjc) ∧ w'.cell? ⟨bj, oj + 1, none⟩ = some (.int .u64 y.seq) ∧ w'.cell? ⟨bj, oj + 2, none⟩ = some (.int .i64 y.kind) ∧ w'.cell? ⟨bj, oj + 3, none⟩ = some (.slice vja y.value.length vjc)))
    (first | exact ⟨HA.out, HX.out, HY.out⟩ | exact ⟨⟨(hbx1.cell (p := ⟨g, i * 2, none⟩) HB.out.1).trans HA.out.1, (hbx1.cell (p := ⟨g, j * 2, none⟩) HB.out.1).trans HA.out.2⟩, HX.out.keep hbx1 HB.out.2.1, HY.out.keep hbx1 HB.out.2.2⟩)
    (first | (go_at_call 59; refine Calls.mono (ecompare_at _ _ x y c HC.out (.slice kia x.key.length kic) (.slice via x.value.length vic) (.slice kja y.key.length kjc) (.slice vja y.value.length vjc) _ HI.out HJ.out) ?_; rintro e x1 ⟨rfl, hbx1⟩; skip))
  have HW1 : Hid (Below w.heap.size w x1) := below_of_drew hbx1
  have kp : x1.cell? ⟨g, i * 2 + 1, none⟩ = some (.int .i64 p) := (hbx1.cell (p := ⟨g, i * 2 + 1, none⟩) HB.out.1).trans HN.out.1
  have kq : x1.cell? ⟨g, j * 2 + 1, none⟩ = some (.int .i64 q) := (hbx1.cell (p := ⟨g, j * 2 + 1, none⟩) HB.out.1).trans HN.out.2
  clear hbx1 HA HX HY HN HB HI HJ HVI HVJ HC
  by_cases h1 : c < 0
  · have e1 : decide (c < 0) = true := by simpa using h1
    go_wp2_with fail
    go_quiet (fail)
    all_goals
      go_wp2_with fail
      go_ret
      exact ⟨ret_bool (lex_lt0 h1).symm, below_dn HW1.out _⟩
  · have e1 : decide (c < 0) = false := by simpa using h1
    by_cases h2 : c = 0
    · subst h2
      go_wp2_with fail
      go_quiet (fail)
      all_goals
        go_wp2_with fail
        go_ret
        exact ⟨ret_bool lex_eq0.symm, below_dn HW1.out _⟩
    · have e2 : (c == 0) = false := by simpa using h2
      go_wp2_with fail
      go_quiet (fail)
      all_goals
        go_wp2_with fail
        go_ret
        exact ⟨ret_bool (lex_gt0 (by omega)).symm, below_dn HW1.out _⟩
end Go.Proofs.Ytmpapipobjoboaa

namespace Go.Proofs.Ytmpapipobjoboaa
open Go.RowKit

theorem meth_less {b off : Nat} {v : Value} {w : World} (h : w.cell? ⟨b, off, none⟩ = some v) :
    (method 220 82 (.pointer (some ⟨b, off, none⟩)) "Less").run Try.prog w = .ok (102, v) w := by
  have h1 : (method 220 82 (.pointer (some ⟨b, off, none⟩)) "Less").run Try.prog w = ((load ⟨b, off, none⟩ : Sem Value) >>= fun v => pure (102, v)).run Try.prog w := by kernel_rfl
  rw [h1]
  simp [h, go_sem]
theorem meth_swap {b off : Nat} {v : Value} {w : World} (h : w.cell? ⟨b, off, none⟩ = some v) :
    (method 220 82 (.pointer (some ⟨b, off, none⟩)) "Swap").run Try.prog w = .ok (103, v) w := by
  have h1 : (method 220 82 (.pointer (some ⟨b, off, none⟩)) "Swap").run Try.prog w = ((load ⟨b, off, none⟩ : Sem Value) >>= fun v => pure (103, v)).run Try.prog w := by kernel_rfl
  rw [h1]
  simp [h, go_sem]

/-- A merger in block m, whose heads lie in the row v. -/
structure Hv (B : Nat) (F : Nat → Prop) (w : World) (m : Nat) (v : Value) (l : List Hd) : Prop where
  blk : Blk w m #[v, .bool true] 53
  own : ROwnF headK F B 80 w v l
  ne : v.ownBlock ≠ some m
  nm : ¬ F m

section
variable {B m : Nat} {F : Nat → Prop} {w w' : World} {v : Value} {l : List Hd}
theorem Hv.below (h : Hv B F w m v l) (hb : Below w.heap.size w w') : Hv B F w' m v l := ⟨h.blk.below hb h.blk.lt, h.own.below hb, h.ne, h.nm⟩
theorem Hv.cell (h : Hv B F w m v l) : w.cell? ⟨m, 0, none⟩ = some v := h.blk.cell rfl

set_option maxRecDepth 100000 in
theorem up0_any (t : Value) (w : World) : Calls Try.prog 84 #[t, .int .i64 0] w fun x w' => x = .returned (.tuple #[]) ∧ w' = w := by
  go_enter Try.func84, Try.ntmps84
  go_wp2_with fail
  refine wp_loop_rounds 1 ?_
  rw [rounds_succ]
  go_wp2_with fail
  go_end0
  exact ⟨rfl, rfl⟩


theorem Hv.swapped (h : Hv B F w m v l) {l' : List Hd} (ho : ROwnF headK F B 80 w' v l') (hw : Wrote (fun k => v.ownBlock = some k) w w') : Hv B F w' m v l' :=
  ⟨h.blk.same (hw.block m h.blk.lt h.ne), ho, h.ne, h.nm⟩

theorem hless_at (h : Hv B F w m v l) (hlen : l.length ≤ 1000000) (hne : ∀ x ∈ l, x.l ≠ []) (i j : Nat) (hi : i < l.length) (hj : j < l.length) (a b : Int) (ha : a = i) (hb : b = j) (r : Bool) (hr : decide (hcmp (hat l i) (hat l j) < 0) = r) :
    Calls Try.prog 102 #[v, .int .i64 a, .int .i64 b] w (LessPost r w) := by
  subst ha hb hr
  exact hless_any h.own hlen i j hi hj (by rw [hat_eq hi]; exact hne _ (List.getElem_mem hi)) (by rw [hat_eq hj]; exact hne _ (List.getElem_mem hj))

theorem hswap_at (h : Hv B F w m v l) (hlen : l.length ≤ 1000000) (i j : Nat) (hi : i < l.length) (hj : j < l.length) (a b : Int) (ha : a = i) (hb : b = j) :
    Calls Try.prog 103 #[v, .int .i64 a, .int .i64 b] w fun x w' => x = .returned (.tuple #[]) ∧ Hv B F w' m v (swp l i j) ∧ Wrote (fun k => v.ownBlock = some k) w w' := by
  subst ha hb
  exact (hswap_any h.own hlen i j hi hj).mono fun _ _ ⟨h1, h2, h3⟩ => ⟨h1, h.swapped h2 h3, h3⟩

/-- What a sinking has done so far. -/
structure Sunk (l : List Hd) (n i0 : Nat) (l' : List Hd) (i : Nat) : Prop where
  perm : l'.Perm l
  sift : Sift l' n i0 i
  rest : ∀ k, n ≤ k → hat l' k = hat l k
  start : i = i0 → l' = l

theorem Sunk.step {n i0 i j : Nat} {l' : List Hd} (h : Sunk l n i0 l' i) (hc : Child l' n i j) (hn : n ≤ l.length) (h0 : i0 ≤ i) (hl : hcmp (hat l' j) (hat l' i) < 0) : Sunk l n i0 (swp l' i j) j := by
  have hlen := h.perm.length_eq
  obtain ⟨c1, c2, _⟩ := id hc
  refine ⟨(swp_perm (by omega) (by omega)).trans h.perm, h.sift.step hc (by omega) h0 hl, fun k hk => ?_, fun e => by omega⟩
  rw [swp_at (by omega) (by omega), if_neg (by omega), if_neg (by omega)]
  exact h.rest k hk

theorem child_right {l : List Hd} {n i : Nat} (h2 : 2 * i + 2 < n) (hc : hcmp (hat l (2 * i + 2)) (hat l (2 * i + 1)) < 0) : Child l n i (2 * i + 2) :=
  ⟨h2, .inr rfl, fun k _ hk => by
    rcases hk with rfl | rfl
    · omega
    · rw [hcmp_self]; omega⟩
theorem child_left {l : List Hd} {n i : Nat} (h1 : 2 * i + 1 < n) (hc : 2 * i + 2 < n → ¬ hcmp (hat l (2 * i + 2)) (hat l (2 * i + 1)) < 0) : Child l n i (2 * i + 1) :=
  ⟨h1, .inl rfl, fun k hk1 hk => by
    rcases hk with rfl | rfl
    · rw [hcmp_self]; omega
    · have := hc hk1
      have := isCmp_hd.anti (hat l (2 * i + 2)) (hat l (2 * i + 1))
      omega⟩

def DownPost (B : Nat) (F : Nat → Prop) (m : Nat) (v : Value) (l : List Hd) (n i0 : Nat) (w : World) (x : Ending) (w' : World) : Prop :=
  ∃ l' b, x = .returned (.bool b) ∧ Hv B F w' m v l' ∧ l'.Perm l ∧ HeapFrom l' n i0 ∧ (∀ k, n ≤ k → hat l' k = hat l k) ∧ (b = false → l' = l) ∧ Wrote (fun k => v.ownBlock = some k) w w'

theorem down_done {n i0 i : Nat} {l' : List Hd} {b : Bool} (h : Hv B F w' m v l') (hs : Sunk l n i0 l' i) (hp : HeapFrom l' n i0) (hb : b = decide (i0 < i)) (h0 : i0 ≤ i) (hw : Wrote (fun k => v.ownBlock = some k) w w') : DownPost B F m v l n i0 w (.returned (.bool b)) w' :=
  ⟨l', b, rfl, h, hs.perm, hp, hs.rest, fun e => hs.start (by rw [e] at hb; have := of_decide_eq_false hb.symm; omega), hw⟩

set_option maxRecDepth 100000 in
set_option maxHeartbeats 1000000 in
theorem down_any (h : Hv B F w m v l) (hlen : l.length ≤ 1000000) (hne : ∀ x ∈ l, x.l ≠ []) (i0 n : Nat) (a b : Int) (ha : a = i0) (hb : b = n) (hn : n ≤ l.length) (hi0 : i0 ≤ 1000000) (hp : HeapFrom l n (i0 + 1)) :
    Calls Try.prog 75 #[.iface 82 (.pointer (some ⟨m, 0, none⟩)), .int .i64 a, .int .i64 b] w (DownPost B F m v l n i0 w) := by
  subst ha hb
  have HH := Lib.hid h
  have HNE := Lib.hid hne
  have HP := Lib.hid hp
  have HN := Lib.hid hn
  have hn1 : n ≤ 1000000 := by omega
  clear h hne hp hn
  go_enter Try.func75, Try.ntmps75
  go_wp2_with fail
  go_loopw [7] (fun s wr => ∃ (i : Nat) (l' : List Hd), s = .int .i64 (i : Int) ∧ i0 ≤ i ∧ i ≤ 1000000 ∧ Hid (Hv B F wr m v l') ∧ Hid (Sunk l n i0 l' i) ∧ Hid (Wrote (fun k => v.ownBlock = some k) w wr)) (fun s _ => 1000001 - (intOf s).toNat)
  case atStart => exact ⟨i0, l, rfl, Nat.le_refl _, hi0, HH.out, ⟨List.Perm.refl _, Sift.start HP.out, fun _ _ => rfl, fun _ => rfl⟩, Wrote.of_below (Below.refl _ _)⟩
  case round =>
    obtain ⟨i, l', rfl, h0, h1, HV, HS, HW⟩ := hrel
    have HNE' : Hid (∀ x ∈ l', x.l ≠ []) := fun x hx => HNE.out x (HS.out.perm.mem_iff.1 hx)
    have HL : Hid (l'.length ≤ 1000000 ∧ n ≤ l'.length) := by have := HS.out.perm.length_eq; have := HN.out; exact ⟨by omega, by omega⟩
    by_cases hj1 : n ≤ 2 * i + 1
    · have t1 : decide ((n : Int) ≤ 2 * (i : Int) + 1) = true := by simp; omega
      go_wp2_with fail
      go_ret
      exact down_done HV.out HS.out (HS.out.sift.done hj1) rfl h0 HW.out
    · have t1 : (2 * (i : Int) + 1) < (n : Int) := by omega
      by_cases hj2 : 2 * i + 2 < n
      · have t2 : 2 * (i : Int) + 1 + 1 < (n : Int) := by omega
        have hm1 := meth_less (HV.out.cell)
        by_cases hc : hcmp (hat l' (2 * i + 2)) (hat l' (2 * i + 1)) < 0
        · have HC : Hid (Child l' n i (2 * i + 2)) := child_right hj2 hc
          go_wp2_with fail
          refine Calls.mono (hless_at HV.out HL.out.1 HNE'.out (2 * i + 2) (2 * i + 1) (by have := HL.out.2; omega) (by have := HL.out.2; omega) _ _ (by omega) (by omega) true (decide_eq_true hc)) ?_
          rintro e w2 ⟨rfl, hb2⟩
          have HV2 := Lib.hid (HV.out.below hb2)
          have HW2 : Hid (Wrote (fun k => v.ownBlock = some k) w w2) := HW.out.trans (Wrote.of_below hb2)
          clear hb2 hm1 hc
          have hm2 := meth_less (HV2.out.cell)
          by_cases hlt : hcmp (hat l' (2 * i + 2)) (hat l' i) < 0
          · go_wp2_with fail
            refine Calls.mono (hless_at HV2.out HL.out.1 HNE'.out (2 * i + 2) i (by have := HL.out.2; omega) (by have := HL.out.2; omega) _ _ (by omega) rfl true (decide_eq_true hlt)) ?_
            rintro e w3 ⟨rfl, hb3⟩
            have HV3 := Lib.hid (HV2.out.below hb3)
            have HW3 : Hid (Wrote (fun k => v.ownBlock = some k) w w3) := HW2.out.trans (Wrote.of_below hb3)
            have hm3 := meth_swap (HV3.out.cell)
            clear hb3 hm2
            go_wp2_with fail
            refine Calls.mono (hswap_at HV3.out HL.out.1 i (2 * i + 2) (by have := HL.out.2; omega) (by have := HL.out.2; omega) _ _ rfl (by omega)) ?_
            rintro e w4 ⟨rfl, hv4, hw4⟩
            have HV4 := Lib.hid hv4
            have HW4 : Hid (Wrote (fun k => v.ownBlock = some k) w w4) := HW3.out.trans hw4
            clear hv4 hw4 hm3
            have HS4 := Lib.hid (HS.out.step HC.out HN.out h0 hlt)
            clear hlt
            go_wp2_with fail
            go_roundw
            · exact ⟨(2 * i + 2), _, int_eq (by omega), by omega, by omega, HV4.out, HS4.out, HW4.out⟩
            · simp only [intOf]; omega
          · go_wp2_with fail
            refine Calls.mono (hless_at HV2.out HL.out.1 HNE'.out (2 * i + 2) i (by have := HL.out.2; omega) (by have := HL.out.2; omega) _ _ (by omega) rfl false (decide_eq_false (by omega))) ?_
            rintro e w3 ⟨rfl, hb3⟩
            have HV3 := Lib.hid (HV2.out.below hb3)
            have HW3 : Hid (Wrote (fun k => v.ownBlock = some k) w w3) := HW2.out.trans (Wrote.of_below hb3)
            have HP3 := Lib.hid (HS.out.sift.stop HC.out (by omega))
            clear hb3 hm2 hlt
            go_wp2_with fail
            go_ret
            exact down_done HV3.out HS.out HP3.out rfl h0 HW3.out
        · have HC : Hid (Child l' n i (2 * i + 1)) := child_left (by omega) (fun _ => hc)
          go_wp2_with fail
          refine Calls.mono (hless_at HV.out HL.out.1 HNE'.out (2 * i + 2) (2 * i + 1) (by have := HL.out.2; omega) (by have := HL.out.2; omega) _ _ (by omega) (by omega) false (decide_eq_false (by omega))) ?_
          rintro e w2 ⟨rfl, hb2⟩
          have HV2 := Lib.hid (HV.out.below hb2)
          have HW2 : Hid (Wrote (fun k => v.ownBlock = some k) w w2) := HW.out.trans (Wrote.of_below hb2)
          clear hb2 hm1 hc
          have hm2 := meth_less (HV2.out.cell)
          by_cases hlt : hcmp (hat l' (2 * i + 1)) (hat l' i) < 0
          · go_wp2_with fail
            refine Calls.mono (hless_at HV2.out HL.out.1 HNE'.out (2 * i + 1) i (by have := HL.out.2; omega) (by have := HL.out.2; omega) _ _ (by omega) rfl true (decide_eq_true hlt)) ?_
            rintro e w3 ⟨rfl, hb3⟩
            have HV3 := Lib.hid (HV2.out.below hb3)
            have HW3 : Hid (Wrote (fun k => v.ownBlock = some k) w w3) := HW2.out.trans (Wrote.of_below hb3)
            have hm3 := meth_swap (HV3.out.cell)
            clear hb3 hm2
            go_wp2_with fail
            refine Calls.mono (hswap_at HV3.out HL.out.1 i (2 * i + 1) (by have := HL.out.2; omega) (by have := HL.out.2; omega) _ _ rfl (by omega)) ?_
            rintro e w4 ⟨rfl, hv4, hw4⟩
            have HV4 := Lib.hid hv4
            have HW4 : Hid (Wrote (fun k => v.ownBlock = some k) w w4) := HW3.out.trans hw4
            clear hv4 hw4 hm3
            have HS4 := Lib.hid (HS.out.step HC.out HN.out h0 hlt)
            clear hlt
            go_wp2_with fail
            go_roundw
            · exact ⟨(2 * i + 1), _, int_eq (by omega), by omega, by omega, HV4.out, HS4.out, HW4.out⟩
            · simp only [intOf]; omega
          · go_wp2_with fail
            refine Calls.mono (hless_at HV2.out HL.out.1 HNE'.out (2 * i + 1) i (by have := HL.out.2; omega) (by have := HL.out.2; omega) _ _ (by omega) rfl false (decide_eq_false (by omega))) ?_
            rintro e w3 ⟨rfl, hb3⟩
            have HV3 := Lib.hid (HV2.out.below hb3)
            have HW3 : Hid (Wrote (fun k => v.ownBlock = some k) w w3) := HW2.out.trans (Wrote.of_below hb3)
            have HP3 := Lib.hid (HS.out.sift.stop HC.out (by omega))
            clear hb3 hm2 hlt
            go_wp2_with fail
            go_ret
            exact down_done HV3.out HS.out HP3.out rfl h0 HW3.out
      · have t2 : ¬ 2 * (i : Int) + 1 + 1 < (n : Int) := by omega
        have HC : Hid (Child l' n i (2 * i + 1)) := child_left (by omega) (fun h => absurd h hj2)
        have HV2 := HV
        have HW2 := HW
        have hm2 := meth_less (HV2.out.cell)
        by_cases hlt : hcmp (hat l' (2 * i + 1)) (hat l' i) < 0
        · go_wp2_with fail
          refine Calls.mono (hless_at HV2.out HL.out.1 HNE'.out (2 * i + 1) i (by have := HL.out.2; omega) (by have := HL.out.2; omega) _ _ (by omega) rfl true (decide_eq_true hlt)) ?_
          rintro e w3 ⟨rfl, hb3⟩
          have HV3 := Lib.hid (HV2.out.below hb3)
          have HW3 : Hid (Wrote (fun k => v.ownBlock = some k) w w3) := HW2.out.trans (Wrote.of_below hb3)
          have hm3 := meth_swap (HV3.out.cell)
          clear hb3 hm2
          go_wp2_with fail
          refine Calls.mono (hswap_at HV3.out HL.out.1 i (2 * i + 1) (by have := HL.out.2; omega) (by have := HL.out.2; omega) _ _ rfl (by omega)) ?_
          rintro e w4 ⟨rfl, hv4, hw4⟩
          have HV4 := Lib.hid hv4
          have HW4 : Hid (Wrote (fun k => v.ownBlock = some k) w w4) := HW3.out.trans hw4
          clear hv4 hw4 hm3
          have HS4 := Lib.hid (HS.out.step HC.out HN.out h0 hlt)
          clear hlt
          go_wp2_with fail
          go_roundw
          · exact ⟨(2 * i + 1), _, int_eq (by omega), by omega, by omega, HV4.out, HS4.out, HW4.out⟩
          · simp only [intOf]; omega
        · go_wp2_with fail
          refine Calls.mono (hless_at HV2.out HL.out.1 HNE'.out (2 * i + 1) i (by have := HL.out.2; omega) (by have := HL.out.2; omega) _ _ (by omega) rfl false (decide_eq_false (by omega))) ?_
          rintro e w3 ⟨rfl, hb3⟩
          have HV3 := Lib.hid (HV2.out.below hb3)
          have HW3 : Hid (Wrote (fun k => v.ownBlock = some k) w w3) := HW2.out.trans (Wrote.of_below hb3)
          have HP3 := Lib.hid (HS.out.sift.stop HC.out (by omega))
          clear hb3 hm2 hlt
          go_wp2_with fail
          go_ret
          exact down_done HV3.out HS.out HP3.out rfl h0 HW3.out
end
end Go.Proofs.Ytmpapipobjoboaa

namespace Go.Proofs.Ytmpapipobjoboaa
open Go.RowKit

section
variable {B m : Nat} {F : Nat → Prop} {w w' : World} {v : Value} {l : List Hd}

theorem meth_len_at (h : Hv B F w m v l) : ∃ a c, v = .slice a l.length c := h.own.isSlice

theorem hlen_at (a : Option Addr) (n c : Nat) (w : World) : Calls Try.prog 101 #[.slice a n c] w fun x w' => x = .returned (.int .i64 (n : Int)) ∧ w = w' :=
  (hlen_any a n c w).mono fun _ _ ⟨h1, h2⟩ => ⟨h1, h2.symm⟩

def HeapPost (B : Nat) (F : Nat → Prop) (m : Nat) (v : Value) (l : List Hd) (w : World) (x : Ending) (w' : World) : Prop :=
  ∃ l', x = .returned (.tuple #[]) ∧ Hv B F w' m v l' ∧ l'.Perm l ∧ HeapFrom l' l'.length 0 ∧ Wrote (fun k => v.ownBlock = some k) w w'

theorem heap_post {l' : List Hd} {x : Value} {n : Nat} (hn : n = l.length) (hv : x = v) (h : Hv B F w' m v l') (hp : l'.Perm l) (hh : HeapFrom l' n 0) (hw : Wrote (fun k => v.ownBlock = some k) w w') : HeapPost B F m x l w (.returned (.tuple #[])) w' := by
  subst hv; exact ⟨l', rfl, h, hp, by rw [hp.length_eq, ← hn]; exact hh, hw⟩

set_option maxRecDepth 100000 in
set_option maxHeartbeats 1000000 in
theorem init_any (h : Hv B F w m v l) (hlen : l.length ≤ 1000000) (hne : ∀ x ∈ l, x.l ≠ []) :
    Calls Try.prog 56 #[.iface 82 (.pointer (some ⟨m, 0, none⟩))] w (HeapPost B F m v l w) := by
  obtain ⟨a, c, rfl⟩ := h.own.isSlice
  have HH := Lib.hid h
  have HNE := Lib.hid hne
  have hm := meth_len h.cell
  obtain ⟨n, hnn⟩ : ∃ n, n = l.length := ⟨_, rfl⟩
  rw [← hnn] at HH hm
  have hn1 : n ≤ 1000000 := by omega
  have HN := Lib.hid hnn
  clear h hne hlen hnn
  go_enter Try.func56, Try.ntmps56
  go_wp2_with fail
  refine Calls.mono (hlen_at a n c _) ?_
  rintro e w1 ⟨rfl, rfl⟩
  clear hm
  go_wp2_with fail
  go_loopw [3] (fun s wr => ∃ (k : Nat) (l' : List Hd), s = .int .i64 ((k : Int) - 1) ∧ k ≤ 1000000 ∧ Hid (Hv B F wr m (.slice a n c) l') ∧ Hid (l'.Perm l ∧ HeapFrom l' n k) ∧ Hid (Wrote (fun k => (Value.slice a n c).ownBlock = some k) w wr)) (fun s _ => (intOf s + 1).toNat)
  case atStart => exact ⟨n / 2, l, by go_num, by omega, HH.out, ⟨List.Perm.refl _, HeapFrom.half _ _ _ (by omega)⟩, Wrote.of_below (Below.refl _ _)⟩
  case round =>
    obtain ⟨k, l', rfl, h1, HV, HS, HW⟩ := hrel
    by_cases hk : 1 ≤ k
    · have t1 : 0 ≤ (k : Int) - 1 := by omega
      go_wp2_with fail
      refine Calls.mono (down_any HV.out (by have := HS.out.1.length_eq; have := HN.out; omega) (fun x hx => HNE.out x (HS.out.1.mem_iff.1 hx)) (k - 1) n _ _ (by omega) rfl (by have := HS.out.1.length_eq; have := HN.out; omega) (by omega) (by rw [show k - 1 + 1 = k by omega]; exact HS.out.2)) ?_
      rintro e w2 ⟨l2, b, rfl, g1, g2, g3, _, _, g4⟩
      have HV2 := Lib.hid g1
      have HS2 := Lib.hid (And.intro (g2.trans HS.out.1) g3)
      have HW2 := Lib.hid (HW.out.trans g4)
      clear g1 g2 g3 g4
      go_wp2_with fail
      go_roundw
      · exact ⟨k - 1, l2, int_eq (by omega), by omega, HV2.out, HS2.out, HW2.out⟩
      · simp only [intOf]; omega
    · have t1 : ¬ 0 ≤ (k : Int) - 1 := by omega
      obtain rfl : k = 0 := by omega
      go_wp2_with fail
      go_end0
      exact heap_post HN.out (by rw [HN.out]) HV.out HS.out.1 HS.out.2 HW.out

set_option maxRecDepth 100000 in
set_option maxHeartbeats 1000000 in
theorem fix_any (h : Hv B F w m v l) (hlen : l.length ≤ 1000000) (hne : ∀ x ∈ l, x.l ≠ []) (hp : HeapFrom l l.length 1) :
    Calls Try.prog 79 #[.iface 82 (.pointer (some ⟨m, 0, none⟩)), .int .i64 0] w (HeapPost B F m v l w) := by
  obtain ⟨a, c, rfl⟩ := h.own.isSlice
  have HH := Lib.hid h
  have HNE := Lib.hid hne
  have HP := Lib.hid hp
  have hm := meth_len h.cell
  obtain ⟨n, hnn⟩ : ∃ n, n = l.length := ⟨_, rfl⟩
  rw [← hnn] at HH hm
  have hn1 : n ≤ 1000000 := by omega
  have HN := Lib.hid hnn
  clear h hne hlen hnn hp
  go_enter Try.func79, Try.ntmps79
  go_wp2_with fail
  refine Calls.mono (hlen_at a n c _) ?_
  rintro e w1 ⟨rfl, rfl⟩
  clear hm
  go_wp2_with fail
  refine Calls.mono (down_any HH.out (by have := HN.out; omega) HNE.out 0 n _ _ rfl rfl (by have := HN.out; omega) (by omega) (by rw [HN.out]; exact HP.out)) ?_
  rintro e w2 ⟨l2, b, rfl, g1, g2, g3, _, _, g4⟩
  have HV2 := Lib.hid g1
  have HS2 := Lib.hid (And.intro g2 g3)
  have HW2 := Lib.hid g4
  have HD : Hid (HeapPost B F m (.slice a l.length c) l w (.returned (.tuple #[])) w2) := heap_post HN.out (by rw [HN.out]) HV2.out HS2.out.1 HS2.out.2 HW2.out
  clear g1 g2 g3 g4
  cases b with
  | true =>
    go_wp2_with fail
    go_end0
    exact HD.out
  | false =>
    go_wp2_with fail
    refine Calls.mono (up0_any _ _) ?_
    rintro e w3 ⟨rfl, rfl⟩
    go_wp2_with fail
    go_end0
    exact HD.out
end
end Go.Proofs.Ytmpapipobjoboaa

namespace Go.Proofs.Ytmpapipobjoboaa
open Go.RowKit

section
variable {B m : Nat} {F : Nat → Prop} {w w' : World} {v : Value} {l : List Hd}

theorem under_heads : Try.prog.underlying 51 = some (.slice (Try.prog.elem 51)) := by kernel_rfl
theorem size_heads : (Try.prog.info? (Try.prog.elem 51)).map (·.size) = some headK.sz := by kernel_rfl

def PopPost (B : Nat) (F : Nat → Prop) (m : Nat) (v : Value) (l : List Hd) (n : Nat) (w : World) (x : Ending) (w' : World) : Prop :=
  ∃ y v', x = .returned y ∧ Hv B F w' m v' (l.take n) ∧ v'.ownBlock = v.ownBlock ∧ Wrote (fun k => k = m) w w'

set_option maxRecDepth 100000 in
set_option maxHeartbeats 1000000 in
theorem mpop_any (h : Hv B F w m v l) (n : Nat) (hn : l.length = n + 1) (hlen : n ≤ 1000000) :
    Calls Try.prog 104 #[.pointer (some ⟨m, 0, none⟩)] w (PopPost B F m v l n w) := by
  obtain ⟨v', hr, ho', hob, a', c', ev'⟩ := h.own.slice_h under_heads size_heads n (by omega)
  obtain ⟨g, cap, rfl, _, hg, hf, hc⟩ := hds_at h.own (by omega)
  obtain ⟨u, hu, c0, c1⟩ := hc n (by omega)
  obtain ⟨ua, uc, rfl⟩ := hu.isSlice
  have HH := Lib.hid h
  have k0 : w.cell? ⟨m, 0, none⟩ = some (.slice (some ⟨g, 0, none⟩) l.length cap) := h.cell
  obtain ⟨K, hK⟩ : ∃ K, l.length = K := ⟨_, rfl⟩
  rw [hK] at k0 hr hn
  have HKK := Lib.hid hK
  have HO := Lib.hid hob
  have HN := Lib.hid hn
  have HRO := Lib.hid ho'
  generalize (hat l n).no = p at *
  generalize (hat l n).l.length = q at *
  have hne : g ≠ m := fun e => h.ne (by rw [e]; rfl)
  have HK : Hid (w.drew.cell? ⟨m, 0, none⟩ = some (.slice (some ⟨g, 0, none⟩) K cap) ∧ w.drew.cell? ⟨g, n * 2, none⟩ = some (.slice ua q uc) ∧ w.drew.cell? ⟨g, n * 2 + 1, none⟩ = some (.int .i64 p)) := ⟨k0, c0, c1⟩
  have HZ : Hid (m < w.drew.heap.size ∧ g < w.drew.heap.size) := ⟨h.blk.lt, hg⟩
  have HR := Lib.hid hr
  have t1 : IntKind.i64.wrap ((K : Int) - 1) = (n : Int) := by rw [wrap_small (by omega) (by omega)]; omega
  have t2 : (n : Int) < (K : Int) := by omega
  have t3 : 0 ≤ (n : Int) := by omega
  have z1 : w.heap.size ≠ m := World.new_ne w ⟨m, 0, none⟩ k0
  have z2 : w.heap.size ≠ g := World.new_ne w ⟨g, n * 2, none⟩ c0
  clear hc hf hu hg hob hn hK ho' hr h
  go_enter Try.func104, Try.ntmps104
  go_wp2_with fail
  go_region_held3 (fun w' => w'.cell? ⟨m, 0, none⟩ = some (.slice (some ⟨g, 0, none⟩) K cap) ∧ w'.cell? ⟨g, n * 2, none⟩ = some (.slice ua q uc) ∧ w'.cell? ⟨g, n * 2 + 1, none⟩ = some (.int .i64 p))
    (first | exact HK.out | go_keep)
    (fail)
  go_upto_region 2 with fail
  refine wp_gen fun w1 hw1 => ?_
  have HW1 : Hid (Below w.heap.size w w1) := by
    rw [hw1]
    exact below_drew ((Below.refl _ _).alloc (Nat.le_refl _) _)
  have HC1 : Hid (Blk w1 w.heap.size #[.slice ua q uc, .int .i64 p] 80) := by
    rw [hw1]
    exact Blk.alloc_new w _ _
  clear hw1 z1 z2 k0 c0 c1
  have HV1 := Lib.hid (HH.out.below HW1.out)
  have j0 : w1.cell? ⟨m, 0, none⟩ = some (.slice (some ⟨g, 0, none⟩) K cap) := by rw [← HKK.out]; exact HV1.out.cell
  have f0 : w1.frozen? ⟨m, 0, none⟩ = false := HV1.out.blk.free 0
  have hr := HR.out
  subst ev'
  clear HK HR
  go_region_law fail
  all_goals
    clear hr t1 t2 t3
    go_upto_region 3 with fail
    refine wp_gen fun w2 hw2 => ?_
    have HC2 : Hid (Blk w2 w.heap.size #[.slice ua q uc, .int .i64 p] 80) := by
      rw [hw2]
      exact HC1.out.set_other _ _ (by show m ≠ w.heap.size; have := HZ.out.1; simp at this; omega)
    have HV2 : Hid (Hv B F w2 m (.slice a' n c') (l.take n)) := by
      rw [hw2]
      refine ⟨(HV1.out.blk.set 0 _), ?_, ?_, HV1.out.nm⟩
      · refine (HRO.out.below HW1.out).keep fun k _ hk => heap_setCell_other _ _ _ _ fun e => ?_
        rcases hk with hk | hk
        · rw [HO.out] at hk; exact HV1.out.ne (by rw [hk, e])
        · exact HV1.out.nm (by rw [← show k = m from e]; exact hk.1)
      · rw [HO.out]; exact HV1.out.ne
    have HW2 : Hid (Wrote (fun k => k = m) w w2) := by
      rw [hw2]
      exact Wrote.drew (Wrote.setCell (S := fun k => k = m) (Wrote.of_below HW1.out) ⟨m, 0, none⟩ _ (.inl rfl))
    clear hw2 j0 f0
    have k0 : w2.cell? ⟨w.heap.size, 0, none⟩ = some (.slice ua q uc) := HC2.out.cell rfl
    have k1 : w2.cell? ⟨w.heap.size, 1, none⟩ = some (.int .i64 p) := HC2.out.cell rfl
    go_wp2_with fail
    go_ret
    exact ⟨_, _, rfl, HV2.out, HO.out, HW2.out⟩
end
end Go.Proofs.Ytmpapipobjoboaa

namespace Go.Proofs.Ytmpapipobjoboaa
open Go.RowKit

section
variable {B m : Nat} {F : Nat → Prop} {w w' : World} {v : Value} {l : List Hd}

theorem pop_perm {l l1 l2 : List Hd} {n : Nat} (hn : l.length = n + 1) (h1 : l1 = swp l 0 n) (h2 : l2.Perm l1) (h3 : ∀ k, n ≤ k → hat l2 k = hat l1 k) : (hat l 0 :: l2.take n).Perm l := by
  subst h1
  have hl2 : l2.length = n + 1 := by rw [h2.length_eq, swp_len, hn]
  have e1 : hat l2 n = hat l 0 := by rw [h3 n (Nat.le_refl _), swp_at (by omega) (by omega), if_pos rfl]
  have e2 : l2 = l2.take n ++ [hat l 0] := by
    have := List.take_succ_eq_append_getElem (l := l2) (i := n) (by omega)
    rw [List.take_of_length_le (by omega)] at this
    rw [← e1, hat_eq (by omega)]
    exact this
  have h4 : (hat l 0 :: l2.take n).Perm l2 := by
    conv => rhs; rw [e2]
    exact (List.perm_append_singleton _ _).symm
  exact h4.trans (h2.trans (swp_perm (by omega) (by omega)))

theorem pop_heap {l : List Hd} {n : Nat} (hn : l.length = n + 1) (h : HeapFrom l l.length 0) : HeapFrom (swp l 0 n) n (0 + 1) := fun j h1 h2 h3 => by
  rw [swp_at (by omega) (by omega), swp_at (by omega) (by omega), if_neg (by omega), if_neg (by omega), if_neg (by omega), if_neg (by omega)]
  exact h j h1 (by omega) (by omega)

theorem take_heap {l : List Hd} {n : Nat} (hn : l.length = n + 1) (h : HeapFrom l n 0) : HeapFrom (l.take n) (l.take n).length 0 := by
  rw [List.length_take, Nat.min_eq_left (by omega)]
  exact h.cut fun k hk _ => by simp [hat, hk]

def HPopPost (B : Nat) (F : Nat → Prop) (m : Nat) (v : Value) (l : List Hd) (w : World) (x : Ending) (w' : World) : Prop :=
  ∃ y v' l', x = .returned y ∧ Hv B F w' m v' l' ∧ v'.ownBlock = v.ownBlock ∧ (hat l 0 :: l').Perm l ∧ HeapFrom l' l'.length 0 ∧ Wrote (fun k => k = m ∨ v.ownBlock = some k) w w'

set_option maxRecDepth 100000 in
set_option maxHeartbeats 1000000 in
theorem heapPop_any (h : Hv B F w m v l) (hlen : l.length ≤ 1000000) (hne : ∀ x ∈ l, x.l ≠ []) (hp : HeapFrom l l.length 0) (h0 : 0 < l.length) :
    Calls Try.prog 78 #[.iface 82 (.pointer (some ⟨m, 0, none⟩))] w (HPopPost B F m v l w) := by
  obtain ⟨n, hn⟩ : ∃ n, l.length = n + 1 := ⟨l.length - 1, by omega⟩
  obtain ⟨a, c, rfl⟩ := h.own.isSlice
  have HNE := Lib.hid hne
  have hm := meth_len h.cell
  obtain ⟨K, hK⟩ : ∃ K, l.length = K := ⟨_, rfl⟩
  rw [hK] at hm h hn hlen
  have HH := Lib.hid h
  have hms := meth_swap h.cell
  have hn1 : n ≤ 1000000 := by omega
  have HK := Lib.hid hK
  have HN := Lib.hid hn
  have HP : Hid (HeapFrom (swp l 0 n) n (0 + 1)) := pop_heap (by rw [hK, hn]) hp
  have t1 : (K : Int) - 1 = (n : Int) := by omega
  have HT := Lib.hid t1
  have hk1 : 1 ≤ K := by omega
  have HSL : Hid ((swp l 0 n).length = K ∧ ∀ x ∈ swp l 0 n, x.l ≠ []) := ⟨by rw [swp_len, hK], fun x hx => hne x ((swp_perm (by omega) (by omega)).mem_iff.1 hx)⟩
  clear h hne hn hK hp h0 t1
  go_enter Try.func78, Try.ntmps78
  go_wp2_with fail
  refine Calls.mono (hlen_at a K c _) ?_
  rintro e w1 ⟨rfl, rfl⟩
  clear hm
  go_wp2_with fail
  refine Calls.mono (hswap_at HH.out (by rw [HK.out]; exact hlen) 0 n (by have := HK.out; omega) (by have := HK.out; have := HN.out; omega) _ _ rfl HT.out) ?_
  rintro e w2 ⟨rfl, g1, g2⟩
  have HV2 := Lib.hid g1
  have HW2 := Lib.hid g2
  clear g1 g2 hms
  rw [HT.out]
  go_wp2_with fail
  refine Calls.mono (down_any HV2.out (by have := HSL.out.1; omega) HSL.out.2 0 n _ _ rfl rfl (by have := HSL.out.1; have := HN.out; omega) (by omega) HP.out) ?_
  rintro e w3 ⟨l2, b, rfl, g1, g2, g3, g4, _, g5⟩
  have HV3 := Lib.hid g1
  have HS3 := Lib.hid (And.intro g2 (And.intro g3 g4))
  have HW3 := Lib.hid (HW2.out.trans g5)
  clear g1 g2 g3 g4 g5
  have hmp := meth_pop m 0 w3
  go_wp2_with fail
  refine Calls.mono (mpop_any HV3.out n (by have := HSL.out.1; have := HS3.out.1.length_eq; have := HN.out; omega) hn1) ?_
  rintro e w4 ⟨y, v4, rfl, g1, g2, g3⟩
  have HD : Hid (HPopPost B F m (.slice a K c) l w (.returned y) w4) := by
    refine ⟨y, v4, _, rfl, g1, g2, pop_perm (by rw [HK.out, HN.out]) rfl HS3.out.1 HS3.out.2.2, take_heap (by rw [HS3.out.1.length_eq, HSL.out.1, HN.out]) HS3.out.2.1, (HW3.out.mono fun k hk => .inr hk).trans (g3.mono fun k hk => .inl hk)⟩
  clear g1 g2 g3 hmp
  go_wp2_with fail
  go_ret
  rw [HK.out]
  exact HD.out
end
end Go.Proofs.Ytmpapipobjoboaa

namespace Go.Proofs.Ytmpapipobjoboaa
open Go.RowKit

section
variable {B m : Nat} {F : Nat → Prop} {w w' : World} {v : Value} {l : List Hd}

theorem under_ents : Try.prog.underlying 31 = some (.slice (Try.prog.elem 31)) := by kernel_rfl
theorem size_ents : (Try.prog.info? (Try.prog.elem 31)).map (·.size) = some entK.sz := by kernel_rfl

/-- A head's list is written. -/
theorem hds_setl {e g cap : Nat} {u : Value} {r : List Ent} (h : ROwnF headK F B e w (.slice (some ⟨g, 0, none⟩) l.length cap) l) {i : Nat} (hi : i < l.length) (hu : Rw entK (fun k => F k ∧ k ≠ g) w u r) :
    ROwnF headK F B e (w.setCell ⟨g, i * 2, none⟩ u) (.slice (some ⟨g, 0, none⟩) l.length cap) (l.set i ⟨r, (hat l i).no⟩) := by
  obtain ⟨cs, h1, h2⟩ := h
  have hcl := h2.len
  have hsz : headK.sz = 2 := rfl
  rw [hsz] at hcl
  have hF : ∀ k, (F k ∧ (Value.slice (some ⟨g, 0, none⟩) l.length cap).ownBlock ≠ some k) → k ≠ g := fun k hk e => hk.2 (by rw [e]; rfl)
  have hel := h2.set (x := ⟨r, (hat l i).no⟩) (ecs := [u, .int .i64 (hat l i).no]) ⟨u, rfl, hu.mono fun k _ hk => ⟨hk.1, fun e => by injection e with e; exact hk.2 e.symm⟩⟩ i hi
  rw [hsz] at hel
  obtain ⟨u0, hu0, _⟩ := h2.get i hi
  rw [hsz] at hu0
  have c1 : cs[i * 2 + 1]? = some (.int .i64 (hat l i).no) := by
    have := congrArg (fun z => z[1]?) hu0
    rw [hat_eq hi]
    simpa [List.getElem?_take, List.getElem?_drop] using this
  have hcs : cs.set (i * 2) u = cs.take (i * 2) ++ ([u, .int .i64 (hat l i).no] ++ cs.drop (i * 2 + 2)) := by
    apply List.ext_getElem?
    intro k
    simp only [List.getElem?_set, List.getElem?_append, List.length_take, List.getElem?_take, List.length_cons, List.length_nil, List.getElem?_drop]
    rcases Nat.lt_trichotomy k (i * 2) with hk | hk | hk
    · rw [if_neg (by omega), if_pos (by omega), if_pos (by omega)]
    · subst hk; rw [if_pos rfl, if_pos (by omega), if_neg (by omega), if_pos (by omega)]; simp [Nat.min_eq_left (show i * 2 ≤ cs.length by omega)]
    · by_cases hk2 : k = i * 2 + 1
      · subst hk2; rw [if_neg (by omega), if_neg (by omega), if_pos (by omega), c1]; simp [Nat.min_eq_left (show i * 2 ≤ cs.length by omega)]
      · rw [if_neg (by omega), if_neg (by omega), if_neg (by omega)]
        congr 1
        omega
  refine ⟨cs.set (i * 2) u, ?_, ?_⟩
  · rw [List.length_set]
    exact (World.ownsRow.stored h1 (i * 2) u).1
  · rw [hcs]
    exact hel.keep fun k _ hk => heap_setCell_other _ _ _ _ (hF k hk)

def StepTo (l l' : List Hd) : Prop := ((hat l 0).l.length = 1 ∧ (hat l 0 :: l').Perm l) ∨ ((hat l 0).l.length ≠ 1 ∧ l'.Perm (l.set 0 ⟨(hat l 0).l.drop 1, (hat l 0).no⟩))

def StepPost (B : Nat) (F : Nat → Prop) (m : Nat) (v : Value) (l : List Hd) (w : World) (x : Ending) (w' : World) : Prop :=
  ∃ v' l', x = .returned (.tuple #[]) ∧ Hv B F w' m v' l' ∧ v'.ownBlock = v.ownBlock ∧ HeapFrom l' l'.length 0 ∧ StepTo l l' ∧ Wrote (fun k => k = m ∨ v.ownBlock = some k) w w'

theorem set_heap {l : List Hd} {x : Hd} (h : HeapFrom l l.length 0) : HeapFrom (l.set 0 x) (l.set 0 x).length 1 := by
  rw [List.length_set]
  refine HeapFrom.cut (l := l) (fun j h1 h2 h3 => h j h1 h2 (by omega)) fun k hk h1 => ?_
  unfold hat
  rw [List.getD_eq_getElem?_getD, List.getD_eq_getElem?_getD, List.getElem?_set_ne (by omega)]

set_option maxRecDepth 100000 in
set_option maxHeartbeats 1000000 in
theorem step_any (h : Hv B F w m v l) (hlen : l.length ≤ 1000000) (hne : ∀ x ∈ l, x.l ≠ []) (hp : HeapFrom l l.length 0) (h0 : 0 < l.length) :
    Calls Try.prog 60 #[.pointer (some ⟨m, 0, none⟩)] w (StepPost B F m v l w) := by
  obtain ⟨g, cap, rfl, hBg, hg, hf, hc⟩ := hds_at h.own h0
  obtain ⟨u, hu, c0, _⟩ := hc 0 h0
  obtain ⟨ua, uc, rfl⟩ := hu.isSlice
  have hml := hu.len
  unfold maxLen at hml
  rw [Nat.zero_mul] at c0
  have HH := Lib.hid h
  have HNE := Lib.hid hne
  have HP := Lib.hid hp
  have HU := Lib.hid hu
  have HLE := Lib.hid hlen
  have k0 : w.cell? ⟨m, 0, none⟩ = some (.slice (some ⟨g, 0, none⟩) l.length cap) := h.cell
  obtain ⟨L, hL⟩ : ∃ L, l.length = L := ⟨_, rfl⟩
  rw [hL] at k0 h0
  have t0 : (0 : Int) < (L : Int) := by omega
  have HL := Lib.hid hL
  have f0 : w.frozen? ⟨g, 0, none⟩ = false := hf 0
  by_cases h1 : (hat l 0).l.length = 1
  · have H1 := Lib.hid h1
    rw [h1] at c0
    clear hc hf hu hL h1 hml h hne hp hlen
    go_enter Try.func60, Try.ntmps60
    go_wp2_with fail
    refine Calls.mono (heapPop_any HH.out HLE.out HNE.out HP.out (by rw [HL.out]; exact h0)) ?_
    rintro e w2 ⟨y, v', l', rfl, g1, g2, g3, g4, g5⟩
    have HD : Hid (StepPost B F m (.slice (some ⟨g, 0, none⟩) l.length cap) l w (.returned (.tuple #[])) w2) := ⟨v', l', rfl, g1, g2, g4, .inl ⟨H1.out, g3⟩, g5⟩
    clear g1 g2 g3 g4 g5
    go_wp2_with fail
    go_end0
    exact HD.out
  · obtain ⟨v', hr, hv'⟩ := HU.out.slice_l under_ents size_ents 1 (by have := List.length_pos_iff.2 (hne _ (List.getElem_mem (h := (by omega : 0 < l.length)))); rw [hat_eq (by omega)]; omega)
    obtain ⟨a', c', rfl⟩ := hv'.isSlice
    have H1 := Lib.hid h1
    have t1 : (((hat l 0).l.length : Int) == 1) = false := beq_eq_false_iff_ne.2 (by omega)
    have t2 : 1 ≤ (hat l 0).l.length := by have := List.length_pos_iff.2 (hne _ (List.getElem_mem (h := (by omega : 0 < l.length)))); rw [hat_eq (by omega)]; omega
    have HV1 := Lib.hid hv'
    clear hc hu hL h1 h hne hp hlen hv'
    generalize hq : (hat l 0).l.length = q at *
    have HQ := Lib.hid hq
    generalize hq' : (List.drop 1 (hat l 0).l).length = q' at *
    have HQ' := Lib.hid hq'
    have hr1 : ∀ w', (Instr.slice 31 (.slice ua q uc) (some (.int .i64 1)) none none).run Try.prog w' = .ok (.slice a' q' c') w' := hr
    have t3 : (1 : Int) ≤ (q : Int) := by omega
    clear hq hq' hf hr
    go_enter Try.func60, Try.ntmps60
    go_wp2_with fail
    go_region_law fail
    all_goals
      clear hr1 t0 t1 t2 t3 c0
      go_upto_region 3 with fail
      refine wp_gen fun w2 hw2 => ?_
      have HV2 : Hid (Hv B F w2 m (.slice (some ⟨g, 0, none⟩) l.length cap) (l.set 0 ⟨(hat l 0).l.drop 1, (hat l 0).no⟩)) := by
        rw [hw2]
        have h5 := hds_setl HH.out.own (i := 0) (by rw [HL.out]; exact h0) HV1.out
        rw [Nat.zero_mul] at h5
        refine ⟨HH.out.blk.set_other _ _ (fun e => HH.out.ne (by rw [← show g = m from e]; rfl)), h5.keep fun _ _ _ => rfl, HH.out.ne, HH.out.nm⟩
      have HW2 : Hid (Wrote (fun k => k = m ∨ (Value.slice (some ⟨g, 0, none⟩) l.length cap).ownBlock = some k) w w2) := by
        rw [hw2]
        exact Wrote.drew (Wrote.setCell (S := fun k => k = m ∨ (Value.slice (some ⟨g, 0, none⟩) l.length cap).ownBlock = some k) (Wrote.of_below (Below.refl _ _)) ⟨g, 0, none⟩ _ (.inl (.inr rfl)))
      clear hw2 k0 f0
      have HE2 : Hid (∀ x ∈ l.set 0 ⟨(hat l 0).l.drop 1, (hat l 0).no⟩, x.l ≠ []) := fun x hx => by
        rcases List.mem_or_eq_of_mem_set hx with h5 | h5
        · exact HNE.out x h5
        · subst h5
          intro e
          have h6 := congrArg List.length e
          rw [List.length_drop, HQ.out] at h6
          have h7 := H1.out
          simp only [List.length_nil] at h6
          have h8 := List.length_pos_iff.2 (HNE.out _ (List.getElem_mem (h := (by rw [HL.out]; exact h0 : 0 < l.length))))
          rw [← hat_eq, HQ.out] at h8
          omega
      go_wp2_with fail
      refine Calls.mono (fix_any HV2.out (by rw [List.length_set]; exact HLE.out) HE2.out (set_heap HP.out)) ?_
      rintro e w3 ⟨l', rfl, g1, g2, g3, g4⟩
      have HD : Hid (StepPost B F m (.slice (some ⟨g, 0, none⟩) l.length cap) l w (.returned (.tuple #[])) w3) := ⟨_, l', rfl, g1, rfl, g3, .inr ⟨by rw [HQ.out]; exact H1.out, g2⟩, HW2.out.trans (g4.mono fun k hk => .inr hk)⟩
      clear g1 g2 g3 g4
      go_wp2_with fail
      go_end0
      exact HD.out
end
end Go.Proofs.Ytmpapipobjoboaa
