/- Lists of things in memory: a kind tells how many cells a thing has, and what they read as; slices of things; append. -/
import Derived.Test.YtkcohhldmhdcfaaVzMem
namespace Go.Proofs.Ytkcohhldmhdcfaa
open Go.RowKit

/-- How a thing lies in memory. -/
structure Kind (α : Type) where
  sz : Nat
  R : (Nat → Prop) → World → List Value → α → Prop
  pos : 0 < sz
  len : ∀ {F w cs x}, R F w cs x → cs.length = sz
  keep : ∀ {F w w' cs x}, R F w cs x → (∀ k, k < w.heap.size → F k → w'.heap[k]? = w.heap[k]?) → R F w' cs x
  mono : ∀ {F F' w cs x}, R F w cs x → (∀ k, k < w.heap.size → F k → F' k) → R F' w cs x
  one : ∀ {F w cs x}, R F w cs x → ∀ u ∈ cs, u.oneCell' = true

section
variable {α : Type} {K : Kind α} {F F' : Nat → Prop} {w w' : World}

def Els (K : Kind α) (F : Nat → Prop) (w : World) : List Value → List α → Prop
  | cs, [] => cs = []
  | cs, x :: xs => K.R F w (cs.take K.sz) x ∧ Els K F w (cs.drop K.sz) xs

theorem Els.len : ∀ {xs : List α} {cs : List Value}, Els K F w cs xs → cs.length = xs.length * K.sz
  | [], cs, h => by have : cs = [] := h; subst this; simp
  | x :: xs, cs, h => by
    have h1 := K.len h.1
    have h2 := Els.len h.2
    rw [List.length_take] at h1
    rw [List.length_drop] at h2
    rw [List.length_cons, Nat.add_mul, Nat.one_mul]
    omega

theorem Els.keep (hk : ∀ k, k < w.heap.size → F k → w'.heap[k]? = w.heap[k]?) : ∀ {xs : List α} {cs : List Value}, Els K F w cs xs → Els K F w' cs xs
  | [], _, h => h
  | _ :: _, _, h => ⟨K.keep h.1 hk, Els.keep hk h.2⟩

theorem Els.mono (hk : ∀ k, k < w.heap.size → F k → F' k) : ∀ {xs : List α} {cs : List Value}, Els K F w cs xs → Els K F' w cs xs
  | [], _, h => h
  | _ :: _, _, h => ⟨K.mono h.1 hk, Els.mono hk h.2⟩

theorem Els.append {xs' : List α} {cs' : List Value} (h' : Els K F w cs' xs') : ∀ {xs : List α} {cs : List Value}, Els K F w cs xs → Els K F w (cs ++ cs') (xs ++ xs')
  | [], cs, h => by have : cs = [] := h; subst this; exact h'
  | x :: xs, cs, h => by
    have h1 := K.len h.1
    rw [List.length_take] at h1
    refine ⟨?_, ?_⟩
    · rw [List.take_append_of_le_length (by omega)]; exact h.1
    · rw [List.drop_append_of_le_length (by omega)]; exact Els.append h' h.2

theorem Els.single {x : α} {cs : List Value} (h : K.R F w cs x) : Els K F w cs [x] := by
  have h1 := K.len h
  refine ⟨?_, ?_⟩
  · rw [List.take_of_length_le (by omega)]; exact h
  · exact List.drop_of_length_le (by omega)

theorem Els.drop : ∀ {xs : List α} {cs : List Value}, Els K F w cs xs → ∀ i, Els K F w (cs.drop (i * K.sz)) (xs.drop i)
  | [], cs, h, i => by have : cs = [] := h; subst this; simp [Els]
  | x :: xs, cs, h, 0 => by simpa using h
  | x :: xs, cs, h, i + 1 => by
    have := Els.drop h.2 i
    rw [List.drop_drop] at this
    rw [Nat.add_mul, Nat.one_mul, Nat.add_comm]
    exact this

theorem Els.take : ∀ {xs : List α} {cs : List Value}, Els K F w cs xs → ∀ i, Els K F w (cs.take (i * K.sz)) (xs.take i)
  | [], cs, h, i => by have : cs = [] := h; subst this; simp [Els]
  | x :: xs, cs, h, 0 => by simp [Els]
  | x :: xs, cs, h, i + 1 => by
    have h2 := Els.take h.2 i
    refine ⟨?_, ?_⟩
    · rw [List.take_take, Nat.min_eq_left (by rw [Nat.add_mul]; omega)]; exact h.1
    · rw [List.drop_take]
      have : (i + 1) * K.sz - K.sz = i * K.sz := by rw [Nat.add_mul]; omega
      rw [this]; exact h2

theorem Els.get : ∀ {xs : List α} {cs : List Value}, Els K F w cs xs → ∀ i (h : i < xs.length), K.R F w ((cs.drop (i * K.sz)).take K.sz) xs[i] := by
  intro xs cs h i hi
  have h1 := h.drop i
  rw [List.drop_eq_getElem_cons hi] at h1
  exact h1.1

theorem Els.one : ∀ {xs : List α} {cs : List Value}, Els K F w cs xs → ∀ u ∈ cs, u.oneCell' = true
  | [], cs, h => by have : cs = [] := h; subst this; simp
  | x :: xs, cs, h => by
    intro u hu
    rw [← List.take_append_drop K.sz cs] at hu
    rcases List.mem_append.1 hu with h1 | h1
    · exact K.one h.1 u h1
    · exact Els.one h.2 u h1

/-- The cells of element i written over. -/
theorem Els.set {xs : List α} {cs ecs : List Value} {x : α} (h : Els K F w cs xs) (hx : K.R F w ecs x) (i : Nat) (hi : i < xs.length) :
    Els K F w (cs.take (i * K.sz) ++ (ecs ++ cs.drop (i * K.sz + K.sz))) (xs.set i x) := by
  have h1 := h.take i
  have h2 := h.drop (i + 1)
  rw [List.set_eq_take_append_cons_drop, if_pos hi]
  refine Els.append ?_ h1
  have h3 : Els K F w (ecs ++ cs.drop (i * K.sz + K.sz)) ([x] ++ xs.drop (i + 1)) := by
    refine Els.append ?_ (Els.single hx)
    have e : (i + 1) * K.sz = i * K.sz + K.sz := by rw [Nat.add_mul]; omega
    rw [e] at h2; exact h2
  exact h3

/-- The slice value v reads as the things xs. -/
def Rw (K : Kind α) (F : Nat → Prop) (w : World) (v : Value) (xs : List α) : Prop := ∃ cs, Sl F w K.sz v xs.length cs ∧ Els K F w cs xs

variable {v : Value} {xs : List α}

theorem Rw.keep (h : Rw K F w v xs) (hk : ∀ k, k < w.heap.size → F k → w'.heap[k]? = w.heap[k]?) : Rw K F w' v xs := by
  obtain ⟨cs, h1, h2⟩ := h; exact ⟨cs, h1.keep hk, h2.keep hk⟩
theorem Rw.mono (h : Rw K F w v xs) (hk : ∀ k, k < w.heap.size → F k → F' k) : Rw K F' w v xs := by
  obtain ⟨cs, h1, h2⟩ := h; exact ⟨cs, h1.mono hk, h2.mono hk⟩
theorem Rw.below (h : Rw K F w v xs) (hb : Below w.heap.size w w') : Rw K F w' v xs := h.keep fun k hk _ => hb.block k hk
theorem Rw.nil (K : Kind α) (F : Nat → Prop) (w : World) : Rw K F w (.slice none 0 0) [] := ⟨[], Sl.nil _ _ _, rfl⟩
theorem Rw.isSlice (h : Rw K F w v xs) : ∃ a c, v = .slice a xs.length c := by
  obtain ⟨cs, h1, _⟩ := h
  obtain ⟨a, c, e, _⟩ := h1.ex
  exact ⟨a, c, e⟩
theorem Rw.len (h : Rw K F w v xs) : xs.length ≤ maxLen := by obtain ⟨cs, h1, _⟩ := h; exact h1.le
theorem Rw.oneCell (h : Rw K F w v xs) : v.oneCell' = true := by obtain ⟨a, c, rfl⟩ := h.isSlice; rfl

theorem Rw.slice_lh {P : Program} {t : TypeId} (ht : P.underlying t = some (.slice (P.elem t))) (hs : (P.info? (P.elem t)).map (·.size) = some K.sz) (h : Rw K F w v xs) (lo hi : Nat) (h1 : lo ≤ hi) (h2 : hi ≤ xs.length) :
    ∃ v', (∀ w', (Instr.slice t v (some (.int .i64 (lo : Int))) (some (.int .i64 (hi : Int))) none).run P w' = .ok v' w') ∧ Rw K F w v' ((xs.drop lo).take (hi - lo)) := by
  obtain ⟨cs, g1, g2⟩ := h
  obtain ⟨v', hr, hs⟩ := g1.slice_lh ht hs lo hi h1 h2
  refine ⟨v', hr, _, ?_, (g2.drop lo).take (hi - lo)⟩
  have : ((xs.drop lo).take (hi - lo)).length = hi - lo := by simp; omega
  rw [this]; exact hs

theorem Rw.slice_l {P : Program} {t : TypeId} (ht : P.underlying t = some (.slice (P.elem t))) (hs : (P.info? (P.elem t)).map (·.size) = some K.sz) (h : Rw K F w v xs) (lo : Nat) (h1 : lo ≤ xs.length) :
    ∃ v', (∀ w', (Instr.slice t v (some (.int .i64 (lo : Int))) none none).run P w' = .ok v' w') ∧ Rw K F w v' (xs.drop lo) := by
  obtain ⟨cs, g1, g2⟩ := h
  obtain ⟨v', hr, hs⟩ := g1.slice_l ht hs lo h1
  refine ⟨v', hr, _, ?_, g2.drop lo⟩
  have e : (xs.drop lo).length = xs.length - lo := by simp
  have hl := g2.len
  rw [List.take_of_length_le (by rw [List.length_drop, hl, Nat.sub_mul]; omega)] at hs
  rw [e]; exact hs

/-- Where the things lie. -/
theorem Rw.place (h : Rw K F w v xs) (hne : 0 < xs.length) :
    ∃ b off cap, v = .slice (some ⟨b, off, none⟩) xs.length cap ∧ F b ∧ b < w.heap.size ∧ xs.length ≤ cap ∧ cap ≤ maxLen ∧ ∀ i (hi : i < xs.length), ∃ es, K.R F w es xs[i] ∧ ∀ j u, es[j]? = some u → w.cell? ⟨b, off + i * K.sz + j, none⟩ = some u := by
  obtain ⟨cs, h1, h2⟩ := h
  have hcl := h2.len
  have hp := K.pos
  obtain ⟨b, off, cap, e, hf, h3, hc1, hc2, h4⟩ := Sl.place h1 (by rw [hcl]; exact Nat.mul_pos hne hp)
  refine ⟨b, off, cap, e, hf, h3, hc1, hc2, fun i hi => ⟨_, h2.get i hi, fun j u hj => ?_⟩⟩
  rw [Nat.add_assoc]
  refine h4 _ _ ?_
  have hj2 : j < K.sz := by
    rcases Nat.lt_or_ge j K.sz with h | h
    · exact h
    · rw [List.getElem?_eq_none (by rw [List.length_take]; omega)] at hj; cases hj
  rw [List.getElem?_take, if_pos hj2, List.getElem?_drop] at hj
  exact hj

variable {base e : Nat}
end

/-- A slice of things, as a thing of one cell. -/
def rowK {α : Type} (K : Kind α) : Kind (List α) where
  sz := 1
  R F w cs xs := ∃ v, cs = [v] ∧ Rw K F w v xs
  pos := by decide
  len := by rintro F w cs x ⟨v, rfl, _⟩; rfl
  keep := by rintro F w w' cs x ⟨v, rfl, h⟩ hk; exact ⟨v, rfl, h.keep hk⟩
  mono := by rintro F F' w cs x ⟨v, rfl, h⟩ hk; exact ⟨v, rfl, h.mono hk⟩
  one := by rintro F w cs x ⟨v, rfl, h⟩ u hu; rw [List.mem_singleton.1 hu]; exact h.oneCell

/-- Things without pointers: their cells tell them. -/
def plainK {α : Type} (n : Nat) (hn : 0 < n) (enc : α → List Value) (hl : ∀ x, (enc x).length = n) (h1 : ∀ x, ∀ u ∈ enc x, u.oneCell' = true) : Kind α where
  sz := n
  R _ _ cs x := cs = enc x
  pos := hn
  len := by rintro F w cs x rfl; exact hl x
  keep := by rintro F w w' cs x rfl _; rfl
  mono := by rintro F F' w cs x rfl _; rfl
  one := by rintro F w cs x rfl; exact h1 x
end Go.Proofs.Ytkcohhldmhdcfaa
