/- The skip list in memory: towers that point to one another; a new tower is tied in, level by level. -/
import Derived.Test.YtdjjkdhhjdafmaaSkP
namespace Go.Proofs.Ytdjjkdhhjdafmaa
open Go.RowKit

/-- The towers l lie in memory, the towers sfx being behind them. -/
def ChainTo (F : Nat → Prop) (w : World) : List Tw → List Tw → Prop
  | [], _ => True
  | t :: l, sfx => (∃ vk vv, Blk w t.b (twCells t vk vv (l ++ sfx)).toArray 64 ∧ Bytes F w vk t.e.key ∧ Bytes F w vv t.e.value) ∧ ChainTo F w l sfx

section
variable {F F' : Nat → Prop} {w w' : World}
theorem ChainTo.keep : ∀ {l sfx : List Tw}, ChainTo F w l sfx → (∀ k, k < w.heap.size → ((∃ t ∈ l, t.b = k) ∨ F k) → w'.heap[k]? = w.heap[k]?) → ChainTo F w' l sfx
  | [], _, _, _ => trivial
  | t :: _, _, ⟨⟨vk, vv, h1, h2, h3⟩, h4⟩, hk =>
    ⟨⟨vk, vv, h1.same (hk t.b h1.lt (.inl ⟨t, List.mem_cons_self .., rfl⟩)), h2.keep fun k hk' hF => hk k hk' (.inr hF), h3.keep fun k hk' hF => hk k hk' (.inr hF)⟩,
     ChainTo.keep h4 fun k hk' h => hk k hk' (by rcases h with ⟨x, hx, e⟩ | h; exact .inl ⟨x, List.mem_cons_of_mem _ hx, e⟩; exact .inr h)⟩
theorem ChainTo.below {l sfx : List Tw} (h : ChainTo F w l sfx) (hb : Below w.heap.size w w') : ChainTo F w' l sfx := h.keep fun k hk _ => hb.block k hk
theorem ChainTo.mono : ∀ {l sfx : List Tw}, ChainTo F w l sfx → (∀ k, k < w.heap.size → F k → F' k) → ChainTo F' w l sfx
  | [], _, _, _ => trivial
  | _ :: _, _, ⟨⟨vk, vv, h1, h2, h3⟩, h4⟩, hk => ⟨⟨vk, vv, h1, h2.mono hk, h3.mono hk⟩, h4.mono hk⟩
theorem ChainTo.lt : ∀ {l sfx : List Tw}, ChainTo F w l sfx → ∀ t ∈ l, t.b < w.heap.size
  | _ :: _, _, ⟨⟨_, _, h1, _, _⟩, h4⟩, x, hx => by
    rcases List.mem_cons.1 hx with rfl | hx
    · exact h1.lt
    · exact h4.lt x hx
theorem ChainTo.append : ∀ {l m sfx : List Tw}, ChainTo F w l (m ++ sfx) → ChainTo F w m sfx → ChainTo F w (l ++ m) sfx
  | [], _, _, _, h => h
  | t :: l, m, sfx, ⟨⟨vk, vv, h1, h2, h3⟩, h4⟩, h => ⟨⟨vk, vv, by show Blk w t.b (twCells t vk vv ((l ++ m) ++ sfx)).toArray _; rw [List.append_assoc]; exact h1, h2, h3⟩, ChainTo.append h4 h⟩
theorem ChainTo.split : ∀ {l m sfx : List Tw}, ChainTo F w (l ++ m) sfx → ChainTo F w l (m ++ sfx) ∧ ChainTo F w m sfx
  | [], _, _, h => ⟨trivial, h⟩
  | t :: l, m, sfx, ⟨⟨vk, vv, h1, h2, h3⟩, h4⟩ => by
    obtain ⟨g1, g2⟩ := ChainTo.split h4
    exact ⟨⟨⟨vk, vv, by have h1' : Blk w t.b (twCells t vk vv ((l ++ m) ++ sfx)).toArray _ := h1; rw [List.append_assoc] at h1'; exact h1', h2, h3⟩, g1⟩, g2⟩
/-- A tower in the midst. -/
theorem ChainTo.at : ∀ {l : List Tw} {t : Tw} {r sfx : List Tw}, ChainTo F w (l ++ t :: r) sfx → ∃ vk vv, Blk w t.b (twCells t vk vv (r ++ sfx)).toArray 64 ∧ Bytes F w vk t.e.key ∧ Bytes F w vv t.e.value
  | _, _, _, _, h => h.split.2.1

def Tw.at (t : Tw) (i : Nat) : Tw := { t with h := i }

theorem nxt_raise {k i : Nat} (x : Tw) (r post : List Tw) (h : k ≠ i ∨ ∃ t ∈ r, k < t.h) : nxt k (r ++ x.at i :: post) = nxt k (r ++ x.at (i + 1) :: post) := by
  by_cases hr : ∃ t ∈ r, k < t.h
  · exact nxt_high _ _ hr
  · have hn : ∀ t ∈ r, ¬ k < t.h := fun t ht hk => hr ⟨t, ht, hk⟩
    rw [nxt_low _ hn, nxt_low _ hn]
    have hki : k ≠ i := by rcases h with h | h; exact h; exact absurd h hr
    show (if k < i then (x.at i).ptr else nxt k post) = (if k < i + 1 then (x.at (i + 1)).ptr else nxt k post)
    by_cases h1 : k < i
    · rw [if_pos h1, if_pos (by omega)]; rfl
    · rw [if_neg h1, if_neg (by omega)]

theorem setCell_keep {b : Nat} {i : Nat} {v : Value} (k : Nat) (h : k ≠ b) : (w.setCell ⟨b, i, none⟩ v).heap[k]? = w.heap[k]? := heap_setCell_other _ _ _ _ h

/-- Towers that are not higher than i have nothing to change. -/
theorem ChainTo.raise_low {i b : Nat} {v : Value} (x : Tw) (post : List Tw) (hF : ¬ F b) : ∀ {l : List Tw}, (∀ t ∈ l, ¬ i < t.h) → (∀ t ∈ l, t.b ≠ b) → ChainTo F w l (x.at i :: post) → ChainTo F (w.setCell ⟨b, 4 + i, none⟩ v) l (x.at (i + 1) :: post)
  | [], _, _, _ => trivial
  | t :: l, hl, hb, ⟨⟨vk, vv, h1, h2, h3⟩, h4⟩ => by
    refine ⟨⟨vk, vv, ?_, h2.keep fun k _ hk => setCell_keep k fun e => hF (e ▸ hk), h3.keep fun k _ hk => setCell_keep k fun e => hF (e ▸ hk)⟩, ChainTo.raise_low x post hF (fun y hy => hl y (List.mem_cons_of_mem _ hy)) (fun y hy => hb y (List.mem_cons_of_mem _ hy)) h4⟩
    rw [← twCells_congr t vk vv (r := l ++ x.at i :: post) fun k hk => nxt_raise x l post (.inl fun e => hl t (List.mem_cons_self ..) (by omega))]
    exact h1.set_other _ _ fun e => hb t (List.mem_cons_self ..) e.symm

/-- The tower ahead, of level i, is tied to x. -/
theorem ChainTo.raise {i : Nat} (x d : Tw) (post : List Tw) (hi : i < 12) : ∀ {l : List Tw}, lastH i l = some d → (l.map Tw.b).Nodup → (∀ t ∈ l, ¬ F t.b) → ChainTo F w l (x.at i :: post) → ChainTo F (w.setCell ⟨d.b, 4 + i, none⟩ x.ptr) l (x.at (i + 1) :: post)
  | [], h, _, _, _ => by cases h
  | t :: l, hd, hn, hF, ⟨⟨vk, vv, h1, h2, h3⟩, h4⟩ => by
    obtain ⟨n1, n2⟩ := List.nodup_cons.1 hn
    have hFd : ¬ F d.b := hF d (lastH_some hd).1
    have hB2 : ∀ {v : Value} {bs : List UInt8}, Bytes F w v bs → Bytes F (w.setCell ⟨d.b, 4 + i, none⟩ x.ptr) v bs := fun h => h.keep fun k _ hk => setCell_keep k fun e => hFd (e ▸ hk)
    unfold lastH at hd
    cases hl : lastH i l with
    | some y =>
      rw [hl] at hd
      injection hd with hd
      subst hd
      refine ⟨⟨vk, vv, ?_, hB2 h2, hB2 h3⟩, ChainTo.raise x y post hi hl n2 (fun z hz => hF z (List.mem_cons_of_mem _ hz)) h4⟩
      rw [← twCells_congr t vk vv (r := l ++ x.at i :: post) fun k _ => nxt_raise x l post (by
        by_cases hk : k = i
        · subst hk; exact .inr ⟨y, lastH_some hl⟩
        · exact .inl hk)]
      refine h1.set_other _ _ fun e => n1 ?_
      rw [← (show y.b = t.b from e)]
      exact List.mem_map_of_mem (lastH_some hl).1
    | none =>
      rw [hl] at hd
      simp only at hd
      by_cases ht : i < t.h
      · rw [if_pos ht] at hd
        injection hd with hd
        subst hd
        have hlow := lastH_none hl
        refine ⟨⟨vk, vv, ?_, hB2 h2, hB2 h3⟩, ChainTo.raise_low x post hFd hlow (fun y hy e => n1 (by rw [← e]; exact List.mem_map_of_mem hy)) h4⟩
        have hs := h1.set (4 + i) x.ptr
        rw [List.setIfInBounds_toArray, twCells_set t vk vv x.ptr (r' := l ++ x.at (i + 1) :: post) i hi ht (fun k _ hki => nxt_raise x l post (.inl hki)) (by
          rw [nxt_low _ hlow]
          show (if i < i + 1 then (x.at (i + 1)).ptr else _) = _
          rw [if_pos (Nat.lt_succ_self i)]; rfl)] at hs
        exact hs
      · rw [if_neg ht] at hd; cases hd
end
end Go.Proofs.Ytdjjkdhhjdafmaa
