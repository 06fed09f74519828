/- Merge: the heap's methods: Len, Less, Swap. -/
import Derived.Test.YtmpapipobjoboaaMgM
import Derived.Test.YtmpapipobjoboaaRf06
namespace Go.Proofs.Ytmpapipobjoboaa
open Go.RowKit

theorem hlen_any (a : Option Addr) (n c : Nat) (w : World) : Calls Try.prog 101 #[.slice a n c] w fun x w' => x = .returned (.int .i64 (n : Int)) ∧ w' = w := by
  go_enter Try.func101, Try.ntmps101
  go_wp2_with fail
  go_ret
  exact ⟨rfl, rfl⟩

theorem cell_stored {w : World} {p q : Addr} {x v : Value} (h : w.cell? q = some v) : ∃ v', (w.setCell p x).cell? q = some v' := by
  by_cases e : p = q
  · subst e; exact ⟨x, World.cell?_setCell_same w p x h⟩
  · exact ⟨v, (World.cell?_setCell_other w p q x e).trans h⟩

theorem hds_swap {F : Nat → Prop} {w : World} {l : List Hd} {B e g cap : Nat} {ui uj : Value} (h : ROwnF headK F B e w (.slice (some ⟨g, 0, none⟩) l.length cap) l) {i j : Nat} (hi : i < l.length) (hj : j < l.length)
    (hui : Rw entK (fun k => F k ∧ k ≠ g) w ui (hat l i).l) (huj : Rw entK (fun k => F k ∧ k ≠ g) w uj (hat l j).l) :
    ROwnF headK F B e ((((w.setCell ⟨g, i * 2, none⟩ uj).setCell ⟨g, i * 2 + 1, none⟩ (.int .i64 (hat l j).no)).setCell ⟨g, j * 2, none⟩ ui).setCell ⟨g, j * 2 + 1, none⟩ (.int .i64 (hat l i).no)).drew (.slice (some ⟨g, 0, none⟩) l.length cap) (swp l i j) ∧
    Wrote (fun k => k = g) w ((((w.setCell ⟨g, i * 2, none⟩ uj).setCell ⟨g, i * 2 + 1, none⟩ (.int .i64 (hat l j).no)).setCell ⟨g, j * 2, none⟩ ui).setCell ⟨g, j * 2 + 1, none⟩ (.int .i64 (hat l i).no)).drew := by
  have h1 := hds_set h hi huj
  have hl : (l.set i (hat l j)).length = l.length := List.length_set
  rw [← hl] at h1
  have h2 := hds_set h1 (i := j) (x := hat l i) (by rw [hl]; exact hj) (u := ui) (hui.keep fun k _ hk => (heap_setCell_other _ _ _ _ hk.2).trans (heap_setCell_other _ _ _ _ hk.2))
  rw [hl] at h2
  refine ⟨h2.keep fun _ _ _ => rfl, ?_⟩
  have g0 : Wrote (fun k => k = g) w w := Wrote.of_below (Below.refl _ _)
  have g1 := g0.setCell ⟨g, i * 2, none⟩ uj (.inl rfl)
  have g2 := g1.setCell ⟨g, i * 2 + 1, none⟩ (.int .i64 (hat l j).no) (.inl rfl)
  have g3 := g2.setCell ⟨g, j * 2, none⟩ ui (.inl rfl)
  have g4 := g3.setCell ⟨g, j * 2 + 1, none⟩ (.int .i64 (hat l i).no) (.inl rfl)
  exact g4.drew

set_option maxRecDepth 100000 in
theorem hswap_any {F : Nat → Prop} {w : World} {v : Value} {l : List Hd} {B : Nat} (h : ROwnF headK F B 80 w v l) (hlen : l.length ≤ 1000000) (i j : Nat) (hi : i < l.length) (hj : j < l.length) :
    Calls Try.prog 103 #[v, .int .i64 (i : Int), .int .i64 (j : Int)] w fun x w' => x = .returned (.tuple #[]) ∧ ROwnF headK F B 80 w' v (swp l i j) ∧ Wrote (fun k => v.ownBlock = some k) w w' := by
  obtain ⟨g, cap, rfl, _, hg, hf, hc⟩ := hds_at h (by omega)
  obtain ⟨ui, hui, ci0, ci1⟩ := hc i hi
  obtain ⟨uj, huj, cj0, cj1⟩ := hc j hj
  obtain ⟨ai, ni, rfl⟩ := hui.isSlice
  obtain ⟨aj, nj, rfl⟩ := huj.isSlice
  have HH := Lib.hid h
  have HI := Lib.hid hui
  have HJ := Lib.hid huj
  have f0 := hf (i * 2)
  have f1 := hf (i * 2 + 1)
  have f2 := hf (j * 2)
  have f3 := hf (j * 2 + 1)
  have b1 : (i : Int) < (l.length : Int) := by omega
  have b2 : (j : Int) < (l.length : Int) := by omega
  have b3 : 0 ≤ (i : Int) := by omega
  have b4 : 0 ≤ (j : Int) := by omega
  obtain ⟨y0, hy0⟩ := cell_stored (p := ⟨g, i * 2, none⟩) (x := .slice aj (hat l j).l.length nj) cj0
  obtain ⟨y1, hy1⟩ := cell_stored (p := ⟨g, i * 2, none⟩) (x := .slice aj (hat l j).l.length nj) cj1
  obtain ⟨y2, hy2⟩ := cell_stored (p := ⟨g, i * 2 + 1, none⟩) (x := .int .i64 (hat l j).no) hy1
  clear h hui huj hc hf
  go_enter Try.func103, Try.ntmps103
  go_region_law fail
  all_goals
    go_wp2_with fail
    go_end0
    exact ⟨rfl, hds_swap HH.out hi hj HI.out HJ.out |>.1, (hds_swap HH.out hi hj HI.out HJ.out).2.mono fun k hk => by rw [hk]; rfl⟩
end Go.Proofs.Ytmpapipobjoboaa
