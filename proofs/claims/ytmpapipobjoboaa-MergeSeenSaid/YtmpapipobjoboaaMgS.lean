/- Merge: heap.Pop; step. -/
import Derived.Test.YtmpapipobjoboaaMgO
namespace Go.Proofs.Ytmpapipobjoboaa
open Go.RowKit

section
variable {B m : Nat} {F : Nat → Prop} {w w' : World} {v : Value} {l : List Hd}

theorem pop_perm {l l1 l2 : List Hd} {n : Nat} (hn : l.length = n + 1) (h1 : l1 = swp l 0 n) (h2 : l2.Perm l1) (h3 : ∀ k, n ≤ k → hat l2 k = hat l1 k) : (hat l 0 :: l2.take n).Perm l := by
  subst h1
  have hl2 : l2.length = n + 1 := by rw [h2.length_eq, swp_len, hn]
  have e1 : hat l2 n = hat l 0 := by rw [h3 n (Nat.le_refl _), swp_at (by omega) (by omega), if_pos rfl]
  have e2 : l2 = l2.take n ++ [hat l 0] := by
    have := List.take_succ_eq_append_getElem (l := l2) (i := n) (by omega)
    rw [List.take_of_length_le (by omega)] at this
    rw [← e1, hat_eq (by omega)]
    exact this
  have h4 : (hat l 0 :: l2.take n).Perm l2 := by
    conv => rhs; rw [e2]
    exact (List.perm_append_singleton _ _).symm
  exact h4.trans (h2.trans (swp_perm (by omega) (by omega)))

theorem pop_heap {l : List Hd} {n : Nat} (hn : l.length = n + 1) (h : HeapFrom l l.length 0) : HeapFrom (swp l 0 n) n (0 + 1) := fun j h1 h2 h3 => by
  rw [swp_at (by omega) (by omega), swp_at (by omega) (by omega), if_neg (by omega), if_neg (by omega), if_neg (by omega), if_neg (by omega)]
  exact h j h1 (by omega) (by omega)

theorem take_heap {l : List Hd} {n : Nat} (hn : l.length = n + 1) (h : HeapFrom l n 0) : HeapFrom (l.take n) (l.take n).length 0 := by
  rw [List.length_take, Nat.min_eq_left (by omega)]
  exact h.cut fun k hk _ => by simp [hat, hk]

def HPopPost (B : Nat) (F : Nat → Prop) (m : Nat) (v : Value) (l : List Hd) (w : World) (x : Ending) (w' : World) : Prop :=
  ∃ y v' l', x = .returned y ∧ Hv B F w' m v' l' ∧ v'.ownBlock = v.ownBlock ∧ (hat l 0 :: l').Perm l ∧ HeapFrom l' l'.length 0 ∧ Wrote (fun k => k = m ∨ v.ownBlock = some k) w w'

set_option maxRecDepth 100000 in
set_option maxHeartbeats 1000000 in
theorem heapPop_any (h : Hv B F w m v l) (hlen : l.length ≤ 1000000) (hne : ∀ x ∈ l, x.l ≠ []) (hp : HeapFrom l l.length 0) (h0 : 0 < l.length) :
    Calls Try.prog 78 #[.iface 82 (.pointer (some ⟨m, 0, none⟩))] w (HPopPost B F m v l w) := by
  obtain ⟨n, hn⟩ : ∃ n, l.length = n + 1 := ⟨l.length - 1, by omega⟩
  obtain ⟨a, c, rfl⟩ := h.own.isSlice
  have HNE := Lib.hid hne
  have hm := meth_len h.cell
  obtain ⟨K, hK⟩ : ∃ K, l.length = K := ⟨_, rfl⟩
  rw [hK] at hm h hn hlen
  have HH := Lib.hid h
  have hms := meth_swap h.cell
  have hn1 : n ≤ 1000000 := by omega
  have HK := Lib.hid hK
  have HN := Lib.hid hn
  have HP : Hid (HeapFrom (swp l 0 n) n (0 + 1)) := pop_heap (by rw [hK, hn]) hp
  have t1 : (K : Int) - 1 = (n : Int) := by omega
  have HT := Lib.hid t1
  have hk1 : 1 ≤ K := by omega
  have HSL : Hid ((swp l 0 n).length = K ∧ ∀ x ∈ swp l 0 n, x.l ≠ []) := ⟨by rw [swp_len, hK], fun x hx => hne x ((swp_perm (by omega) (by omega)).mem_iff.1 hx)⟩
  clear h hne hn hK hp h0 t1
  go_enter Try.func78, Try.ntmps78
  go_wp2_with fail
  refine Calls.mono (hlen_at a K c _) ?_
  rintro e w1 ⟨rfl, rfl⟩
  clear hm
  go_wp2_with fail
  refine Calls.mono (hswap_at HH.out (by rw [HK.out]; exact hlen) 0 n (by have := HK.out; omega) (by have := HK.out; have := HN.out; omega) _ _ rfl HT.out) ?_
  rintro e w2 ⟨rfl, g1, g2⟩
  have HV2 := Lib.hid g1
  have HW2 := Lib.hid g2
  clear g1 g2 hms
  rw [HT.out]
  go_wp2_with fail
  refine Calls.mono (down_any HV2.out (by have := HSL.out.1; omega) HSL.out.2 0 n _ _ rfl rfl (by have := HSL.out.1; have := HN.out; omega) (by omega) HP.out) ?_
  rintro e w3 ⟨l2, b, rfl, g1, g2, g3, g4, _, g5⟩
  have HV3 := Lib.hid g1
  have HS3 := Lib.hid (And.intro g2 (And.intro g3 g4))
  have HW3 := Lib.hid (HW2.out.trans g5)
  clear g1 g2 g3 g4 g5
  have hmp := meth_pop m 0 w3
  go_wp2_with fail
  refine Calls.mono (mpop_any HV3.out n (by have := HSL.out.1; have := HS3.out.1.length_eq; have := HN.out; omega) hn1) ?_
  rintro e w4 ⟨y, v4, rfl, g1, g2, g3⟩
  have HD : Hid (HPopPost B F m (.slice a K c) l w (.returned y) w4) := by
    refine ⟨y, v4, _, rfl, g1, g2, pop_perm (by rw [HK.out, HN.out]) rfl HS3.out.1 HS3.out.2.2, take_heap (by rw [HS3.out.1.length_eq, HSL.out.1, HN.out]) HS3.out.2.1, (HW3.out.mono fun k hk => .inr hk).trans (g3.mono fun k hk => .inl hk)⟩
  clear g1 g2 g3 hmp
  go_wp2_with fail
  go_ret
  rw [HK.out]
  exact HD.out
end
end Go.Proofs.Ytmpapipobjoboaa
