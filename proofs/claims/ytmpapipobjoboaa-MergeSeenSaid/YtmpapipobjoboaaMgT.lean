/- Merge: step. -/
import Derived.Test.YtmpapipobjoboaaMgS
namespace Go.Proofs.Ytmpapipobjoboaa
open Go.RowKit

section
variable {B m : Nat} {F : Nat → Prop} {w w' : World} {v : Value} {l : List Hd}

theorem under_ents : Try.prog.underlying 31 = some (.slice (Try.prog.elem 31)) := by kernel_rfl
theorem size_ents : (Try.prog.info? (Try.prog.elem 31)).map (·.size) = some entK.sz := by kernel_rfl

/-- A head's list is written. -/
theorem hds_setl {e g cap : Nat} {u : Value} {r : List Ent} (h : ROwnF headK F B e w (.slice (some ⟨g, 0, none⟩) l.length cap) l) {i : Nat} (hi : i < l.length) (hu : Rw entK (fun k => F k ∧ k ≠ g) w u r) :
    ROwnF headK F B e (w.setCell ⟨g, i * 2, none⟩ u) (.slice (some ⟨g, 0, none⟩) l.length cap) (l.set i ⟨r, (hat l i).no⟩) := by
  obtain ⟨cs, h1, h2⟩ := h
  have hcl := h2.len
  have hsz : headK.sz = 2 := rfl
  rw [hsz] at hcl
  have hF : ∀ k, (F k ∧ (Value.slice (some ⟨g, 0, none⟩) l.length cap).ownBlock ≠ some k) → k ≠ g := fun k hk e => hk.2 (by rw [e]; rfl)
  have hel := h2.set (x := ⟨r, (hat l i).no⟩) (ecs := [u, .int .i64 (hat l i).no]) ⟨u, rfl, hu.mono fun k _ hk => ⟨hk.1, fun e => by injection e with e; exact hk.2 e.symm⟩⟩ i hi
  rw [hsz] at hel
  obtain ⟨u0, hu0, _⟩ := h2.get i hi
  rw [hsz] at hu0
  have c1 : cs[i * 2 + 1]? = some (.int .i64 (hat l i).no) := by
    have := congrArg (fun z => z[1]?) hu0
    rw [hat_eq hi]
    simpa [List.getElem?_take, List.getElem?_drop] using this
  have hcs : cs.set (i * 2) u = cs.take (i * 2) ++ ([u, .int .i64 (hat l i).no] ++ cs.drop (i * 2 + 2)) := by
    apply List.ext_getElem?
    intro k
    simp only [List.getElem?_set, List.getElem?_append, List.length_take, List.getElem?_take, List.length_cons, List.length_nil, List.getElem?_drop]
    rcases Nat.lt_trichotomy k (i * 2) with hk | hk | hk
    · rw [if_neg (by omega), if_pos (by omega), if_pos (by omega)]
    · subst hk; rw [if_pos rfl, if_pos (by omega), if_neg (by omega), if_pos (by omega)]; simp [Nat.min_eq_left (show i * 2 ≤ cs.length by omega)]
    · by_cases hk2 : k = i * 2 + 1
      · subst hk2; rw [if_neg (by omega), if_neg (by omega), if_pos (by omega), c1]; simp [Nat.min_eq_left (show i * 2 ≤ cs.length by omega)]
      · rw [if_neg (by omega), if_neg (by omega), if_neg (by omega)]
        congr 1
        omega
  refine ⟨cs.set (i * 2) u, ?_, ?_⟩
  · rw [List.length_set]
    exact (World.ownsRow.stored h1 (i * 2) u).1
  · rw [hcs]
    exact hel.keep fun k _ hk => heap_setCell_other _ _ _ _ (hF k hk)

def StepTo (l l' : List Hd) : Prop := ((hat l 0).l.length = 1 ∧ (hat l 0 :: l').Perm l) ∨ ((hat l 0).l.length ≠ 1 ∧ l'.Perm (l.set 0 ⟨(hat l 0).l.drop 1, (hat l 0).no⟩))

def StepPost (B : Nat) (F : Nat → Prop) (m : Nat) (v : Value) (l : List Hd) (w : World) (x : Ending) (w' : World) : Prop :=
  ∃ v' l', x = .returned (.tuple #[]) ∧ Hv B F w' m v' l' ∧ v'.ownBlock = v.ownBlock ∧ HeapFrom l' l'.length 0 ∧ StepTo l l' ∧ Wrote (fun k => k = m ∨ v.ownBlock = some k) w w'

theorem set_heap {l : List Hd} {x : Hd} (h : HeapFrom l l.length 0) : HeapFrom (l.set 0 x) (l.set 0 x).length 1 := by
  rw [List.length_set]
  refine HeapFrom.cut (l := l) (fun j h1 h2 h3 => h j h1 h2 (by omega)) fun k hk h1 => ?_
  unfold hat
  rw [List.getD_eq_getElem?_getD, List.getD_eq_getElem?_getD, List.getElem?_set_ne (by omega)]

set_option maxRecDepth 100000 in
set_option maxHeartbeats 1000000 in
theorem step_any (h : Hv B F w m v l) (hlen : l.length ≤ 1000000) (hne : ∀ x ∈ l, x.l ≠ []) (hp : HeapFrom l l.length 0) (h0 : 0 < l.length) :
    Calls Try.prog 60 #[.pointer (some ⟨m, 0, none⟩)] w (StepPost B F m v l w) := by
  obtain ⟨g, cap, rfl, hBg, hg, hf, hc⟩ := hds_at h.own h0
  obtain ⟨u, hu, c0, _⟩ := hc 0 h0
  obtain ⟨ua, uc, rfl⟩ := hu.isSlice
  have hml := hu.len
  unfold maxLen at hml
  rw [Nat.zero_mul] at c0
  have HH := Lib.hid h
  have HNE := Lib.hid hne
  have HP := Lib.hid hp
  have HU := Lib.hid hu
  have HLE := Lib.hid hlen
  have k0 : w.cell? ⟨m, 0, none⟩ = some (.slice (some ⟨g, 0, none⟩) l.length cap) := h.cell
  obtain ⟨L, hL⟩ : ∃ L, l.length = L := ⟨_, rfl⟩
  rw [hL] at k0 h0
  have t0 : (0 : Int) < (L : Int) := by omega
  have HL := Lib.hid hL
  have f0 : w.frozen? ⟨g, 0, none⟩ = false := hf 0
  by_cases h1 : (hat l 0).l.length = 1
  · have H1 := Lib.hid h1
    rw [h1] at c0
    clear hc hf hu hL h1 hml h hne hp hlen
    go_enter Try.func60, Try.ntmps60
    go_wp2_with fail
    refine Calls.mono (heapPop_any HH.out HLE.out HNE.out HP.out (by rw [HL.out]; exact h0)) ?_
    rintro e w2 ⟨y, v', l', rfl, g1, g2, g3, g4, g5⟩
    have HD : Hid (StepPost B F m (.slice (some ⟨g, 0, none⟩) l.length cap) l w (.returned (.tuple #[])) w2) := ⟨v', l', rfl, g1, g2, g4, .inl ⟨H1.out, g3⟩, g5⟩
    clear g1 g2 g3 g4 g5
    go_wp2_with fail
    go_end0
    exact HD.out
  · obtain ⟨v', hr, hv'⟩ := HU.out.slice_l under_ents size_ents 1 (by have := List.length_pos_iff.2 (hne _ (List.getElem_mem (h := (by omega : 0 < l.length)))); rw [hat_eq (by omega)]; omega)
    obtain ⟨a', c', rfl⟩ := hv'.isSlice
    have H1 := Lib.hid h1
    have t1 : (((hat l 0).l.length : Int) == 1) = false := beq_eq_false_iff_ne.2 (by omega)
    have t2 : 1 ≤ (hat l 0).l.length := by have := List.length_pos_iff.2 (hne _ (List.getElem_mem (h := (by omega : 0 < l.length)))); rw [hat_eq (by omega)]; omega
    have HV1 := Lib.hid hv'
    clear hc hu hL h1 h hne hp hlen hv'
    generalize hq : (hat l 0).l.length = q at *
    have HQ := Lib.hid hq
    generalize hq' : (List.drop 1 (hat l 0).l).length = q' at *
    have HQ' := Lib.hid hq'
    have hr1 : ∀ w', (Instr.slice 31 (.slice ua q uc) (some (.int .i64 1)) none none).run Try.prog w' = .ok (.slice a' q' c') w' := hr
    have t3 : (1 : Int) ≤ (q : Int) := by omega
    clear hq hq' hf hr
    go_enter Try.func60, Try.ntmps60
    go_wp2_with fail
    go_region_law fail
    all_goals
      clear hr1 t0 t1 t2 t3 c0
      go_upto_region 3 with fail
      refine wp_gen fun w2 hw2 => ?_
      have HV2 : Hid (Hv B F w2 m (.slice (some ⟨g, 0, none⟩) l.length cap) (l.set 0 ⟨(hat l 0).l.drop 1, (hat l 0).no⟩)) := by
        rw [hw2]
        have h5 := hds_setl HH.out.own (i := 0) (by rw [HL.out]; exact h0) HV1.out
        rw [Nat.zero_mul] at h5
        refine ⟨HH.out.blk.set_other _ _ (fun e => HH.out.ne (by rw [← show g = m from e]; rfl)), h5.keep fun _ _ _ => rfl, HH.out.ne, HH.out.nm⟩
      have HW2 : Hid (Wrote (fun k => k = m ∨ (Value.slice (some ⟨g, 0, none⟩) l.length cap).ownBlock = some k) w w2) := by
        rw [hw2]
        exact Wrote.drew (Wrote.setCell (S := fun k => k = m ∨ (Value.slice (some ⟨g, 0, none⟩) l.length cap).ownBlock = some k) (Wrote.of_below (Below.refl _ _)) ⟨g, 0, none⟩ _ (.inl (.inr rfl)))
      clear hw2 k0 f0
      have HE2 : Hid (∀ x ∈ l.set 0 ⟨(hat l 0).l.drop 1, (hat l 0).no⟩, x.l ≠ []) := fun x hx => by
        rcases List.mem_or_eq_of_mem_set hx with h5 | h5
        · exact HNE.out x h5
        · subst h5
          intro e
          have h6 := congrArg List.length e
          rw [List.length_drop, HQ.out] at h6
          have h7 := H1.out
          simp only [List.length_nil] at h6
          have h8 := List.length_pos_iff.2 (HNE.out _ (List.getElem_mem (h := (by rw [HL.out]; exact h0 : 0 < l.length))))
          rw [← hat_eq, HQ.out] at h8
          omega
      go_wp2_with fail
      refine Calls.mono (fix_any HV2.out (by rw [List.length_set]; exact HLE.out) HE2.out (set_heap HP.out)) ?_
      rintro e w3 ⟨l', rfl, g1, g2, g3, g4⟩
      have HD : Hid (StepPost B F m (.slice (some ⟨g, 0, none⟩) l.length cap) l w (.returned (.tuple #[])) w3) := ⟨_, l', rfl, g1, rfl, g3, .inr ⟨by rw [HQ.out]; exact H1.out, g2⟩, HW2.out.trans (g4.mono fun k hk => .inr hk)⟩
      clear g1 g2 g3 g4
      go_wp2_with fail
      go_end0
      exact HD.out
end
end Go.Proofs.Ytmpapipobjoboaa
