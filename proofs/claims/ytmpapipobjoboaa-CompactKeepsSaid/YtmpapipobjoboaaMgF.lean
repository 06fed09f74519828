/- Merge: Left. -/
import Derived.Test.YtmpapipobjoboaaMgLives
namespace Go.Proofs.Ytmpapipobjoboaa
open Go.RowKit

theorem left_nil (w : World) : Calls Try.prog 22 #[.pointer none] w fun x w' => x = .returned (.int .i64 0) ∧ w' = w := by
  go_enter Try.func22, Try.ntmps22
  go_wp2_with fail
  go_ret
  exact ⟨rfl, rfl⟩

theorem new_grown' {B m : Nat} {F : Nat → Prop} {w x1 W w4 : World} {v v4 : Value} {l : List Hd} {x : Hd} (h : Hv B F x1 m v l) (hW : Below x1.heap.size x1 W) (hro : ROwnF headK F B 80 w4 v4 (l ++ [x])) (hg : Grew W w4 v v4) (hb : Below w.heap.size w x1) (hB : w.heap.size ≤ B) :
    ROwnF headK F B 80 w4 v4 (l ++ [x]) ∧ Blk w4 m #[v, .bool true] 53 ∧ v4.ownBlock ≠ some m ∧ Below w.heap.size w w4 := by
  have h1 : Below w.heap.size w W := hb.trans (hW.mono hb.size)
  have h2 := h.blk.below hW h.blk.lt
  refine ⟨hro, h2.same (hg.grown.block m h2.lt fun e => h.ne e.symm), fun e => ?_, h1.trans ?_⟩
  · rcases hg.own m e with e | e
    · exact h.ne e
    · have := h2.lt
      omega
  · exact hg.below h1.size fun k e => Nat.le_trans hB (h.own.lt k e).1

theorem take_snoc_hd {l : List Hd} {j : Nat} (h : j < l.length) : l.take (j + 1) = l.take j ++ [⟨(hat l j).l, (hat l j).no⟩] := by
  rw [List.take_succ_eq_append_getElem h, hat_eq h]

section
variable {B m : Nat} {F : Nat → Prop} {w w' : World} {v : Value} {l : List Hd}

set_option maxRecDepth 100000 in
set_option maxHeartbeats 2000000 in
theorem left_any (h : Hv B F w m v l) (hok : HOk l) (hs : Hsort l) (hp : HeapFrom l l.length 0) {out : List Ent} (ht : Tells l out) (hol : out.length ≤ 1000000) :
    Calls Try.prog 22 #[.pointer (some ⟨m, 0, none⟩)] w fun x w' => x = .returned (.int .i64 (out.length : Int)) ∧ Below w.heap.size w w' := by
  obtain ⟨a, c, rfl⟩ := h.own.isSlice
  have HH := Lib.hid h
  have HO := Lib.hid hok
  have HS := Lib.hid hs
  have HP := Lib.hid hp
  have HT := Lib.hid ht
  have HM := Lib.hid h.blk.lt
  have hfew := hok.few
  clear h hok hs hp ht
  obtain ⟨n, hn⟩ : ∃ n, l.length = n := ⟨_, rfl⟩
  have HN := Lib.hid hn
  rw [hn] at HH hfew
  clear hn
  obtain ⟨q, hq⟩ : ∃ q, out.length = q := ⟨_, rfl⟩
  have HQ := Lib.hid hq
  rw [hq] at hol
  rw [hq]
  clear hq
  go_enter Try.func22, Try.ntmps22
  go_upto_region 4 with fail
  refine wp_gen fun w1 hw1 => ?_
  have HW1 : Hid (Below w.heap.size w w1) := by rw [hw1]; exact (Below.refl _ _).alloc (Nat.le_refl _) _
  have HV1 : Hid (Hv w.heap.size (fun k => F k ∧ k < w.heap.size) w1 w.heap.size (.slice none 0 0) []) := by
    rw [hw1]
    exact ⟨Blk.alloc_new _ _ _, ROwnF.nil _ _ _ _ _, (fun e => by cases e), fun e => Nat.lt_irrefl _ e.2⟩
  clear hw1
  have k0 : w1.cell? ⟨m, 0, none⟩ = some (.slice a n c) := (HW1.out.cell (p := ⟨m, 0, none⟩) HM.out).trans HH.out.cell
  go_wp2_with fail
  clear k0
  go_loopw [18] (fun iv wr => ∃ (j : Nat) (cv : Value), iv = .int .i64 (j : Int) ∧ j ≤ n ∧ Hid (Hv w.heap.size (fun k => F k ∧ k < w.heap.size) wr w.heap.size cv (l.take j)) ∧ Hid (Below w.heap.size w wr)) (fun iv _ => n - (intOf iv).toNat)
  case atStart => exact ⟨0, _, rfl, by omega, HV1.out, HW1.out⟩
  case round =>
    obtain ⟨j, cv, rfl, hj, HV, HB⟩ := hrel
    clear HV1 HW1
    by_cases hlt : j < n
    · have t1 : (j : Int) < (n : Int) := by omega
      have hl1 : j < l.length := by rw [HN.out]; omega
      have h5 := HH.out
      rw [← HN.out] at h5
      obtain ⟨g, cap, ea, _, hg, hf, hc⟩ := hds_at h5.own (by omega)
      obtain ⟨u, hu, c0, c1⟩ := hc j hl1
      injection ea with e1 e2 e3
      subst e1 e3
      clear e2 hf hc h5
      have HT' := Lib.hid (take_snoc_hd hl1)
      obtain ⟨ca, cc, rfl⟩ := HV.out.own.isSlice
      have HLm : Hid ((l.take j).length < 1000000) := by rw [List.length_take]; show _ < _; omega
      obtain ⟨ua, uc, rfl⟩ := hu.isSlice
      have x0 : wr.cell? ⟨g, j * 2, none⟩ = some (.slice ua (hat l j).l.length uc) := (HB.out.cell (p := ⟨g, j * 2, none⟩) hg).trans c0
      have x1 : wr.cell? ⟨g, j * 2 + 1, none⟩ = some (.int .i64 (hat l j).no) := (HB.out.cell (p := ⟨g, j * 2 + 1, none⟩) hg).trans c1
      have HU : Hid (Rw entK (fun k => F k ∧ k < w.heap.size) w (.slice ua (hat l j).l.length uc) (hat l j).l) := hu.mono fun k hk e => ⟨e.1, hk⟩
      clear hu c0 c1 hl1 hg
      generalize (hat l j).no = p at *
      generalize (hat l j).l = r at *
      generalize hlt' : l.take j = lt at *
      have HLT := Lib.hid hlt'
      clear hlt'
      go_upto_region 7 with fail
      refine wp_gen fun w2 hw2 => ?_
      have HB2 : Hid (Below wr.heap.size wr w2) := by rw [hw2]; exact (Below.refl _ _).alloc (Nat.le_refl _) _
      have HX2 : Hid (Blk w2 wr.heap.size #[.slice ua r.length uc, .int .i64 p] 80) := by rw [hw2]; exact Blk.at_new rfl rfl
      clear hw2 x0 x1
      have HVd : Hid (Hv w.heap.size (fun k => F k ∧ k < w.heap.size) w2 w.heap.size (.slice ca lt.length cc) lt) := HV.out.below HB2.out
      have HWd : Hid (Below w.heap.size w w2) := HB.out.trans (HB2.out.mono HB.out.size)
      have HAL : Hid (Below w2.heap.size w2 (w2.alloc (.cells #[.slice ua r.length uc, .int .i64 p] 80)).drew) := below_drew ((Below.refl _ _).alloc (Nat.le_refl _) _)
      have HUd := Lib.hid (HU.out.below HWd.out)
      have HEL : Hid (∀ k, (F k ∧ k < w.heap.size) → (F k ∧ k < w.heap.size) ∧ (Value.slice ca lt.length cc).ownBlock ≠ some k) := fun k hk => ⟨hk, fun e => by have := (HVd.out.own.lt k e).1; omega⟩
      have k0 : w2.cell? ⟨w.heap.size, 0, none⟩ = some (.slice ca lt.length cc) := HVd.out.cell
      have ky : ∀ o, (w2.alloc o).cell? ⟨w.heap.size, 0, none⟩ = some (Value.slice ca lt.length cc) := fun o => (HVd.out.blk.alloc o).cell rfl
      have x0 : w2.cell? ⟨wr.heap.size, 0, none⟩ = some (.slice ua r.length uc) := HX2.out.cell rfl
      have x1 : w2.cell? ⟨wr.heap.size, 1, none⟩ = some (.int .i64 p) := HX2.out.cell rfl
      have xy0 : ∀ o, (w2.alloc o).cell? ⟨wr.heap.size, 0, none⟩ = some (.slice ua r.length uc) := fun o => (HX2.out.alloc o).cell rfl
      have xy1 : ∀ o, (w2.alloc o).cell? ⟨wr.heap.size, 1, none⟩ = some (.int .i64 p) := fun o => (HX2.out.alloc o).cell rfl
      generalize wr.heap.size = xb at *
      go_region_law (first
        | (refine step_append_elF (K := headK) 51 80 _ 32 Try.underlying51 info_head rfl (fun k => F k ∧ k < w.heap.size) w.heap.size (Value.slice ca lt.length cc) lt w2.heap.size 80 _ ⟨r, p⟩ rfl _ _ rfl rfl rfl (HVd.out.own.below HAL.out) (by exact Blk.at_new rfl rfl) ⟨_, rfl, (HUd.out.below HAL.out).mono fun k _ hk => HEL.out k hk⟩ HLm.out (by decide) (Nat.le_trans HWd.out.size HAL.out.size) ?_; intro v4 w4 hro hg; obtain ⟨a4, c4, rfl⟩ := hro.isSlice; have HN4 := Lib.hid (new_grown' HVd.out HAL.out hro hg HWd.out (Nat.le_refl _)); clear hro hg; have k4 : w4.cell? ⟨w.heap.size, 0, none⟩ = some (Value.slice ca lt.length cc) := HN4.out.2.1.cell rfl; have f4 := HN4.out.2.1.free 0))
      all_goals
        clear k0 ky k4 f4 x0 x1 xy0 xy1
        go_upto_region 8 with fail
        refine wp_gen fun w5 hw5 => ?_
        have HN5 : Hid (Hv w.heap.size (fun k => F k ∧ k < w.heap.size) w5 w.heap.size (.slice a4 (lt ++ [(⟨r, p⟩ : Hd)]).length c4) (l.take (j + 1)) ∧ Below w.heap.size w w5) := by
          rw [hw5, HT'.out, ← show (lt ++ [(⟨r, p⟩ : Hd)]).length = lt.length + 1 by simp]
          exact hv_stored HN4.out (fun e => Nat.lt_irrefl _ e.2) (Nat.le_refl _)
        clear hw5 HN4 HVd HUd HEL HX2 HAL
        go_wp2_with fail
        go_roundw
        · exact ⟨j + 1, _, by go_num, by omega, HN5.out.1, HN5.out.2⟩
        · simp only [intOf]; omega
    · have t1 : ¬ (j : Int) < (n : Int) := by omega
      have hl2 : l.take j = l := List.take_of_length_le (by rw [HN.out]; omega)
      have HV2 : Hid (Hv w.heap.size (fun k => F k ∧ k < w.heap.size) wr w.heap.size cv l) := by have h6 := HV.out; rw [hl2] at h6; exact h6
      clear HV hl2
      go_wp2_with fail
      go_loopg [6] out.length (fun k nv wz => ∃ (z : Nat) (rest : List Ent) (l1 : List Hd) (v1 : Value), k = rest.length ∧ nv = .int .i64 (z : Int) ∧ z ≤ q ∧ Hid (z + rest.length = q) ∧ Hid (Hv w.heap.size (fun k => F k ∧ k < w.heap.size) wz w.heap.size v1 l1) ∧ Hid (HOk l1 ∧ Hsort l1 ∧ HeapFrom l1 l1.length 0 ∧ Tells l1 rest) ∧ Hid (Below w.heap.size w wz))
      case atStart => exact ⟨0, out, l, cv, rfl, rfl, Nat.zero_le _, by show 0 + _ = _; rw [HQ.out, Nat.zero_add], HV2.out, ⟨HO.out, HS.out, HP.out, HT.out⟩, HB.out⟩
      case round =>
        obtain ⟨z, rest, l1, v1, hk, rfl, hz, HZ, HVz, HLz, HBz⟩ := hrel
        have HK := Lib.hid hk
        clear hk
        cases rest with
        | nil =>
          have hl0 : l1 = [] := by
            obtain ⟨g1, g2, g3, g4⟩ := HLz.out
            cases l1 with
            | nil => rfl
            | cons x r => have := (g4.mem _).2 (top_shown g2 g1 g3 (by simp)); cases this
          subst hl0
          have HZ2 : Hid (z = q) := by show z = q; have := HZ.out; simpa using this
          go_wp2_with fail
          refine Calls.mono (next_none HVz.out.bare) ?_
          rintro _ w6 ⟨rfl, hb6⟩
          have HW6 : Hid (Below w.heap.size w w6) := HBz.out.trans (hb6.mono HBz.out.size)
          clear hb6
          go_wp2_with fail
          go_ret
          exact ⟨ret_int (by rw [HZ2.out]), HW6.out.alloc HW6.out.size _⟩
        | cons e rest =>
          have h0 : 0 < l1.length := by
            obtain ⟨g1, g2, g3, g4⟩ := HLz.out
            cases l1 with
            | nil => have := g4.none; cases this
            | cons x r => simp
          go_wp2_with fail
          refine Calls.mono (next_any HVz.out HLz.out.1 HLz.out.2.2.1 h0) ?_
          rintro _ w6 ⟨kk, yy, v6, l6, rfl, g1, g2, g3, g4, g5, g6, g7, g8, g9⟩
          obtain ⟨ka, kc, rfl⟩ := g1.isSlice
          obtain ⟨ya, yc, rfl⟩ := g2.isSlice
          obtain ⟨out', e1, e2, e3⟩ := HLz.out.2.2.2.next HLz.out.2.1 HLz.out.1 HLz.out.2.2.1 h0 g7 g6 g8
          injection e1 with e1 e4
          subst e4
          have HL6 : Hid (HOk l6 ∧ Hsort l6 ∧ HeapFrom l6 l6.length 0 ∧ Tells l6 rest) := ⟨g5, e3, g6, e2⟩
          have HW6 : Hid (Below w.heap.size w w6) := HBz.out.trans (g9.below HBz.out.size fun k ek => by
            rcases ek with ek | ek
            · omega
            · exact (HVz.out.own.lt k ek).1)
          have HV6 := Lib.hid (g3.below ((Below.refl _ w6).alloc (Nat.le_refl _) (.cells (entCells (hat l1 0).first (.slice ka (hat l1 0).first.key.length kc) (.slice ya (hat l1 0).first.value.length yc)).toArray 29)))
          have HZ3 : Hid (z + 1 + rest.length = q) := by have := HZ.out; simp only [List.length_cons] at this; show _ = _; omega
          clear g1 g2 g3 g4 g5 g6 g7 g8 g9 e1 e2 e3 HZ
          have hzq : z + 1 ≤ q := by have := HZ3.out; omega
          generalize (hat l1 0).first = x at *
          unfold entCells at *
          go_wp2_with fail
          go_roundg rest.length
          case measure => rw [HK.out]; exact Nat.lt_succ_self _
          case rel => exact ⟨z + 1, rest, l6, v6, rfl, by go_num, hzq, HZ3.out, HV6.out, HL6.out, HW6.out.alloc HW6.out.size _⟩
end
end Go.Proofs.Ytmpapipobjoboaa
