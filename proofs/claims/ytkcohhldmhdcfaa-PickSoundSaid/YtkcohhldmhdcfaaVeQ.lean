/- Chapter 12: slices.Delete of one file in a row of one's own. -/
import Derived.Test.YtkcohhldmhdcfaaVeP
namespace Go.Proofs.Ytkcohhldmhdcfaa
open Go.RowKit

def RowPost (FF : Nat → Prop) (A : Nat) (fs : List Fil) (v : Value) (w : World) (e : Ending) (w' : World) : Prop :=
  ∃ v', e = .returned v' ∧ ROwnF filK FF A 42 w' v' fs ∧ Grew w w' v v'
theorem grew_of_wrote {g n c n' c' : Nat} {w w' : World} (h : Wrote (fun k => k = g) w w') : Grew w w' (.slice (some ⟨g, 0, none⟩) n c) (.slice (some ⟨g, 0, none⟩) n' c') :=
  ⟨⟨h.os, h.tape, h.output, h.size, fun k hk hn => h.block k hk fun e => hn (by rw [e]; rfl)⟩, fun k hk => .inl hk⟩
def zeroFil : Value := .agg #[.int .u64 0, .int .i64 0, .slice none 0 0, .slice none 0 0, .int .i64 0, .int .u64 0]
theorem zero_fil (w : World) : (zeroValue 42).run Try.prog w = .ok zeroFil w := by kernel_rfl
theorem zeroFil_one : ∀ u ∈ zeroFil.cells.toList, u.oneCell' = true := List.all_eq_true.1 (show (zeroFil.cells.toList.all fun u => u.oneCell') = true from rfl)

set_option maxRecDepth 100000 in
set_option maxHeartbeats 4000000 in
theorem fdel_any (FF : Nat → Prop) (A : Nat) (v : Value) (fs : List Fil) (i : Nat) (w : World) (h : ROwnF filK FF A 42 w v fs) (hi : i < fs.length) (hfew : fs.length ≤ 1000000) :
    Calls Try.prog 107 #[v, .int .i64 (i : Int), .int .i64 ((i : Int) + 1)] w (RowPost FF A (fs.eraseIdx i) v w) := by
  obtain ⟨g, cap, cur, rfl, hR, hE⟩ := h.rowB (by omega)
  have hcap := hR.cap
  have hroom := hR.room
  have hsz := hR.size
  simp only [maxLen] at hcap
  obtain ⟨n, hn⟩ : ∃ n, fs.length = n := ⟨_, rfl⟩
  have HN := Lib.hid hn
  rw [hn] at hR hE hi hfew hroom ⊢
  clear hn h
  have HR := Lib.hid hR
  have HE := Lib.hid hE
  have hi1 : ((i + 1 : Nat) : Int) = (i : Int) + 1 := by omega
  obtain ⟨X1, hX1⟩ : ∃ X1, ∀ w, (Instr.slice 33 (.slice (some ⟨g, 0, none⟩) n cap) (some (.int .i64 (i : Int))) (some (.int .i64 ((i : Int) + 1))) (some (.int .i64 (n : Int)))).run Try.prog w = .ok X1 w :=
    ⟨_, fun w => by rw [run_slice_lhm w 33 (some ⟨g, 0, none⟩) n cap under_filsP .i64 .i64 .i64 (i : Int) ((i : Int) + 1) (n : Int) (by omega) (by omega) (by omega) (by omega), run_sizeOf size_filsP]; rfl⟩
  obtain ⟨X2, hX2, hS2⟩ := Sl.slice_l under_filsP size_filsP hR.sl (i + 1) (by omega)
  rw [hi1] at hX2
  have hX3 := fsl_h g n cap i (by omega)
  obtain ⟨k, hk⟩ : ∃ k, i + (n - (i + 1)) = k := ⟨_, rfl⟩
  have hX4 := fsl_lh g k cap k n (by omega) (by omega) (by omega)
  have HS2 := Lib.hid hS2
  obtain ⟨news, hnews⟩ : ∃ news, List.take ((n - (i + 1)) * 6) (List.drop ((i + 1) * 6) (List.take (n * 6) cur.toList)) = news := ⟨_, rfl⟩
  rw [hnews] at HS2
  have hnl : news.length = (n - (i + 1)) * 6 := HS2.out.len
  have HNL := Lib.hid hnl
  have HN1 : Hid (∀ u ∈ news, u.oneCell' = true) := fun u hu => by
    rw [← hnews] at hu
    exact HE.out.one u (List.mem_of_mem_drop (List.mem_of_mem_take hu))
  have HNEW := Lib.hid hnews
  have HK := Lib.hid hk
  have HC := Lib.hid hcap
  have HROOM := Lib.hid hroom
  have HSZ := Lib.hid hsz
  have hne : ((i : Int) == (i : Int) + 1) = false := by simp; omega
  obtain ⟨w0, hw0⟩ : ∃ w0, w0 = w := ⟨_, rfl⟩
  have HW0 := Lib.hid hw0
  have w1 : IntKind.i64.wrap (i : Int) = (i : Int) := wrap_small (by omega) (by omega)
  clear hw0 hR hE hS2 hnews hnl hk hcap hroom hsz hi1
  go_enter Try.func107, Try.ntmps107
  go_wp2_with fail
  go_region_law (refine step_append_blk rfl (.tmp 22) (.tmp 25) 33 42 rfl under_fils 6 size_fil g i cap (by simp [Act.eval, Act.put]) 42 cur HR.out.blk.drewP _ X2 (n - (i + 1)) news (by simp [Act.eval, Act.put]) HS2.out.drewP HN1.out (by have := HROOM.out; omega) (by have := HSZ.out; have := HROOM.out; have := HNL.out; omega) k HK.out ?_; intro w2 hb2 hw2)
  have HB2 := Lib.hid hb2
  have HW2 : Hid (Wrote (fun k => k = g) w w2) := (Wrote.of_below (below_dn (Below.refl _ _) 1)).trans hw2
  clear hb2 hw2 hX2 hX3
  go_wp2_with (with_reducible refine pause_clear ?_)
  clear hX4
  have h6 : zeroFil.cells.size = 6 := rfl
  refine Pause.go (wpList_clear rfl 33 42 zeroFil _ rfl Try.underlying33 zero_fil g (k * 6) (n - k) (cap - k) rfl _ _ HB2.out (by decide) ?_ zeroFil_one ?_)
  · rw [over_size _ _ _ (by have := HSZ.out; have := HROOM.out; have := HNL.out; omega)]
    have := HSZ.out
    have := HROOM.out
    have := HK.out
    show k * 6 + (n - k) * 6 ≤ _
    omega
  intro w3 cur3 hb3 hs3 hk3 hw3
  have HP : Hid (RowPost FF A (fs.eraseIdx i) (.slice (some ⟨g, 0, none⟩) n cap) w (.returned (.slice (some ⟨g, 0, none⟩) k cap)) w3) := by
    have hsz := HSZ.out
    have hroom := HROOM.out
    have hnl := HNL.out
    have hk := HK.out
    have hn := HN.out
    have hov : i * 6 + news.length ≤ cur.size := by omega
    have hkl : (fs.eraseIdx i).length = k := by rw [List.length_eraseIdx_of_lt (by omega)]; omega
    have hww := HW2.out.trans hw3
    refine ⟨_, rfl, ?_, grew_of_wrote hww⟩
    rw [← hkl]
    refine ROwnF.of_rowB (HR.out.of hb3 (hs3.trans (over_size _ _ _ hov)) (by omega)) ?_
    rw [hkl, take_agree hs3 hk3, over_take hov (by omega)]
    have hE := HE.out
    refine Els.wrote ?_ hww fun _ h => h.2
    rw [List.eraseIdx_eq_take_drop_succ]
    refine Els.append ?_ ?_
    · rw [← HNEW.out]
      have h2 := hE.drop (i + 1)
      rw [List.take_of_length_le (by rw [List.length_drop, hE.len, hn]; show _ ≤ _; rw [show filK.sz = 6 from rfl]; omega)]
      exact h2
    · have h2 := hE.take i
      rw [List.take_take, Nat.min_eq_left (by show i * 6 ≤ _; omega)] at h2
      exact h2
  clear HB2 HW2 hb3 hs3 hk3 hw3
  go_wp2_with fail
  go_ret
  exact HP.out
end Go.Proofs.Ytkcohhldmhdcfaa
