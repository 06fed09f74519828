/- The contract of frame.is: four bytes held against a masked sum. -/
import Derived.Test.YtkpbkhbgiijbiaaFrA
import Derived.ChangeKeysEq
import Derived.Deep.RegionWith
import Derived.Laws.Cover3
namespace Go.Proofs.Ytkpbkhbgiijbiaa
open Go.RowKit

theorem info_u8' : ∃ i, Try.prog.info? 5 = some i := by
  obtain ⟨i0, hi, _⟩ := info_parts info_u8
  exact ⟨i0, hi⟩

theorem run_eq4 (a0 a1 a2 a3 b0 b1 b2 b3 : Int) (w : World) :
    (binOp .eql 59 (.agg #[.int .u8 a0, .int .u8 a1, .int .u8 a2, .int .u8 a3]) (.agg #[.int .u8 b0, .int .u8 b1, .int .u8 b2, .int .u8 b3])).run Try.prog w = .ok (.bool (a0 == b0 && (a1 == b1 && (a2 == b2 && a3 == b3)))) w := by
  obtain ⟨i, hi⟩ := info_u8'
  rw [run_eql_struct, run_equalIn_array w 9999 (i := i) _ _ Try.underlying59 hi]
  have hc : Try.prog.cellsOf 5 = 1 := by kernel_rfl
  have hp : ∀ (k : Nat) (v : Value) (xs : Array Value) (w : World), xs[k]? = some v → (part 5 xs k).run Try.prog w = .ok v w := by
    intro k v xs w h
    simp [part, isAgg, run_underlying Try.underlying5, h]
  have he : ∀ (a b : Int) (w : World), (Op.equalIn 9999 5 (.int .u8 a) (.int .u8 b)).run Try.prog w = .ok (a == b) w := fun a b w => run_equalIn_int w 9998 5 .u8 .u8 a b Try.underlying5
  rw [hc]
  simp only [List.range_succ, List.range_zero, List.nil_append, List.cons_append]
  simp [Op.eqItems, hp, he]
  by_cases h0 : a0 = b0
  · by_cases h1 : a1 = b1
    · by_cases h2 : a2 = b2
      · by_cases h3 : a3 = b3
        · simp [h0, h1, h2, h3]
        · simp [h0, h1, h2, h3]
      · simp [h0, h1, h2]
    · simp [h0, h1]
  · simp [h0]

theorem u8s_inj {xs ys : List UInt8} (h : u8s xs = u8s ys) : xs = ys := by
  unfold u8s at h
  refine List.map_inj_right ?_ |>.1 h
  intro x y hxy
  injection hxy with _ h2
  exact UInt8.toNat_inj.1 (by omega)

theorem len4 {xs : List UInt8} (h : xs.length = 4) : ∃ a b c d, xs = [a, b, c, d] := by
  match xs, h with
  | [a, b, c, d], _ => exact ⟨a, b, c, d, rfl⟩

theorem run_eq_four (xs ys : List UInt8) (hx : xs.length = 4) (hy : ys.length = 4) (w : World) :
    (binOp .eql 59 (.agg (u8s xs).toArray) (.agg (u8s ys).toArray)).run Try.prog w = .ok (.bool (decide (xs = ys))) w := by
  obtain ⟨a, b, c, d, rfl⟩ := len4 hx
  obtain ⟨a', b', c', d', rfl⟩ := len4 hy
  have := run_eq4 a.toNat b.toNat c.toNat d.toNat a'.toNat b'.toNat c'.toNat d'.toNat w
  have e : ((((a.toNat : Int) == (a'.toNat : Int)) && (((b.toNat : Int) == (b'.toNat : Int)) && (((c.toNat : Int) == (c'.toNat : Int)) && ((d.toNat : Int) == (d'.toNat : Int))))) : Bool) = decide ([a, b, c, d] = [a', b', c', d']) := by
    rw [Bool.eq_iff_iff]
    simp only [Bool.and_eq_true, beq_iff_eq, decide_eq_true_eq, List.cons.injEq, and_true, ← UInt8.toNat_inj]
    omega
  rw [e] at this
  exact this

set_option maxRecDepth 100000 in
theorem is_any (F G : Nat → Prop) (vo : Value) (os : List UInt8) (vs : Value) (ss : List UInt8) (w : World) (ho : Bytes F w vo os) (hs : Bytes G w vs ss) (h4 : ss.length = 4) :
    Calls Try.prog 35 #[vo, vs] w fun e w' => e = .returned (.bool (decide (ss = Fr.sum4 os))) ∧ Below w.heap.size w w' := by
  obtain ⟨b, off, cap, rfl, _, hlt, e2, e3, e6⟩ := Sl.place hs (by rw [u8s_len]; omega)
  have hsa := fun (w' : World) => run_arrayAt (P := Try.prog) w' 59 5 4 (some ⟨b, off, none⟩) ss.length cap Try.underlying59 (by omega)
  have HEQ := run_eq_four ss (Fr.sum4 os) h4 (Fr.sum4_len os)
  have HO := Lib.hid ho
  have HL := Lib.hid hlt
  clear hs ho hlt e2 e3
  rw [h4] at hsa ⊢
  obtain ⟨b0, b1, b2, b3, rfl⟩ := len4 h4
  have c0 : w.cell? ⟨b, off, none⟩ = some (.int .u8 (b0.toNat : Int)) := e6 0 _ rfl
  have c1 := e6 1 _ rfl
  have c2 := e6 2 _ rfl
  have c3 := e6 3 _ rfl
  have HE : Hid (∀ w', (binOp .eql 59 (.agg #[.int .u8 (b0.toNat : Int), .int .u8 (b1.toNat : Int), .int .u8 (b2.toNat : Int), .int .u8 (b3.toNat : Int)]) (.agg (u8s (Fr.sum4 os)).toArray)).run Try.prog w' = .ok (.bool (decide ([b0, b1, b2, b3] = Fr.sum4 os))) w') := HEQ
  have hq := HE.out
  clear h4 HEQ e6
  go_enter Try.func35, Try.ntmps35
  go_wp2_with fail
  go_region_with (go_at_call 42; refine Calls.mono (masked_any F vo os _ ?_) ?_; exact HO.out.keep (fun _ _ _ => rfl); rintro e w1 ⟨rfl, hb⟩; have HW := Lib.hid (below_of_drew hb); have k0 : w1.cell? ⟨b, off, none⟩ = _ := (HW.out.cell HL.out).trans c0; have k1 : w1.cell? ⟨b, off + 1, none⟩ = _ := (HW.out.cell HL.out).trans c1; have k2 : w1.cell? ⟨b, off + 2, none⟩ = _ := (HW.out.cell HL.out).trans c2; have k3 : w1.cell? ⟨b, off + 3, none⟩ = _ := (HW.out.cell HL.out).trans c3; clear hb)
  all_goals
    go_wp2_with fail
    go_ret
    exact ⟨rfl, HW.out⟩
end Go.Proofs.Ytkpbkhbgiijbiaa
