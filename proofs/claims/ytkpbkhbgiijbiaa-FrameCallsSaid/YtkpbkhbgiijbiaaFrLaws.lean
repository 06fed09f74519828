/- The statements of chapter 3: walks of lives and FrameNames. -/
import Derived.Test.YtkpbkhbgiijbiaaFrames
import Derived.Test.YtkpbkhbgiijbiaaCrcLaws
import Derived.Laws.IdiomStrings
namespace Go.Proofs.Ytkpbkhbgiijbiaa
open Go.RowKit

def hello : List UInt8 := [104, 101, 108, 108, 111]

theorem make7 (w : World) : (Instr.makeSlice 27 (.int .i64 7) (.int .i64 7)).run Try.prog w = .ok (.slice (some ⟨w.heap.size, 0, none⟩) 7 7) (w.alloc (.cells (Array.replicate 7 (.int .u8 0)) 5)) := by kernel_rfl
theorem make8 (w : World) : (Instr.makeSlice 27 (.int .i64 8) (.int .i64 8)).run Try.prog w = .ok (.slice (some ⟨w.heap.size, 0, none⟩) 8 8) (w.alloc (.cells (Array.replicate 8 (.int .u8 0)) 5)) := by kernel_rfl

theorem Owned.place {base : Nat} {w : World} {v : Value} {bs : List UInt8} (h : Owned base w v bs) (hne : 0 < bs.length) :
    ∃ g cap, v = .slice (some ⟨g, 0, none⟩) bs.length cap ∧ base ≤ g ∧ g < w.heap.size ∧ bs.length ≤ cap := by
  have h' := h
  rcases h.2 with ⟨_, e⟩ | ⟨g, c, _, e, _, _, h4, _⟩
  · omega
  · subst e
    have := World.ownsRow.lt h' g rfl
    exact ⟨g, c, rfl, this.1, this.2, h4⟩

theorem Owned.cell {base : Nat} {w : World} {g n cap : Nat} {bs : List UInt8} (h : Owned base w (.slice (some ⟨g, 0, none⟩) n cap) bs) (i : Nat) (hi : i < bs.length) :
    w.cell? ⟨g, i, none⟩ = some (.int .u8 ((bs.getD i 0).toNat : Int)) := by
  obtain ⟨_, _, e⟩ := h.bytes.isSlice
  injection e with _ e _
  subst e
  rw [World.ownsRow.cellAt h i (by omega), u8s_get _ _ hi]

theorem Owned.free {base : Nat} {w : World} {g n cap : Nat} {bs : List UInt8} (h : Owned base w (.slice (some ⟨g, 0, none⟩) n cap) bs) (i : Nat) : w.frozen? ⟨g, i, none⟩ = false := by
  obtain ⟨_, _, e⟩ := h.bytes.isSlice
  injection e with _ e _
  subst e
  exact World.ownsRow.frozenAt h _

theorem u8s_set' (ys : List UInt8) (i : Nat) (b : UInt8) : (u8s ys).set i (.int .u8 (b.toNat : Int)) = u8s (ys.set i b) := by
  simp [u8s, List.map_set]

theorem Owned.set {base : Nat} {w : World} {g n cap : Nat} {bs : List UInt8} (h : Owned base w (.slice (some ⟨g, 0, none⟩) n cap) bs) (i : Nat) (x : UInt8) :
    Owned base (w.setCell ⟨g, i, none⟩ (.int .u8 (x.toNat : Int))) (.slice (some ⟨g, 0, none⟩) n cap) (bs.set i x) := by
  obtain ⟨_, _, e⟩ := h.bytes.isSlice
  injection e with _ e _
  subst e
  have hst := World.ownsRow.stored h i (.int .u8 (x.toNat : Int))
  unfold Owned
  rw [u8s_set'] at hst
  rw [List.length_set]
  exact hst.1

theorem Bytes.text {F : Nat → Prop} {w : World} {v : Value} {bs : List UInt8} (h : Bytes F w v bs) (hne : 0 < bs.length) :
    (convert 27 9 v).run Try.prog w = .ok (.string ⟨bs.toArray⟩) w := by
  obtain ⟨b, off, cap, rfl, _, _, _, _, hc⟩ := Sl.place h (by rw [u8s_len]; omega)
  refine run_convert_bytes_back (P := Try.prog) w _ _ 5 _ cap bs Try.underlying27 Try.underlying5 Try.underlying9 fun j hj => ?_
  rw [add_plain']
  refine hc j _ ?_
  rw [u8s_get _ _ hj]
  simp [List.getD, hj]

theorem FrOwned.isSlice {base : Nat} {w : World} {v : Value} {fs : List Fr.T} (h : FrOwned base w v fs) : ∃ a c, v = .slice a fs.length c := by
  obtain ⟨cs, h1, _⟩ := h
  obtain ⟨a, c, e, _⟩ := (Sl.of_owns h1).ex
  exact ⟨a, c, e⟩

theorem wpList_make_bytes {ops : Array Oper} {rest : List Oper} {o : Oper} {a : Act} {w : World} {Q : Exit → Act → World → Prop} (n : Nat) (hgd : o.guard = none) (l c : Operand) (hop : o.op = Op.makeSlice 27 l c) (L C : Int) (hl : a.eval l = .int .i64 L) (hc : a.eval c = .int .i64 C) (hL : L = (n : Int)) (hC : C = (n : Int)) (hn : n ≤ 140737488355328)
    (h : ∀ w', Owned w.heap.size w' (.slice (some ⟨w.heap.size, 0, none⟩) n n) (List.replicate n 0) → Below w.heap.size w w' → wpList Try.prog ops Q rest (a.put o.dst (.slice (some ⟨w.heap.size, 0, none⟩) n n)) w') : wpList Try.prog ops Q (o :: rest) a w := by
  obtain ⟨i0, hi, hz0, hz1, hz2⟩ := info_parts info_u8
  refine wpList_make_full w hgd l c 27 hop w.heap.size 5 i0 (.int .u8 0) 1 Try.underlying27 hi hz0 hz1 .i64 .i64 L C n hl hc hL hC (by rw [hz2]; omega) (by simp only [maxLen]; omega) (Nat.le_refl _) ?_
  intro w' h2 h3
  refine h w' ?_ ((Below.refl _ _).grown h3 (Nat.le_refl _) (by simp))
  unfold Owned
  rw [List.length_replicate]
  have e : (madeCells (Value.int .u8 0).cells (n * 1)).toList = u8s (List.replicate n 0) := by
    rw [show (Value.int .u8 0).cells = #[.int .u8 0] from rfl, toList_madeCells_one]
    simp [u8s]
  rw [← e]
  exact h2

set_option maxRecDepth 100000 in
theorem lives3_any (w : World) :
    Calls Try.prog 21 #[] w fun e w' => e = .returned (.bool true) ∧ Below w.heap.size w w' := by
  have kc := conv_const
  have k7 := make7
  have k8 := make8
  go_enter Try.func21, Try.ntmps21
  go_wp2_with fail
  refine Calls.mono (fappend_any w.heap.size _ [] 7 _ _ hello _ (by simp) (Owned.nil _ _) (Bytes.const w _ _ _ _ _ rfl rfl (by omega)) (by simp [Value.ownBlock]) (by decide) (by decide)) ?_
  rintro e w1 ⟨v1, rfl, ho1, hg1⟩
  obtain ⟨a1, n1, c1, rfl⟩ := ho1.isSlice
  have hn1 : n1 = 17 := by
    obtain ⟨_, _, e⟩ := ho1.bytes.isSlice
    injection e
  subst hn1
  have HO1 := Lib.hid ho1
  have HW1 : Hid (Below w.heap.size w w1) := ((Below.refl _ _).alloc (Nat.le_refl _) _).trans (hg1.below (by simp) (by simp [Value.ownBlock]))
  clear ho1 hg1
  go_wp2_with fail
  refine Calls.mono (own_any _ _ _ _ HO1.out.bytes (by decide)) ?_
  rintro e w2 ⟨v2, rfl, ho2, hb2⟩
  obtain ⟨a2, n2, c2, rfl⟩ := ho2.isSlice
  have HO2 := Lib.hid ho2
  have HW2 : Hid (Below w.heap.size w w2) := HW1.out.trans (hb2.mono HW1.out.size)
  have HS1 : Hid (w1.heap.size ≤ w2.heap.size) := hb2.size
  clear ho2 hb2
  go_wp2_with (with_reducible refine pause_append ?_)
  refine list_gen fun W2 hW2 => ?_
  have HO2' : Hid (Owned w1.heap.size W2 (.slice a2 n2 c2) ([] ++ Fr.enc 7 hello)) := by
    rw [hW2]; exact HO2.out.below ((Below.refl _ _).alloc (Nat.le_refl _) _)
  have HL : Hid (Bytes (fun k => k = w2.heap.size) W2 (.slice (some ⟨w2.heap.size, 0, none⟩) 1 1) [1]) := by
    rw [hW2]; exact Bytes.const w2 _ _ _ _ _ rfl rfl (by omega)
  have HW2' : Hid (Below w.heap.size w W2) := by
    rw [hW2]; exact HW2.out.alloc HW2.out.size _
  have HS2 : Hid (w1.heap.size ≤ W2.heap.size) := by
    rw [hW2]; simp; exact Nat.le_succ_of_le HS1.out
  clear hW2
  refine Pause.go (wpList_append_bytes _ w1.heap.size (.slice a2 n2 c2) _ _ [1] rfl _ _ rfl rfl rfl HO2'.out HL.out (by decide) HS2.out ?_)
  intro v3 w3 ho3 hg3
  obtain ⟨a3, n3, c3, rfl⟩ := ho3.isSlice
  have HO3 := Lib.hid ho3
  have HW3 : Hid (Below w.heap.size w w3) := HW2'.out.trans (hg3.below HW2'.out.size fun q hq => Nat.le_trans HW1.out.size (World.ownsRow.lt HO2'.out q hq).1)
  clear ho3 hg3
  go_wp2_with fail
  refine Calls.mono (read_any _ _ _ _ HO3.out.bytes) ?_
  rw [show Fr.read ([] ++ Fr.enc 7 hello ++ [1]) = (⟨7, hello⟩, 17, 0) by decide +kernel]
  rintro e w4 ⟨v4, rfl, hv4, hb4⟩
  obtain ⟨a4, c4, rfl⟩ := hv4.isSlice
  have HV4 := Lib.hid hv4
  have HW4 : Hid (Below w.heap.size w w4) := HW3.out.trans (hb4.mono HW3.out.size)
  clear hv4 hb4
  go_wp2_with fail
  refine calls_gen fun w5 hw5 => ?_
  have HV5 : Hid (Bytes (fun k => w3.heap.size ≤ k) w5 (Value.slice a4 hello.length c4) hello) := by
    rw [hw5]; exact (HV4.out.below ((Below.refl _ _).alloc (Nat.le_refl _) _)).below ((Below.refl _ _).alloc (Nat.le_refl _) _)
  have HK5 : Hid (Blk w5 w4.heap.size #[Value.int IntKind.u8 7, Value.slice a4 hello.length c4] 39) := by
    rw [hw5]; exact (Blk.at_new rfl rfl).alloc _
  have HM5 : Hid (Bytes (fun k => k = w4.heap.size + 1) w5 (.slice (some ⟨w4.heap.size + 1, 0, none⟩) 7 7) (List.replicate 7 0)) := by
    rw [hw5]; exact Bytes.lit _ _ rfl (Blk.at_new (by simp) rfl) rfl (by decide)
  have HW5 : Hid (Below w.heap.size w w5) := by
    rw [hw5]; exact (HW4.out.alloc HW4.out.size _).alloc (by have := HW4.out.size; simp; omega) _
  clear hw5
  refine Calls.mono (read_any _ _ _ _ HM5.out) ?_
  rw [show Fr.read (List.replicate 7 0) = (Fr.zero, 0, 12) by decide +kernel]
  rintro e w6 ⟨v6, rfl, hv6, hb6⟩
  obtain ⟨a6, c6, rfl⟩ := hv6.isSlice
  have HV6 := Lib.hid (HV5.out.below hb6)
  have HK6 : Hid (Blk w6 w4.heap.size #[Value.int IntKind.u8 7, Value.slice a4 hello.length c4] 39) := HK5.out.same (hb6.block _ HK5.out.lt)
  have HW6 : Hid (Below w.heap.size w w6) := HW5.out.trans (hb6.mono HW5.out.size)
  clear hv6 hb6
  go_wp2_with fail
  refine calls_gen fun w7 hw7 => ?_
  have HV7 : Hid (Bytes (fun k => w3.heap.size ≤ k) w7 (Value.slice a4 hello.length c4) hello) := by
    rw [hw7]; exact (HV6.out.below ((Below.refl _ _).alloc (Nat.le_refl _) _)).below ((Below.refl _ _).alloc (Nat.le_refl _) _)
  have HK7 : Hid (Blk w7 w4.heap.size #[Value.int IntKind.u8 7, Value.slice a4 hello.length c4] 39) := by
    rw [hw7]; exact (HK6.out.alloc _).alloc _
  have HM7 : Hid (Bytes (fun k => k = w6.heap.size + 1) w7 (.slice (some ⟨w6.heap.size + 1, 0, none⟩) 8 8) (List.replicate 8 0)) := by
    rw [hw7]; exact Bytes.lit _ _ rfl (Blk.at_new (by simp) rfl) rfl (by decide)
  have HW7 : Hid (Below w.heap.size w w7) := by
    rw [hw7]; exact (HW6.out.alloc HW6.out.size _).alloc (by have := HW6.out.size; simp; omega) _
  clear hw7
  refine Calls.mono (read_any _ _ _ _ HM7.out) ?_
  rw [show Fr.read (List.replicate 8 0) = (Fr.zero, 0, 4) by decide +kernel]
  rintro e w8 ⟨v8, rfl, hv8, hb8⟩
  obtain ⟨a8, c8, rfl⟩ := hv8.isSlice
  have HV8 := Lib.hid (HV7.out.below hb8)
  have HK8 : Hid (Blk w8 w4.heap.size #[Value.int IntKind.u8 7, Value.slice a4 hello.length c4] 39) := HK7.out.same (hb8.block _ HK7.out.lt)
  have HW8 : Hid (Below w.heap.size w w8) := HW7.out.trans (hb8.mono HW7.out.size)
  clear hv8 hb8
  go_wp2_with fail
  refine calls_gen fun w9 hw9 => ?_
  have hk0 : w9.cell? ⟨w4.heap.size, 0, none⟩ = some (.int .u8 7) := by rw [hw9]; exact (HK8.out.alloc _).cell rfl
  have hk1 : w9.cell? ⟨w4.heap.size, 1, none⟩ = some (Value.slice a4 hello.length c4) := by rw [hw9]; exact (HK8.out.alloc _).cell rfl
  have hv9 : Bytes (fun k => w3.heap.size ≤ k) w9 (Value.slice a4 hello.length c4) hello := by rw [hw9]; exact HV8.out.below ((Below.refl _ _).alloc (Nat.le_refl _) _)
  have HW9 : Hid (Below w.heap.size w w9) := by rw [hw9]; exact HW8.out.alloc HW8.out.size _
  have hs9 := hv9.text (by decide)
  clear hw9 hv9
  refine Calls.mono (fsize_any 5 _ (by omega) (by omega)) ?_
  rintro e w10 ⟨rfl, rfl⟩
  rw [show (max 0 5 + 12 : Int) = 17 by decide]
  go_wp2_with fail
  refine Calls.mono (fsize_any 0 _ (by omega) (by omega)) ?_
  rintro e w10 ⟨rfl, rfl⟩
  rw [show (max 0 0 + 12 : Int) = 12 by decide]
  go_wp2_with fail
  go_ret
  exact ⟨rfl, HW9.out⟩

def fx : List UInt8 := [120]
def fyz : List UInt8 := [121, 122]

set_option maxRecDepth 100000 in
theorem frameNames_any (w : World) :
    Calls Try.prog 6 #[] w fun e w' => e = .returned (.bool true) ∧ Below w.heap.size w w' := by
  have kc := conv_const
  go_enter Try.func6, Try.ntmps6
  go_wp2_with fail
  refine Calls.mono (fappend_any w.heap.size _ [] 1 _ _ fx _ (by simp) (Owned.nil _ _) (Bytes.const w _ _ _ _ _ rfl rfl (by omega)) (by simp [Value.ownBlock]) (by decide) (by decide)) ?_
  rintro e w1 ⟨v1, rfl, ho1, hg1⟩
  obtain ⟨g1, c1, rfl, hg11, hg12, hg13⟩ := ho1.place (by decide)
  rw [show ([] ++ Fr.enc 1 fx : List UInt8).length = 13 by decide] at *
  have HO1 := Lib.hid ho1
  have HW1 : Hid (Below w.heap.size w w1) := ((Below.refl _ _).alloc (Nat.le_refl _) _).trans (hg1.below (by simp) (by simp [Value.ownBlock]))
  clear ho1 hg1
  go_wp2_with fail
  refine Calls.mono (own_any _ _ _ _ HO1.out.bytes (by decide)) ?_
  rintro e w2 ⟨v2, rfl, ho2, hb2⟩
  obtain ⟨a2, n2, c2, rfl⟩ := ho2.isSlice
  have HO2 := Lib.hid ho2
  have HO21 : Hid (Owned w.heap.size w2 (.slice (some ⟨g1, 0, none⟩) 13 c1) ([] ++ Fr.enc 1 fx)) := HO1.out.below hb2
  have HW2 : Hid (Below w.heap.size w w2) := HW1.out.trans (hb2.mono HW1.out.size)
  have HS1 : Hid (w1.heap.size ≤ w2.heap.size) := hb2.size
  clear ho2 hb2
  go_wp2_with fail
  refine calls_gen fun w3 hw3 => ?_
  have HO3 : Hid (Owned w1.heap.size w3 (.slice a2 n2 c2) ([] ++ Fr.enc 1 fx)) := by rw [hw3]; exact HO2.out.below ((Below.refl _ _).alloc (Nat.le_refl _) _)
  have HO31 : Hid (Owned w.heap.size w3 (.slice (some ⟨g1, 0, none⟩) 13 c1) ([] ++ Fr.enc 1 fx)) := by rw [hw3]; exact HO21.out.below ((Below.refl _ _).alloc (Nat.le_refl _) _)
  have HL : Hid (Bytes (fun k => k = w2.heap.size) w3 (.slice (some ⟨w2.heap.size, 0, none⟩) 2 2) fyz) := by rw [hw3]; exact Bytes.const w2 _ _ _ _ _ rfl rfl (by omega)
  have HW3 : Hid (Below w.heap.size w w3) := by rw [hw3]; exact HW2.out.alloc HW2.out.size _
  have HS3 : Hid (w1.heap.size ≤ w3.heap.size) := by rw [hw3]; simp; exact Nat.le_succ_of_le HS1.out
  clear hw3
  refine Calls.mono (fappend_any w1.heap.size _ _ 2 _ _ fyz _ HS3.out HO3.out HL.out (fun k hk e => by have := (World.ownsRow.lt HO2.out k e).2; omega) (by decide) (by decide)) ?_
  rintro e w4 ⟨v4, rfl, ho4, hg4⟩
  have HW4 : Hid (Below w.heap.size w w4) := HW3.out.trans (hg4.below HW3.out.size fun k hk => Nat.le_trans HW1.out.size (World.ownsRow.lt HO3.out k hk).1)
  have HO41 : Hid (Owned w.heap.size w4 (.slice (some ⟨g1, 0, none⟩) 13 c1) ([] ++ Fr.enc 1 fx)) := HO31.out.keep fun k hk e => hg4.grown.block k hk (fun e2 => by
    have h1 := (World.ownsRow.lt HO1.out k e).2
    have h2 := (World.ownsRow.lt HO3.out k e2.symm).1
    omega)
  have HG4 : Hid (∀ k, v4.ownBlock = some k → w1.heap.size ≤ k) := fun k e => (World.ownsRow.lt ho4 k e).1
  obtain ⟨g4, cap4, rfl, hg41, hg42, _⟩ := ho4.place (by decide)
  have hc4 := ho4.cell 21 (by decide)
  rw [show (([] ++ Fr.enc 1 fx ++ Fr.enc 2 fyz : List UInt8).getD 21 0 : UInt8) = 121 by decide +kernel] at hc4
  have hf4 := ho4.free 21
  have HO4 := Lib.hid ho4
  rw [show ([] ++ Fr.enc 1 fx ++ Fr.enc 2 fyz : List UInt8).length = 27 by decide] at *
  clear hg4 ho4
  go_wp2_with fail
  refine calls_gen fun w5 hw5 => ?_
  have HO5 : Hid (Owned w1.heap.size w5 (.slice (some ⟨g4, 0, none⟩) 27 cap4) (([] ++ Fr.enc 1 fx ++ Fr.enc 2 fyz).set 21 125)) := by
    rw [hw5]; exact HO4.out.set 21 125
  have HW5 : Hid (Below w.heap.size w w5) := by rw [hw5]; exact HW4.out.setCell (Nat.le_trans HW1.out.size hg41) _
  have HO51 : Hid (Owned w.heap.size w5 (.slice (some ⟨g1, 0, none⟩) 13 c1) ([] ++ Fr.enc 1 fx)) := by
    rw [hw5]; exact HO41.out.keep fun k hk e => Below.heap_setCell _ _ _ _ (fun e2 => by
      have h1 := (World.ownsRow.lt HO1.out k e).2
      have h3 : k = g4 := e2
      omega)
  clear hw5 hc4 hf4
  refine Calls.mono (row_any _ _ _ _ HO5.out.bytes (by decide)) ?_
  rw [show Fr.row (([] ++ Fr.enc 1 fx ++ Fr.enc 2 fyz : List UInt8).set 21 125) = ([⟨1, fx⟩], 13, 4) by decide +kernel]
  rintro e w6 ⟨v6, rfl, ho6, hb6⟩
  have HW6 : Hid (Below w.heap.size w w6) := HW5.out.trans (hb6.mono HW5.out.size)
  have HO61 : Hid (Owned w.heap.size w6 (.slice (some ⟨g1, 0, none⟩) 13 c1) ([] ++ Fr.enc 1 fx)) := HO51.out.below hb6
  obtain ⟨a6, c6, rfl⟩ := ho6.isSlice
  clear hb6 ho6
  go_wp2_with fail
  have hv6 : Bytes (fun _ => True) w6 (.slice (some ⟨g1, 0, none⟩) 12 c1) (([] ++ Fr.enc 1 fx).take 12) := by
    have := Bytes.sub HO61.out.bytes 0 12 (by decide) (by omega)
    rw [List.drop_zero] at this
    exact this.mono fun _ _ _ => trivial
  refine Calls.mono (read_any _ _ _ _ hv6) ?_
  rw [show Fr.read (([] ++ Fr.enc 1 fx : List UInt8).take 12) = (Fr.zero, 0, 12) by decide +kernel]
  rintro e w7 ⟨v7, rfl, hv7, hb7⟩
  obtain ⟨a7, c7, rfl⟩ := hv7.isSlice
  have HW7 : Hid (Below w.heap.size w w7) := HW6.out.trans (hb7.mono HW6.out.size)
  clear hv7 hb7 hv6
  go_wp2_with (with_reducible refine pause_make ?_)
  refine list_gen fun W7 hW7 => ?_
  have HW71 : Hid (Below w.heap.size w W7) := by rw [hW7]; exact HW7.out.alloc HW7.out.size _
  clear hW7
  refine Pause.go (wpList_make_bytes 1048577 rfl _ _ rfl 1048577 1048577 rfl rfl rfl rfl (by omega) ?_)
  intro w8 ho8 hb8
  have HW8 : Hid (Below w.heap.size w w8) := HW71.out.trans (hb8.mono HW71.out.size)
  have HM8 := Lib.hid ho8.bytes
  clear hb8 ho8
  go_wp2_with fail
  refine Calls.mono (append_long _ 0 _ _ _ _ HM8.out (by rw [List.length_replicate]; omega)) ?_
  rintro e w9 ⟨rfl, hb9⟩
  have HW9 : Hid (Below w.heap.size w w9) := HW8.out.trans (hb9.mono HW8.out.size)
  clear hb9
  go_wp2_with fail
  refine Calls.mono (lives3_any _) ?_
  rintro e w10 ⟨rfl, hb10⟩
  have HW10 : Hid (Below w.heap.size w w10) := HW9.out.trans (hb10.mono HW9.out.size)
  clear hb10
  go_wp2_with fail
  go_ret
  exact ⟨rfl, HW10.out⟩
end Go.Proofs.Ytkpbkhbgiijbiaa
