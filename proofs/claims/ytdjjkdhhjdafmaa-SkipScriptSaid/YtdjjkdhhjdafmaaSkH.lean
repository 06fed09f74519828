/- skip: Get, Seek; the law's own entries. -/
import Derived.Test.YtdjjkdhhjdafmaaSkG
namespace Go.Proofs.Ytdjjkdhhjdafmaa
open Go.RowKit

def zeroE : Array Value := #[.slice none 0 0, .int .u64 0, .int .i64 0, .slice none 0 0]

theorem zeroE_one : ∀ u ∈ zeroE.toList, u.oneCell' = true := by
  intro u hu
  simp [zeroE] at hu
  rcases hu with rfl | rfl | rfl | rfl <;> rfl

theorem size_mem {t : Tw} : ∀ {ts : List Tw}, t ∈ ts → t.size ≤ sizeOf_ ts
  | x :: r, h => by
    unfold sizeOf_
    rw [List.map_cons, List.sum_cons]
    rcases List.mem_cons.1 h with rfl | h
    · omega
    · have := size_mem h
      unfold sizeOf_ at this
      omega

theorem Skp.short {lo : Lo} {b : Nat} {w : World} {hd : Tw} {ts : List Tw} (h : Skp lo w b hd ts) {t : Tw} (ht : t ∈ ts) : t.e.key.length ≤ 1000000000000 ∧ t.e.value.length ≤ 1000000000000 := by
  have h1 := size_mem ht
  have h2 := h.sm
  have h3 := h.few
  unfold Tw.size at h1
  omega

theorem below_three (w : World) (o1 o2 o3 : Obj) : Below w.heap.size w (((w.alloc o1).alloc o2).alloc o3) := (((Below.refl w.heap.size w).alloc (Nat.le_refl _) o1).alloc (by simp) o2).alloc (by simp; omega) o3
theorem size_one (w : World) (o : Obj) : (w.alloc o).heap.size = w.heap.size + 1 := by simp
theorem heap_three_2 (w : World) (o1 o2 o3 : Obj) : (((w.alloc o1).alloc o2).alloc o3).heap[w.heap.size + 1 + 1]? = some o3 := by
  have h := heap_alloc_new ((w.alloc o1).alloc o2) o3
  rw [size_one, size_one] at h
  exact h
theorem heap_three_1 (w : World) (o1 o2 o3 : Obj) : (((w.alloc o1).alloc o2).alloc o3).heap[w.heap.size + 1]? = some o2 := by
  have h := heap_alloc_new (w.alloc o1) o2
  rw [size_one] at h
  exact (((Below.refl _ ((w.alloc o1).alloc o2)).alloc (Nat.le_refl _) o3).block (w.heap.size + 1) (by rw [size_one, size_one]; omega)).trans h
theorem heap_three_0 (w : World) (o1 o2 o3 : Obj) : (((w.alloc o1).alloc o2).alloc o3).heap[w.heap.size]? = some o1 := by
  have h := heap_alloc_new w o1
  refine (((Below.refl _ ((w.alloc o1).alloc o2)).alloc (Nat.le_refl _) o3).block w.heap.size (by rw [size_one, size_one]; omega)).trans ?_
  exact (((Below.refl _ (w.alloc o1)).alloc (Nat.le_refl _) o2).block w.heap.size (by rw [size_one]; omega)).trans h

set_option maxRecDepth 100000 in
theorem entry_any (ks vs : List UInt8) (seq : Int) (w : World) (h1 : ks.length ≤ 1000) (h2 : vs.length ≤ 1000) :
    Calls Try.prog 20 #[.string ⟨ks.toArray⟩, .int .u64 seq, .string ⟨vs.toArray⟩] w fun x w' =>
      ∃ vk vv, x = .returned (.agg (entCells ⟨ks, seq, 1, vs⟩ vk vv).toArray) ∧ Bytes (fun k => w.heap.size ≤ k) w' vk ks ∧ Bytes (fun k => w.heap.size ≤ k) w' vv vs ∧ Below w.heap.size w w' := by
  have hconv := fun (w : World) (s : ByteArray) => run_bytes_of_string (P := Try.prog) w 9 31 5 s Try.underlying9 Try.underlying31 Try.underlying5
  go_enter Try.func20, Try.ntmps20
  go_wp2_with (with_reducible refine pause_store ?_)
  refine list_gen fun W hW => ?_
  have hge : ∀ (w : World) (n : Nat), n ≤ 1000 → n ≤ grownCap w n 0 5 ∧ grownCap w n 0 5 ≤ maxLen := fun w n hn => ⟨grownCap_ge w n 0 _, grownCap_le_maxLen w n 0 _ (by simp only [maxLen]; omega)⟩
  generalize hc1 : grownCap _ ks.length 0 _ = c1 at hW ⊢
  generalize hc2 : grownCap _ vs.length 0 _ = c2 at hW ⊢
  have hb1 : ks.length ≤ c1 ∧ c1 ≤ maxLen := by rw [← hc1]; exact hge _ _ h1
  have hb2 : vs.length ≤ c2 ∧ c2 ≤ maxLen := by rw [← hc2]; exact hge _ _ h2
  have HB : Hid (Below w.heap.size w W) := by rw [hW]; first | exact below_three _ _ _ _ | exact below_drew (below_three _ _ _ _) | exact below_drew (below_drew (below_three _ _ _ _))
  have HR : Hid (Blk W w.heap.size zeroE 34) := by rw [hW]; exact heap_three_0 _ _ _ _
  have HK : Hid (Bytes (fun k => k = w.heap.size + 1) W (.slice (some ⟨w.heap.size + 1, 0, none⟩) ks.length c1) ks) := bytes_conv ks (by rw [hW]; exact heap_three_1 _ _ _ _) hb1.1 hb1.2
  have HV : Hid (Bytes (fun k => k = w.heap.size + 1 + 1) W (.slice (some ⟨w.heap.size + 1 + 1, 0, none⟩) vs.length c2) vs) := bytes_conv vs (by rw [hW]; exact heap_three_2 _ _ _ _) hb2.1 hb2.2
  clear hW hge hc1 hc2 hb1 hb2 hconv
  refine Pause.go (wpList_store_agg rfl _ _ _ rfl w.heap.size 0 rfl _ rfl _ _ HR.out (by kernel_rfl) (by simp [zeroE]) (entK.one (w := W) (x := ⟨ks, seq, 1, vs⟩) (F := fun _ => True) ⟨_, _, rfl, HK.out.mono fun _ _ _ => trivial, HV.out.mono fun _ _ _ => trivial⟩) ?_)
  rw [over_all zeroE _ (by simp [zeroE])]
  refine list_gen fun W6 hW6 => ?_
  have HR6 : Hid (Blk W6 w.heap.size (entCells ⟨ks, seq, 1, vs⟩ (.slice (some ⟨w.heap.size + 1, 0, none⟩) ks.length c1) (.slice (some ⟨w.heap.size + 1 + 1, 0, none⟩) vs.length c2)).toArray 34) := by rw [hW6]; exact HR.out.row _
  have HW6 : Hid (Below w.heap.size w W6) := by rw [hW6]; exact below_setRow HB.out (Nat.le_refl _) _
  have HK6 : Hid (Bytes (fun k => w.heap.size ≤ k) W6 (.slice (some ⟨w.heap.size + 1, 0, none⟩) ks.length c1) ks) := by
    rw [hW6]
    exact (HK.out.keep fun k _ hk => setRow_other W w.heap.size k _ (by omega)).mono fun k _ hk => by omega
  have HV6 : Hid (Bytes (fun k => w.heap.size ≤ k) W6 (.slice (some ⟨w.heap.size + 1 + 1, 0, none⟩) vs.length c2) vs) := by
    rw [hW6]
    exact (HV.out.keep fun k _ hk => setRow_other W w.heap.size k _ (by omega)).mono fun k _ hk => by omega
  clear hW6
  go_wp2_with fail
  refine bodyPost_ret (results_cell1 (p := 6) rfl _ _ w.heap.size 34 (entCells ⟨ks, seq, 1, vs⟩ (.slice (some ⟨w.heap.size + 1, 0, none⟩) ks.length c1) (.slice (some ⟨w.heap.size + 1 + 1, 0, none⟩) vs.length c2)).toArray _ rfl HR6.out Try.underlying34 rfl (by kernel_rfl)) rfl ?_
  exact ⟨_, _, rfl, HK6.out, HV6.out, HW6.out⟩

/-- What Get finds. -/
def getOf (key : List UInt8) (seq : Int) (ts : List Tw) : Option Ent := match behind (plc key seq) ts with
  | [] => none
  | t :: _ => if t.e.key = key then some t.e else none
def getCode : Option Ent → Int
  | some _ => 0
  | none => 6

def EntPost (w : World) (e : Ent) (c : Value) (x : Ending) (w' : World) : Prop :=
  ∃ vk vv, x = .returned (.tuple #[.agg (entCells e vk vv).toArray, c]) ∧ Bytes (fun k => w.heap.size ≤ k) w' vk e.key ∧ Bytes (fun k => w.heap.size ≤ k) w' vv e.value ∧ Below w.heap.size w w'

theorem zero_post {w w' : World} {c c' : Value} (hw : Below w.heap.size w w') (hc : c = c') : EntPost w noEnt c' (.returned (.tuple #[.agg zeroE, c])) w' := by
  subst hc
  exact ⟨.slice none 0 0, .slice none 0 0, rfl, Bytes.nil _ _, Bytes.nil _ _, hw⟩

set_option maxRecDepth 100000 in
set_option maxHeartbeats 1000000 in
theorem skGet_any (lo : Lo) (b : Nat) (hd : Tw) (ts : List Tw) (G : Nat → Prop) (key : List UInt8) (seq : Int) (vk : Value) (w : World) (h : Skp lo w b hd ts) (hk : Bytes G w vk key) :
    Calls Try.prog 17 #[.pointer (some ⟨b, 0, none⟩), vk, .int .u64 seq] w (EntPost w ((getOf key seq ts).getD noEnt) (.int .i64 (getCode (getOf key seq ts)))) := by
  obtain ⟨ka, kc, rfl⟩ := hk.isSlice
  have HI := Lib.hid h
  have HK := Lib.hid hk
  clear h hk
  go_enter Try.func17, Try.ntmps17
  go_upto_region 1 with fail
  refine wp_gen fun w1 hw1 => ?_
  have HW1 : Hid (Below w.heap.size w w1) := by rw [hw1]; exact (Below.refl _ _).alloc (Nat.le_refl _) _
  have HR1 : Hid (Blk w1 w.heap.size zeroE 34) := by rw [hw1]; exact Blk.at_new rfl rfl
  clear hw1
  go_wp2_with fail
  refine Calls.mono (skNone_false (HI.out.below HW1.out)) ?_
  rintro _ w2 ⟨rfl, rfl⟩
  go_wp2_with fail
  refine Calls.mono (at_any lo b hd ts _ key seq (.slice ka key.length kc) w2 (HI.out.below HW1.out) (HK.out.below HW1.out)) ?_
  rintro _ w3 ⟨rfl, hb3⟩
  have HW3 : Hid (Below w.heap.size w w3) := HW1.out.trans (hb3.mono HW1.out.size)
  have HI3 := Lib.hid (HI.out.below HW3.out)
  have HR3 := Lib.hid (HR1.out.below hb3 HR1.out.lt)
  clear hb3 HW1 HR1
  cases hb : behind (plc key seq) ts with
  | nil =>
    have HG : Hid (getOf key seq ts = none) := by show _ = _; unfold getOf; rw [hb]
    rw [show nxt 0 ([] : List Tw) = .pointer none from rfl]
    go_wp2_with (with_reducible refine pause_store ?_)
    refine Pause.go (wpList_store_agg rfl _ _ _ rfl w.heap.size 0 rfl zeroE rfl _ _ HR3.out (by kernel_rfl) (by simp [zeroE]) zeroE_one ?_)
    rw [over_all zeroE _ rfl]
    refine list_gen fun W4 hW4 => ?_
    have HR4 : Hid (Blk W4 w.heap.size zeroE 34) := by rw [hW4]; exact HR3.out.row _
    have HW4 : Hid (Below w.heap.size w W4) := by rw [hW4]; exact below_setRow HW3.out (Nat.le_refl _) _
    clear hW4
    go_wp2_with fail
    refine bodyPost_ret (results_cell_tmp1 (p := 6) (t := 7) rfl _ _ w.heap.size 34 zeroE _ rfl HR4.out Try.underlying34 rfl (by kernel_rfl)) rfl ?_
    rw [HG.out]
    exact zero_post HW4.out rfl
  | cons t r =>
    have e0 : nxt 0 (t :: r) = .pointer (some ⟨t.b, 0, none⟩) := by have := nxt_zero HI3.out _ t r hb; rwa [hb] at this
    rw [e0]
    have htm : t ∈ ts := by rw [← ahead_behind (plc key seq) ts, hb]; simp
    have hsh := HI3.out.short htm
    obtain ⟨dk, dv, g1, g2, g3⟩ := HI3.out.tower (behind_eq hb)
    obtain ⟨da, dc, rfl⟩ := g2.isSlice
    have HG1 := Lib.hid g1
    have HG2 := Lib.hid g2
    have HG3 := Lib.hid g3
    have k0 : w3.cell? ⟨t.b, 0, none⟩ = some (.slice da t.e.key.length dc) := g1.c4.1
    clear g1 g2 g3 e0 htm
    go_wp2_with fail
    refine Calls.mono (equal_any _ _ (.slice da t.e.key.length dc) (.slice ka key.length kc) t.e.key key w3 HG2.out (HK.out.below HW3.out)) ?_
    rintro _ w4 ⟨rfl, n4, hx4⟩
    have HB4 : Hid (Below w3.heap.size w3 w4) := by rw [hx4]; exact below_dn (Below.refl _ _) _
    clear hx4 k0
    have HW4 : Hid (Below w.heap.size w w4) := HW3.out.trans (HB4.out.mono HW3.out.size)
    have HR4 := Lib.hid (HR3.out.below HB4.out HR3.out.lt)
    by_cases he : t.e.key = key
    · have HG : Hid (getOf key seq ts = some t.e) := by show _ = _; unfold getOf; rw [hb]; exact if_pos he
      have hd1 : decide (t.e.key = key) = true := decide_eq_true he
      have HG4 := Lib.hid (HG1.out.below HB4.out HG1.out.lt)
      have k0 : w4.cell? ⟨t.b, 0, none⟩ = some (.slice da t.e.key.length dc) := HG4.out.c4.1
      have k1 : w4.cell? ⟨t.b, 1, none⟩ = some (.int .u64 t.e.seq) := HG4.out.c4.2.1
      have k2 : w4.cell? ⟨t.b, 2, none⟩ = some (.int .i64 t.e.kind) := HG4.out.c4.2.2.1
      have k3 : w4.cell? ⟨t.b, 3, none⟩ = some dv := HG4.out.c4.2.2.2
      rw [hd1]
      clear he hd1
      go_wp2_with fail
      clear k0 k1 k2 k3
      refine Calls.mono (skOwn_any _ _ t.e (.slice da t.e.key.length dc) dv w4 (HG2.out.below HB4.out) (HG3.out.below HB4.out) (by omega) (by omega)) ?_
      rintro _ w5 ⟨vk', vv', rfl, hk5, hv5, hb5⟩
      have HK5 : Hid (Bytes (fun k => w.heap.size < k) w5 vk' t.e.key) := hk5.mono fun k _ hk => Nat.lt_of_lt_of_le HR4.out.lt hk
      have HV5 : Hid (Bytes (fun k => w.heap.size < k) w5 vv' t.e.value) := hv5.mono fun k _ hk => Nat.lt_of_lt_of_le HR4.out.lt hk
      have HW5 : Hid (Below w.heap.size w w5) := HW4.out.trans (hb5.mono HW4.out.size)
      have HR5 := Lib.hid (HR4.out.below hb5 HR4.out.lt)
      clear hk5 hv5 hb5
      go_wp2_with (with_reducible refine pause_store ?_)
      refine Pause.go (wpList_store_agg rfl _ _ _ rfl w.heap.size 0 rfl _ rfl _ _ HR5.out (by kernel_rfl) (by simp [zeroE, entCells]) (entK.one (w := w5) (x := t.e) ⟨vk', vv', rfl, HK5.out, HV5.out⟩) ?_)
      rw [over_all zeroE _ (by simp [zeroE, entCells])]
      refine list_gen fun W6 hW6 => ?_
      have HR6 : Hid (Blk W6 w.heap.size (entCells t.e vk' vv').toArray 34) := by rw [hW6]; exact HR5.out.row _
      have HW6 : Hid (Below w.heap.size w W6) := by rw [hW6]; exact below_setRow HW5.out (Nat.le_refl _) _
      have HK6 : Hid (Bytes (fun k => w.heap.size ≤ k) W6 vk' t.e.key) := by
        rw [hW6]
        exact (HK5.out.keep fun k _ hk => setRow_other w5 w.heap.size k _ (by omega)).mono fun k _ hk => Nat.le_of_lt hk
      have HV6 : Hid (Bytes (fun k => w.heap.size ≤ k) W6 vv' t.e.value) := by
        rw [hW6]
        exact (HV5.out.keep fun k _ hk => setRow_other w5 w.heap.size k _ (by omega)).mono fun k _ hk => Nat.le_of_lt hk
      clear hW6
      go_wp2_with fail
      refine bodyPost_ret (results_cell_tmp1 (p := 6) (t := 7) rfl _ _ w.heap.size 34 (entCells t.e vk' vv').toArray _ rfl HR6.out Try.underlying34 rfl (by kernel_rfl)) rfl ?_
      rw [HG.out]
      exact ⟨vk', vv', rfl, HK6.out, HV6.out, HW6.out⟩
    · have HG : Hid (getOf key seq ts = none) := by show _ = _; unfold getOf; rw [hb]; exact if_neg he
      have hd1 : decide (t.e.key = key) = false := decide_eq_false he
      rw [hd1]
      go_wp2_with (with_reducible refine pause_store ?_)
      refine Pause.go (wpList_store_agg rfl _ _ _ rfl w.heap.size 0 rfl zeroE rfl _ _ HR4.out (by kernel_rfl) (by simp [zeroE]) zeroE_one ?_)
      rw [over_all zeroE _ rfl]
      refine list_gen fun W5 hW5 => ?_
      have HR5 : Hid (Blk W5 w.heap.size zeroE 34) := by rw [hW5]; exact HR4.out.row _
      have HW5 : Hid (Below w.heap.size w W5) := by rw [hW5]; exact below_setRow HW4.out (Nat.le_refl _) _
      clear hW5
      go_wp2_with fail
      refine bodyPost_ret (results_cell_tmp1 (p := 6) (t := 7) rfl _ _ w.heap.size 34 zeroE _ rfl HR5.out Try.underlying34 rfl (by kernel_rfl)) rfl ?_
      rw [HG.out]
      exact zero_post HW5.out rfl
end Go.Proofs.Ytdjjkdhhjdafmaa
