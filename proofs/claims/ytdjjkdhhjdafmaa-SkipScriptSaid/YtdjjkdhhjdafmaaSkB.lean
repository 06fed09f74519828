/- skip: own, the check of an entry. -/
import Derived.Test.YtdjjkdhhjdafmaaSkA
namespace Go.Proofs.Ytdjjkdhhjdafmaa
open Go.RowKit

theorem results_cell1 {P : Program} {fn : Func} {p : Tmp} {ty : TypeId} (h : fn.results = #[.cell p ty]) (tmps : Array Value) (w : World) (g : Nat) (T : TypeId) (cs : Array Value) (d : TypeDesc)
    (hp : tmps.getD p undef = .pointer (some ⟨g, 0, none⟩)) (hg : Blk w g cs T)
    (hu : P.underlying ty = some d) (hd : (match d with | .struct _ | .array _ _ => true | _ => false) = true) (hi : (P.info? ty).map (·.size) = some cs.size) :
    (results fn tmps).run P w = .ok (.agg cs) w := by
  have hp' : tmps[p]?.getD undef = .pointer (some ⟨g, 0, none⟩) := by simpa using hp
  simp [results, h, hp', asAddr, run_loadVar_row w g T ty cs (0, 0) d hg hu hd hi]

set_option maxRecDepth 100000 in
set_option maxHeartbeats 4000000 in
theorem skOwn_any (F G : Nat → Prop) (e : Ent) (vk vv : Value) (w : World) (hk : Bytes F w vk e.key) (hv : Bytes G w vv e.value) (h1 : e.key.length ≤ 140737488355328) (h2 : e.value.length ≤ 140737488355328) :
    Calls Try.prog 39 #[.agg (entCells e vk vv).toArray] w fun x w' => ∃ vk' vv', x = .returned (.agg (entCells e vk' vv').toArray) ∧ Bytes (fun k => w.heap.size ≤ k) w' vk' e.key ∧ Bytes (fun k => w.heap.size ≤ k) w' vv' e.value ∧ Below w.heap.size w w' := by
  obtain ⟨ka, kc, rfl⟩ := hk.isSlice
  obtain ⟨va, vc, rfl⟩ := hv.isSlice
  have HK := Lib.hid hk
  have HV := Lib.hid hv
  clear hk hv
  unfold entCells
  go_enter Try.func39, Try.ntmps39
  go_upto_region 1 with fail
  refine wp_gen fun w1 hw1 => ?_
  have HW1 : Hid (Below w.heap.size w w1) := by rw [hw1]; exact below_two _ _ _
  have HE1 : Hid (Blk w1 w.heap.size (entCells e (.slice ka e.key.length kc) (.slice va e.value.length vc)).toArray 34) := by rw [hw1]; exact (Blk.at_new rfl rfl).alloc _
  have HR1 : Hid (∃ cs, Blk w1 (w.heap.size + 1) cs 34 ∧ cs.size = 4) := by rw [hw1]; exact ⟨_, blk_two _ _ _ _, rfl⟩
  have HK1 : Hid (Bytes F w1.drew (.slice ka e.key.length kc) e.key) := (HK.out.below HW1.out).below (below_drew (Below.refl _ _))
  have HV1 : Hid (Bytes G w1.drew (.slice va e.value.length vc) e.value) := (HV.out.below HW1.out).below (below_drew (Below.refl _ _))
  clear hw1
  have k0 : w1.drew.cell? ⟨w.heap.size, 0, none⟩ = some (.slice ka e.key.length kc) := HE1.out.cell rfl
  have k3 : w1.drew.cell? ⟨w.heap.size, 3, none⟩ = some (.slice va e.value.length vc) := HE1.out.cell rfl
  have HE0 : Hid (Blk w1.drew w.heap.size (entCells e (.slice ka e.key.length kc) (.slice va e.value.length vc)).toArray 34) := HE1.out
  have HW0 : Hid (Below w.heap.size w w1.drew) := below_drew HW1.out
  clear HE1 HW1
  go_region_law (first
    | (go_simp; go_at_call 53; refine Calls.mono (clone_any F (.slice ka e.key.length kc) e.key _ HK1.out h1) ?_; rintro _ x1 ⟨v1, rfl, ho1, hb1⟩; obtain ⟨a1, n1, c1, rfl⟩ := ho1.isSlice; have HE2 := Lib.hid (HE0.out.below hb1 HE0.out.lt); have k3x : x1.cell? ⟨w.heap.size, 3, none⟩ = some (.slice va e.value.length vc) := HE2.out.cell rfl)
    | (go_simp; go_at_call 53; refine Calls.mono (clone_any G (.slice va e.value.length vc) e.value _ (HV1.out.below hb1) h2) ?_; rintro _ x2 ⟨v2, rfl, ho2, hb2⟩; obtain ⟨a2, n2, c2, rfl⟩ := ho2.isSlice; have HE3 := Lib.hid (HE2.out.below hb2 HE2.out.lt); have k0y : x2.cell? ⟨w.heap.size, 0, none⟩ = some (.slice ka e.key.length kc) := HE3.out.cell rfl; have k3y : x2.cell? ⟨w.heap.size, 3, none⟩ = some (.slice va e.value.length vc) := HE3.out.cell rfl; have f0y := HE3.out.free 0; have f3y := HE3.out.free 3))
  all_goals
    go_upto_region 2 with fail
    refine wp_gen fun w5 hw5 => ?_
    have HE5 : Hid (Blk w5 w.heap.size (entCells e (.slice a1 n1 c1) (.slice a2 n2 c2)).toArray 34) := by rw [hw5]; exact (HE3.out.set 0 _).set 3 _
    have hz : w.heap.size + 1 < w1.drew.heap.size := by obtain ⟨cs, g1, _⟩ := HR1.out; exact g1.lt
    have HR5 : Hid (∃ cs, Blk w5 (w.heap.size + 1) cs 34 ∧ cs.size = 4) := by
      obtain ⟨cs, g1, g2⟩ := HR1.out
      have g3 : Blk w1.drew (w.heap.size + 1) cs 34 := g1
      rw [hw5]
      exact ⟨cs, (((g3.below hb1 hz).below hb2 (Nat.lt_of_lt_of_le hz hb1.size)).set_other _ _ (by simp)).set_other _ _ (by simp), g2⟩
    have HK5 : Hid (Bytes (fun k => w.heap.size + 1 < k) w5 (.slice a1 n1 c1) e.key) := by
      rw [hw5]
      refine (((Owned.bytesFrom ho1).below hb2).mono (F' := fun k => w.heap.size + 1 < k) fun k _ hk => by omega).keep fun k _ hk => ?_
      rw [heap_setCell_other _ _ _ _ (by show k ≠ w.heap.size; omega), heap_setCell_other _ _ _ _ (by show k ≠ w.heap.size; omega)]
    have HV5 : Hid (Bytes (fun k => w.heap.size + 1 < k) w5 (.slice a2 n2 c2) e.value) := by
      rw [hw5]
      refine ((Owned.bytesFrom ho2).mono (F' := fun k => w.heap.size + 1 < k) fun k _ hk => by have := hb1.size; omega).keep fun k _ hk => ?_
      rw [heap_setCell_other _ _ _ _ (by show k ≠ w.heap.size; omega), heap_setCell_other _ _ _ _ (by show k ≠ w.heap.size; omega)]
    have HW5 : Hid (Below w.heap.size w w5) := by
      rw [hw5]
      exact (((HW0.out.trans (hb1.mono HW0.out.size)).trans (hb2.mono (Nat.le_trans HW0.out.size hb1.size))).setCell (Nat.le_refl _) _).setCell (Nat.le_refl _) _
    clear hw5 HE3 HE2 HE0 HR1 HK1 HV1 HW0 ho1 ho2 hb1 hb2 k0 k3 k3x k0y k3y f0y f3y hz
    obtain ⟨cs, hc1, hc2⟩ := HR5.out
    have HC5 := Lib.hid hc1
    clear hc1 HR5
    go_wp2_with (with_reducible refine pause_load ?_)
    refine Pause.go (wpList_load_agg rfl 34 _ rfl ⟨w.heap.size, 0, none⟩ rfl (entCells e (.slice a1 n1 c1) (.slice a2 n2 c2)) _ (fun j v hj => by rw [add_plain']; exact HE5.out.cell (by simpa using hj)) Try.underlying34 rfl (by kernel_rfl) ?_)
    go_wp2_with (with_reducible refine pause_store ?_)
    refine Pause.go (wpList_store_agg rfl _ _ _ rfl (w.heap.size + 1) 0 rfl _ rfl _ _ HC5.out (by kernel_rfl) (by rw [hc2]; exact Nat.le_refl _) (fun u hu => by simp [entCells] at hu; rcases hu with rfl | rfl | rfl | rfl <;> rfl) ?_)
    rw [over_all cs _ (by rw [hc2]; rfl)]
    refine list_gen fun W6 hW6 => ?_
    have HC6 : Hid (Blk W6 (w.heap.size + 1) (entCells e (.slice a1 n1 c1) (.slice a2 n2 c2)).toArray 34) := by rw [hW6]; exact HC5.out.row _
    have HK6 : Hid (Bytes (fun k => w.heap.size ≤ k) W6 (.slice a1 n1 c1) e.key) := by
      rw [hW6]
      exact (HK5.out.keep fun k _ hk => setRow_other w5 (w.heap.size + 1) k _ (by omega)).mono fun k _ hk => by omega
    have HV6 : Hid (Bytes (fun k => w.heap.size ≤ k) W6 (.slice a2 n2 c2) e.value) := by
      rw [hW6]
      exact (HV5.out.keep fun k _ hk => setRow_other w5 (w.heap.size + 1) k _ (by omega)).mono fun k _ hk => by omega
    have HW6 : Hid (Below w.heap.size w W6) := by rw [hW6]; exact below_setRow HW5.out (Nat.le_succ _) _
    clear hW6
    go_wp2_with fail
    refine bodyPost_ret (results_cell1 (p := 2) rfl _ _ (w.heap.size + 1) 34 (entCells e (.slice a1 n1 c1) (.slice a2 n2 c2)).toArray _ rfl HC6.out Try.underlying34 rfl (by kernel_rfl)) rfl ?_
    exact ⟨_, _, rfl, HK6.out, HV6.out, HW6.out⟩

/-- May an entry be? 2: it may not; 3: it is too long. -/
def Ent.right (e : Ent) : Bool := decide (0 < e.key.length) && (decide (e.kind = 1) || (decide (e.kind = 2) && decide (e.value.length = 0)))
def Ent.chk (e : Ent) : Nat := if e.right = false ∨ e.seq = 0 then 2 else if 4096 < e.key.length ∨ 65536 < e.value.length ∨ 72057594037927935 < e.seq then 3 else 0

theorem right_any (kind : Int) (F G : Nat → Prop) (e : Ent) (hkd : kind = e.kind) (vk vv : Value) (w : World) (hk : Bytes F w vk e.key) (hv : Bytes G w vv e.value) :
    Calls Try.prog 50 #[.int .i64 kind, vk, vv] w fun x w' => x = .returned (.bool e.right) ∧ w' = w := by
  subst hkd
  obtain ⟨ka, kc, rfl⟩ := hk.isSlice
  obtain ⟨va, vc, rfl⟩ := hv.isSlice
  have hl1 := hk.len
  have hl2 := hv.len
  simp only [maxLen] at hl1 hl2
  clear hk hv
  obtain ⟨r, hr⟩ : ∃ r, e.right = r := ⟨_, rfl⟩
  have HR := Lib.hid hr
  unfold Ent.right at hr
  by_cases h1 : 0 < e.key.length
  · have h1' : (0 : Int) < (e.key.length : Int) := by omega
    by_cases h2 : e.kind = 1
    · have hb : (e.kind == 1) = true := beq_iff_eq.2 h2
      have hrr : r = true := by rw [← hr]; simp [h1, h2]
      clear hr
      go_enter Try.func50, Try.ntmps50
      go_wp2_with fail
      go_ret
      exact ⟨ret_bool (by rw [HR.out, hrr]), rfl⟩
    · have hb : (e.kind == 1) = false := beq_eq_false_iff_ne.2 h2
      by_cases h3 : e.kind = 2
      · have hb3 : (e.kind == 2) = true := beq_iff_eq.2 h3
        by_cases h4 : e.value.length = 0
        · have hb4 : ((e.value.length : Int) == 0) = true := beq_iff_eq.2 (by omega)
          have hrr : r = true := by rw [← hr]; simp [h1, h3, h4]
          clear hr
          go_enter Try.func50, Try.ntmps50
          go_wp2_with fail
          go_ret
          exact ⟨ret_bool (by rw [HR.out, hrr]), rfl⟩
        · have hb4 : ((e.value.length : Int) == 0) = false := beq_eq_false_iff_ne.2 (by omega)
          have hrr : r = false := by rw [← hr]; simp [h3, h4]
          clear hr
          go_enter Try.func50, Try.ntmps50
          go_wp2_with fail
          go_ret
          exact ⟨ret_bool (by rw [HR.out, hrr]), rfl⟩
      · have hb3 : (e.kind == 2) = false := beq_eq_false_iff_ne.2 h3
        have hrr : r = false := by rw [← hr]; simp [h2, h3]
        clear hr
        go_enter Try.func50, Try.ntmps50
        go_wp2_with fail
        go_ret
        exact ⟨ret_bool (by rw [HR.out, hrr]), rfl⟩
  · have h1' : ¬ (0 : Int) < (e.key.length : Int) := by omega
    have hrr : r = false := by rw [← hr]; simp [h1]
    clear hr
    go_enter Try.func50, Try.ntmps50
    go_wp2_with fail
    go_ret
    exact ⟨ret_bool (by rw [HR.out, hrr]), rfl⟩

theorem lengths_any (F G : Nat → Prop) (e : Ent) (vk vv : Value) (w : World) (hk : Bytes F w vk e.key) (hv : Bytes G w vv e.value) :
    Calls Try.prog 51 #[vk, vv] w fun x w' => x = .returned (.bool (decide (e.key.length ≤ 4096) && decide (e.value.length ≤ 65536))) ∧ w' = w := by
  obtain ⟨ka, kc, rfl⟩ := hk.isSlice
  obtain ⟨va, vc, rfl⟩ := hv.isSlice
  clear hk hv
  by_cases h1 : e.key.length ≤ 4096
  · have h1' : (e.key.length : Int) ≤ 4096 := by omega
    by_cases h2 : e.value.length ≤ 65536
    · have h2' : (e.value.length : Int) ≤ 65536 := by omega
      go_enter Try.func51, Try.ntmps51
      go_wp2_with fail
      go_ret
      exact ⟨ret_bool (by simp [h1, h2]), rfl⟩
    · have h2' : ¬ (e.value.length : Int) ≤ 65536 := by omega
      go_enter Try.func51, Try.ntmps51
      go_wp2_with fail
      go_ret
      exact ⟨ret_bool (by simp), rfl⟩
  · have h1' : ¬ (e.key.length : Int) ≤ 4096 := by omega
    go_enter Try.func51, Try.ntmps51
    go_wp2_with fail
    go_ret
    exact ⟨ret_bool (by simp), rfl⟩
end Go.Proofs.Ytdjjkdhhjdafmaa
