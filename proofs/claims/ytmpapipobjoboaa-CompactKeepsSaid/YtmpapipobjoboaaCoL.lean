/- compact: Run; law 15: put, del. -/
import Derived.Test.YtmpapipobjoboaaCoK
import Derived.Test.YtmpapipobjoboaaMgCalls
namespace Go.Proofs.Ytmpapipobjoboaa
open Go.RowKit

theorem bareR_sub : ∀ (l : List Ent), (bareR l).Sublist l
  | [] => List.Sublist.refl _
  | e :: r => by
    rw [bareR_cons]
    split
    · exact (bareR_sub r).cons _
    · exact (bareR_sub r).cons_cons _
theorem rowOf_sorted {l : List Ent} (h : Sorted l) (looks : List Int) (bottom : Bool) : Sorted (rowOf looks bottom l) := by
  have h1 : Sorted (keepTo (visB looks l) l l.length) := keepTo_sorted h
  unfold rowOf
  split
  · exact List.Pairwise.sublist (bareR_sub _) h1
  · exact h1
theorem allOf_from {rs : List (List Ent)} (h : ∀ r ∈ rs, Sorted r) : ∀ x ∈ allOf rs, ∃ r ∈ rs, x ∈ r := by
  have : ∀ (rs : List (List Ent)) (a : List Ent), Sorted a → (∀ r ∈ rs, Sorted r) → ∀ x ∈ rs.foldl two a, x ∈ a ∨ ∃ r ∈ rs, x ∈ r := by
    intro rs
    induction rs with
    | nil => intro a _ _ x hx; exact .inl hx
    | cons r rs ih =>
      intro a ha h x hx
      obtain ⟨g1, g2⟩ := two_spec a r ha (h r (List.mem_cons_self ..))
      rcases ih _ g1 (fun y hy => h y (List.mem_cons_of_mem _ hy)) x hx with h1 | ⟨r', h1, h2⟩
      · rcases (g2 x).1 h1 with h1 | h1
        · exact .inl h1
        · exact .inr ⟨r, List.mem_cons_self .., h1.1⟩
      · exact .inr ⟨r', List.mem_cons_of_mem _ h1, h2⟩
  intro x hx
  rcases this rs [] List.Pairwise.nil h x hx with h1 | h1
  · cases h1
  · exact h1

/-- Does a run make files? -/
def RunOk (rs : List (List Ent)) (looks : List Int) (t : Int) : Prop := chkR rs = 0 ∧ upB looks = true ∧ 1 ≤ t ∧ t ≤ 16777216
noncomputable def runOf (looks : List Int) (bottom : Bool) (rs : List (List Ent)) : List Ent := rowOf looks bottom (allOf rs)
def RunPost (rs : List (List Ent)) (looks : List Int) (bottom : Bool) (t : Int) (w : World) (x : Ending) (w' : World) : Prop :=
  (RunOk rs looks t → ∃ a c, x = .returned (.tuple #[.slice a (cutTo t (runOf looks bottom rs) (runOf looks bottom rs).length).length c, .int .i64 0]) ∧ Rw (rowK entK) (fun k => w.heap.size ≤ k) w' (.slice a (cutTo t (runOf looks bottom rs) (runOf looks bottom rs).length).length c) (cutTo t (runOf looks bottom rs) (runOf looks bottom rs).length)) ∧
  (¬ RunOk rs looks t → x = .returned (.tuple #[.slice none 0 0, .int .i64 2])) ∧ Below w.heap.size w w'
/-- No entry is too long. -/
def Lite (rs : List (List Ent)) : Prop := ∀ r ∈ rs, ∀ e ∈ r, e.key.length + e.value.length ≤ 100000
theorem eat_mem {l : List Ent} {i : Nat} (h : i < l.length) : eat l i ∈ l := by rw [← eat_eq h]; exact List.getElem_mem h

set_option maxRecDepth 100000 in
set_option maxHeartbeats 2000000 in
theorem crun_any (F G : Nat → Prop) (v vk : Value) (rs : List (List Ent)) (looks : List Int) (bottom : Bool) (t : Int) (w : World) (h : Rw (rowK entK) F w v rs) (hk : Rw unK G w vk looks) (hok : ROk rs) (hl : Lite rs) (hml : looks.length ≤ 400000) :
    Calls Try.prog 39 #[v, vk, .bool bottom, .int .i64 t] w (RunPost rs looks bottom t w) := by
  obtain ⟨xa, ca, rfl⟩ := h.isSlice
  obtain ⟨ka, kc, rfl⟩ := hk.isSlice
  have HA := Lib.hid h
  have HK := Lib.hid hk
  have HO := Lib.hid hok
  have HL := Lib.hid hl
  have HML := Lib.hid hml
  clear h hk hok hl hml
  go_enter Try.func39, Try.ntmps39
  go_wp2_with fail
  refine Calls.mono (mall_any F _ rs _ HA.out HO.out) ?_
  rintro _ w1 ⟨v1, rfl, hv1, hb⟩
  have HW1 := Lib.hid hb
  have HK1 := Lib.hid (HK.out.below hb)
  clear hb
  rcases chkR_or rs with hc | hc
  · have HC := Lib.hid hc
    rw [hc]
    have hS := sorted_of_chk hc
    have hfrom := allOf_from (fun r hr => rowB_sorted.1 (chkR_iff.1 hc r hr))
    have HSo := Lib.hid hS
    have hlen : (allOf rs).length ≤ 100000 := Nat.le_trans (allOf_len rs) HO.out.sum
    have HLen := Lib.hid hlen
    have hre : refAll rs = allOf rs := by unfold refAll; rw [if_pos hc]
    rw [hre] at hv1
    have HLi : Hid (∀ x ∈ allOf rs, x.key.length + x.value.length ≤ 100000) := fun x hx => by
      obtain ⟨r, h1, h2⟩ := hfrom x hx
      exact HL.out r h1 x h2
    clear hc hS hfrom hlen hre
    obtain ⟨a1, c1, rfl⟩ := hv1.isSlice
    have HV1 := Lib.hid hv1
    clear hv1
    go_wp2_with fail
    refine Calls.mono (crow_any _ _ _ _ (allOf rs) looks bottom _ HV1.out HK1.out (Nat.le_trans HLen.out (by decide)) HML.out (fun x hx => by have := HLi.out x hx; exact ⟨by omega, by omega⟩)) ?_
    rintro _ w2 ⟨hg, hb', hb⟩
    have HW2 : Hid (Below w.heap.size w w2) := HW1.out.trans (hb.mono HW1.out.size)
    have HSZ : Hid (w.heap.size ≤ w1.heap.size) := HW1.out.size
    clear hb
    cases hu : upB looks with
    | false =>
      have hcv : chkV (allOf rs) looks ≠ 0 := by rw [chkV_up _ hu]; decide
      have e1 := hb' hcv
      subst e1
      have HP : Hid (∀ x w', Below w.heap.size w w' → x = .returned (.tuple #[.slice none 0 0, .int .i64 2]) → RunPost rs looks bottom t w x w') := fun x w' g1 g2 => ⟨(fun e => by have h5 := e.2.1; rw [hu] at h5; cases h5), fun _ => g2, g1⟩
      clear hg hb' hcv hu
      go_wp2_with fail
      go_ret2
      exact HP.out _ _ HW2.out rfl
    | true =>
      have hcv : chkV (allOf rs) looks = 0 := chkV_ok (rowB_sorted.2 HSo.out) hu
      obtain ⟨a2, c2, rfl, hr⟩ := hg hcv
      have HR := Lib.hid hr
      have HU := Lib.hid hu
      clear hg hb' hcv hr hu
      have hl2 : (rowOf looks bottom (allOf rs)).length ≤ 100000 := Nat.le_trans (rowOf_len looks bottom (allOf rs)) HLen.out
      have HL2 := Lib.hid hl2
      clear hl2
      have HE2 : Hid (∀ i, i < (rowOf looks bottom (allOf rs)).length → (eat (rowOf looks bottom (allOf rs)) i).key.length + (eat (rowOf looks bottom (allOf rs)) i).value.length ≤ 100000) := fun i hi => HLi.out _ (rowOf_mem (eat_mem hi))
      have HS2 : Hid (rowB (rowOf looks bottom (allOf rs)) = true) := rowB_sorted.2 (rowOf_sorted HSo.out looks bottom)
      have HP : Hid (∀ x w', CutPost t (rowOf looks bottom (allOf rs)) w2 x w' → RunPost rs looks bottom t w x w') := by
        rintro x w' ⟨h1, h2, h3⟩
        refine ⟨fun e => ?_, fun e => h2 fun e2 => e ⟨HC.out, HU.out, e2.2.1, e2.2.2⟩, HW2.out.trans (h3.mono HW2.out.size)⟩
        obtain ⟨a, c, g1, g2⟩ := h1 ⟨HS2.out, e.2.2.1, e.2.2.2⟩
        exact ⟨a, c, g1, g2.mono fun k _ hk => Nat.le_trans HW2.out.size hk⟩
      go_wp2_with fail
      refine Calls.mono (ccut_any _ _ (rowOf looks bottom (allOf rs)) t _ HR.out HL2.out HE2.out) ?_
      intro x w3 hp
      have HQ := Lib.hid (HP.out x w3 hp)
      have hs : ∃ v e, x = .returned (.tuple #[v, e]) := by
        by_cases hq : rowB (rowOf looks bottom (allOf rs)) = true ∧ 1 ≤ t ∧ t ≤ 16777216
        · obtain ⟨a, c, g1, _⟩ := hp.1 hq
          exact ⟨_, _, g1⟩
        · exact ⟨_, _, hp.2.1 hq⟩
      obtain ⟨v3, e3, rfl⟩ := hs
      clear hp HP
      go_wp2_with fail
      go_ret2
      exact HQ.out
  · have HP : Hid (∀ x w', Below w.heap.size w w' → x = .returned (.tuple #[.slice none 0 0, .int .i64 2]) → RunPost rs looks bottom t w x w') := fun x w' g1 g2 => ⟨(fun e => by have h5 := e.1; rw [hc] at h5; cases h5), fun _ => g2, g1⟩
    rw [hc]
    clear hc hv1
    go_wp2_with fail
    go_ret2
    exact HP.out _ _ HW1.out rfl

theorem heap_two_1 (w : World) (o1 o2 : Obj) : ((w.alloc o1).alloc o2).heap[w.heap.size + 1]? = some o2 := by
  have h := heap_alloc_new (w.alloc o1) o2
  rw [size_one] at h
  exact h

set_option maxRecDepth 100000 in
theorem lput_any (ks : List UInt8) (seq : Int) (w : World) (h1 : ks.length ≤ 1000) :
    Calls Try.prog 12 #[.string ⟨ks.toArray⟩, .int .u64 seq] w fun x w' =>
      ∃ vk, x = .returned (.agg #[vk, .int .u64 seq, .int .i64 1, .slice none 0 0]) ∧ Bytes (fun k => w.heap.size ≤ k) w' vk ks ∧ Below w.heap.size w w' := by
  have hconv := fun (w : World) (s : ByteArray) => run_bytes_of_string (P := Try.prog) w 9 26 5 s Try.underlying9 Try.underlying26 Try.underlying5
  go_enter Try.func12, Try.ntmps12
  go_wp2_with (with_reducible refine pause_store ?_)
  refine list_gen fun W hW => ?_
  have hge : ∀ (w : World) (n : Nat), n ≤ 1000 → n ≤ grownCap w n 0 5 ∧ grownCap w n 0 5 ≤ maxLen := fun w n hn => ⟨grownCap_ge w n 0 _, grownCap_le_maxLen w n 0 _ (by simp only [maxLen]; omega)⟩
  generalize hc1 : grownCap _ ks.length 0 _ = c1 at hW ⊢
  have hb1 : ks.length ≤ c1 ∧ c1 ≤ maxLen := by rw [← hc1]; exact hge _ _ h1
  have HB : Hid (Below w.heap.size w W) := by rw [hW]; exact below_drew (below_two _ _ _)
  have HR : Hid (Blk W w.heap.size zeroE 29) := by rw [hW]; exact Blk.alloc (Blk.at_new rfl rfl) _
  have HK : Hid (Bytes (fun k => k = w.heap.size + 1) W (.slice (some ⟨w.heap.size + 1, 0, none⟩) ks.length c1) ks) := bytes_conv ks (by rw [hW]; exact heap_two_1 _ _ _) hb1.1 hb1.2
  clear hW hge hc1 hb1 hconv
  refine Pause.go (wpList_store_agg rfl _ _ _ rfl w.heap.size 0 rfl _ rfl _ _ HR.out (by kernel_rfl) (by simp [zeroE]) (entK.one (w := W) (x := ⟨ks, seq, 1, []⟩) (F := fun _ => True) ⟨_, _, rfl, HK.out.mono fun _ _ _ => trivial, Bytes.nil _ _⟩) ?_)
  rw [over_all zeroE _ (by simp [zeroE])]
  refine list_gen fun W6 hW6 => ?_
  have HR6 : Hid (Blk W6 w.heap.size (entCells ⟨ks, seq, 1, []⟩ (.slice (some ⟨w.heap.size + 1, 0, none⟩) ks.length c1) (.slice none 0 0)).toArray 29) := by rw [hW6]; exact HR.out.row _
  have HW6 : Hid (Below w.heap.size w W6) := by rw [hW6]; exact below_setRow HB.out (Nat.le_refl _) _
  have HK6 : Hid (Bytes (fun k => w.heap.size ≤ k) W6 (.slice (some ⟨w.heap.size + 1, 0, none⟩) ks.length c1) ks) := by
    rw [hW6]
    exact (HK.out.keep fun k _ hk => setRow_other W w.heap.size k _ (by omega)).mono fun k _ hk => by omega
  clear hW6
  go_wp2_with fail
  refine bodyPost_ret (results_cell1 (p := 4) rfl _ _ w.heap.size 29 (entCells ⟨ks, seq, 1, []⟩ (.slice (some ⟨w.heap.size + 1, 0, none⟩) ks.length c1) (.slice none 0 0)).toArray _ rfl HR6.out Try.underlying29 rfl (by kernel_rfl)) rfl ?_
  exact ⟨_, rfl, HK6.out, HW6.out⟩

set_option maxRecDepth 100000 in
theorem ldel_any (ks : List UInt8) (seq : Int) (w : World) (h1 : ks.length ≤ 1000) :
    Calls Try.prog 54 #[.string ⟨ks.toArray⟩, .int .u64 seq] w fun x w' =>
      ∃ vk, x = .returned (.agg #[vk, .int .u64 seq, .int .i64 2, .slice none 0 0]) ∧ Bytes (fun k => w.heap.size ≤ k) w' vk ks ∧ Below w.heap.size w w' := by
  have hconv := fun (w : World) (s : ByteArray) => run_bytes_of_string (P := Try.prog) w 9 26 5 s Try.underlying9 Try.underlying26 Try.underlying5
  go_enter Try.func54, Try.ntmps54
  go_wp2_with (with_reducible refine pause_store ?_)
  refine list_gen fun W hW => ?_
  have hge : ∀ (w : World) (n : Nat), n ≤ 1000 → n ≤ grownCap w n 0 5 ∧ grownCap w n 0 5 ≤ maxLen := fun w n hn => ⟨grownCap_ge w n 0 _, grownCap_le_maxLen w n 0 _ (by simp only [maxLen]; omega)⟩
  generalize hc1 : grownCap _ ks.length 0 _ = c1 at hW ⊢
  have hb1 : ks.length ≤ c1 ∧ c1 ≤ maxLen := by rw [← hc1]; exact hge _ _ h1
  have HB : Hid (Below w.heap.size w W) := by rw [hW]; exact below_drew (below_two _ _ _)
  have HR : Hid (Blk W w.heap.size zeroE 29) := by rw [hW]; exact Blk.alloc (Blk.at_new rfl rfl) _
  have HK : Hid (Bytes (fun k => k = w.heap.size + 1) W (.slice (some ⟨w.heap.size + 1, 0, none⟩) ks.length c1) ks) := bytes_conv ks (by rw [hW]; exact heap_two_1 _ _ _) hb1.1 hb1.2
  clear hW hge hc1 hb1 hconv
  refine Pause.go (wpList_store_agg rfl _ _ _ rfl w.heap.size 0 rfl _ rfl _ _ HR.out (by kernel_rfl) (by simp [zeroE]) (entK.one (w := W) (x := ⟨ks, seq, 2, []⟩) (F := fun _ => True) ⟨_, _, rfl, HK.out.mono fun _ _ _ => trivial, Bytes.nil _ _⟩) ?_)
  rw [over_all zeroE _ (by simp [zeroE])]
  refine list_gen fun W6 hW6 => ?_
  have HR6 : Hid (Blk W6 w.heap.size (entCells ⟨ks, seq, 2, []⟩ (.slice (some ⟨w.heap.size + 1, 0, none⟩) ks.length c1) (.slice none 0 0)).toArray 29) := by rw [hW6]; exact HR.out.row _
  have HW6 : Hid (Below w.heap.size w W6) := by rw [hW6]; exact below_setRow HB.out (Nat.le_refl _) _
  have HK6 : Hid (Bytes (fun k => w.heap.size ≤ k) W6 (.slice (some ⟨w.heap.size + 1, 0, none⟩) ks.length c1) ks) := by
    rw [hW6]
    exact (HK.out.keep fun k _ hk => setRow_other W w.heap.size k _ (by omega)).mono fun k _ hk => by omega
  clear hW6
  go_wp2_with fail
  refine bodyPost_ret (results_cell1 (p := 4) rfl _ _ w.heap.size 29 (entCells ⟨ks, seq, 2, []⟩ (.slice (some ⟨w.heap.size + 1, 0, none⟩) ks.length c1) (.slice none 0 0)).toArray _ rfl HR6.out Try.underlying29 rfl (by kernel_rfl)) rfl ?_
  exact ⟨_, rfl, HK6.out, HW6.out⟩
end Go.Proofs.Ytmpapipobjoboaa
