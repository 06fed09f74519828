/- Chapter 11's law: put, lives. -/
import Derived.Test.YtmpapipobjoboaaMgR
import Derived.Laws.IdiomStrings
namespace Go.Proofs.Ytmpapipobjoboaa
open Go.RowKit

theorem results_cell1 {P : Program} {fn : Func} {p : Tmp} {ty : TypeId} (h : fn.results = #[.cell p ty]) (tmps : Array Value) (w : World) (g : Nat) (T : TypeId) (cs : Array Value) (d : TypeDesc)
    (hp : tmps.getD p undef = .pointer (some ⟨g, 0, none⟩)) (hg : Blk w g cs T)
    (hu : P.underlying ty = some d) (hd : (match d with | .struct _ | .array _ _ => true | _ => false) = true) (hi : (P.info? ty).map (·.size) = some cs.size) :
    (results fn tmps).run P w = .ok (.agg cs) w := by
  have hp' : tmps[p]?.getD undef = .pointer (some ⟨g, 0, none⟩) := by simpa using hp
  simp [results, h, hp', asAddr, run_loadVar_row w g T ty cs (0, 0) d hg hu hd hi]

def zeroE : Array Value := #[.slice none 0 0, .int .u64 0, .int .i64 0, .slice none 0 0]

theorem zeroE_one : ∀ u ∈ zeroE.toList, u.oneCell' = true := by
  intro u hu
  simp [zeroE] at hu
  rcases hu with rfl | rfl | rfl | rfl <;> rfl

theorem bytes_conv {W : World} {g cap : Nat} {T : TypeId} {fr : Nat × Nat} (bs : List UInt8) (hg : W.heap[g]? = some (.cells (bytesRow ⟨bs.toArray⟩ cap) T fr)) (h1 : bs.length ≤ cap) (h2 : cap ≤ maxLen) :
    Bytes (fun k => k = g) W (.slice (some ⟨g, 0, none⟩) bs.length cap) bs := by
  refine ⟨some ⟨g, 0, none⟩, _, rfl, h1, h2, by simp, by simp [u8s], fun j u hj => ⟨_, rfl, rfl, ?_⟩⟩
  have hjl : j < bs.length := by
    have := (List.getElem?_eq_some_iff.1 hj).1
    simpa [u8s] using this
  rw [add_plain', Nat.zero_add, cell_of_row W g j _ T fr hg, bytesRow_at _ _ _ (by simpa using hjl)]
  rw [u8s_get _ _ hjl] at hj
  rw [← hj]
  simp [List.getD, hjl]

theorem below_three (w : World) (o1 o2 o3 : Obj) : Below w.heap.size w (((w.alloc o1).alloc o2).alloc o3) := (((Below.refl w.heap.size w).alloc (Nat.le_refl _) o1).alloc (by simp) o2).alloc (by simp; omega) o3
theorem size_one (w : World) (o : Obj) : (w.alloc o).heap.size = w.heap.size + 1 := by simp
theorem heap_three_2 (w : World) (o1 o2 o3 : Obj) : (((w.alloc o1).alloc o2).alloc o3).heap[w.heap.size + 1 + 1]? = some o3 := by
  have h := heap_alloc_new ((w.alloc o1).alloc o2) o3
  rw [size_one, size_one] at h
  exact h
theorem heap_three_1 (w : World) (o1 o2 o3 : Obj) : (((w.alloc o1).alloc o2).alloc o3).heap[w.heap.size + 1]? = some o2 := by
  have h := heap_alloc_new (w.alloc o1) o2
  rw [size_one] at h
  exact (((Below.refl _ ((w.alloc o1).alloc o2)).alloc (Nat.le_refl _) o3).block (w.heap.size + 1) (by rw [size_one, size_one]; omega)).trans h
theorem heap_three_0 (w : World) (o1 o2 o3 : Obj) : (((w.alloc o1).alloc o2).alloc o3).heap[w.heap.size]? = some o1 := by
  have h := heap_alloc_new w o1
  refine (((Below.refl _ ((w.alloc o1).alloc o2)).alloc (Nat.le_refl _) o3).block w.heap.size (by rw [size_one, size_one]; omega)).trans ?_
  exact (((Below.refl _ (w.alloc o1)).alloc (Nat.le_refl _) o2).block w.heap.size (by rw [size_one]; omega)).trans h

set_option maxRecDepth 100000 in
theorem mput_any (ks vs : List UInt8) (seq : Int) (w : World) (h1 : ks.length ≤ 1000) (h2 : vs.length ≤ 1000) :
    Calls Try.prog 24 #[.string ⟨ks.toArray⟩, .int .u64 seq, .string ⟨vs.toArray⟩] w fun x w' =>
      ∃ vk vv, x = .returned (.agg (entCells ⟨ks, seq, 1, vs⟩ vk vv).toArray) ∧ Bytes (fun k => w.heap.size ≤ k) w' vk ks ∧ Bytes (fun k => w.heap.size ≤ k) w' vv vs ∧ Below w.heap.size w w' := by
  have hconv := fun (w : World) (s : ByteArray) => run_bytes_of_string (P := Try.prog) w 9 26 5 s Try.underlying9 Try.underlying26 Try.underlying5
  go_enter Try.func24, Try.ntmps24
  go_wp2_with (with_reducible refine pause_store ?_)
  refine list_gen fun W hW => ?_
  have hge : ∀ (w : World) (n : Nat), n ≤ 1000 → n ≤ grownCap w n 0 5 ∧ grownCap w n 0 5 ≤ maxLen := fun w n hn => ⟨grownCap_ge w n 0 _, grownCap_le_maxLen w n 0 _ (by simp only [maxLen]; omega)⟩
  generalize hc1 : grownCap _ ks.length 0 _ = c1 at hW ⊢
  generalize hc2 : grownCap _ vs.length 0 _ = c2 at hW ⊢
  have hb1 : ks.length ≤ c1 ∧ c1 ≤ maxLen := by rw [← hc1]; exact hge _ _ h1
  have hb2 : vs.length ≤ c2 ∧ c2 ≤ maxLen := by rw [← hc2]; exact hge _ _ h2
  have HB : Hid (Below w.heap.size w W) := by rw [hW]; first | exact below_three _ _ _ _ | exact below_drew (below_three _ _ _ _) | exact below_drew (below_drew (below_three _ _ _ _))
  have HR : Hid (Blk W w.heap.size zeroE 29) := by rw [hW]; exact heap_three_0 _ _ _ _
  have HK : Hid (Bytes (fun k => k = w.heap.size + 1) W (.slice (some ⟨w.heap.size + 1, 0, none⟩) ks.length c1) ks) := bytes_conv ks (by rw [hW]; exact heap_three_1 _ _ _ _) hb1.1 hb1.2
  have HV : Hid (Bytes (fun k => k = w.heap.size + 1 + 1) W (.slice (some ⟨w.heap.size + 1 + 1, 0, none⟩) vs.length c2) vs) := bytes_conv vs (by rw [hW]; exact heap_three_2 _ _ _ _) hb2.1 hb2.2
  clear hW hge hc1 hc2 hb1 hb2 hconv
  refine Pause.go (wpList_store_agg rfl _ _ _ rfl w.heap.size 0 rfl _ rfl _ _ HR.out (by kernel_rfl) (by simp [zeroE]) (entK.one (w := W) (x := ⟨ks, seq, 1, vs⟩) (F := fun _ => True) ⟨_, _, rfl, HK.out.mono fun _ _ _ => trivial, HV.out.mono fun _ _ _ => trivial⟩) ?_)
  rw [over_all zeroE _ (by simp [zeroE])]
  refine list_gen fun W6 hW6 => ?_
  have HR6 : Hid (Blk W6 w.heap.size (entCells ⟨ks, seq, 1, vs⟩ (.slice (some ⟨w.heap.size + 1, 0, none⟩) ks.length c1) (.slice (some ⟨w.heap.size + 1 + 1, 0, none⟩) vs.length c2)).toArray 29) := by rw [hW6]; exact HR.out.row _
  have HW6 : Hid (Below w.heap.size w W6) := by rw [hW6]; exact below_setRow HB.out (Nat.le_refl _) _
  have HK6 : Hid (Bytes (fun k => w.heap.size ≤ k) W6 (.slice (some ⟨w.heap.size + 1, 0, none⟩) ks.length c1) ks) := by
    rw [hW6]
    exact (HK.out.keep fun k _ hk => setRow_other W w.heap.size k _ (by omega)).mono fun k _ hk => by omega
  have HV6 : Hid (Bytes (fun k => w.heap.size ≤ k) W6 (.slice (some ⟨w.heap.size + 1 + 1, 0, none⟩) vs.length c2) vs) := by
    rw [hW6]
    exact (HV.out.keep fun k _ hk => setRow_other W w.heap.size k _ (by omega)).mono fun k _ hk => by omega
  clear hW6
  go_wp2_with fail
  refine bodyPost_ret (results_cell1 (p := 6) rfl _ _ w.heap.size 29 (entCells ⟨ks, seq, 1, vs⟩ (.slice (some ⟨w.heap.size + 1, 0, none⟩) ks.length c1) (.slice (some ⟨w.heap.size + 1 + 1, 0, none⟩) vs.length c2)).toArray _ rfl HR6.out Try.underlying29 rfl (by kernel_rfl)) rfl ?_
  exact ⟨_, _, rfl, HK6.out, HV6.out, HW6.out⟩


/-- A literal. -/
theorem rw_lit {α : Type} {K : Kind α} {F : Nat → Prop} {w : World} {b n : Nat} {c : Array Value} {T : TypeId} {xs : List α} (hb : Blk w b c T) (hE : Els K F w c.toList xs) (hn : n = xs.length) (hm : n ≤ 1000) :
    Rw K (fun j => j = b ∨ F j) w (.slice (some ⟨b, 0, none⟩) n n) xs := by
  subst hn
  refine ⟨c.toList, ⟨_, _, rfl, Nat.le_refl _, by simp only [maxLen]; omega, (fun h => by cases h), hE.len, fun j u hj => ⟨_, rfl, .inl rfl, ?_⟩⟩, hE.mono fun _ _ h => .inr h⟩
  rw [add_plain', Nat.zero_add]
  exact hb.cell (by simpa using hj)

def Any : Nat → Prop := fun _ => True
theorem Bytes.any {F : Nat → Prop} {w : World} {v : Value} {bs : List UInt8} (h : Bytes F w v bs) : Bytes Any w v bs := h.mono fun _ _ _ => trivial
theorem Rw.any {α : Type} {K : Kind α} {F : Nat → Prop} {w : World} {v : Value} {xs : List α} (h : Rw K F w v xs) : Rw K Any w v xs := h.mono fun _ _ _ => trivial

def eA1 : Ent := ⟨[97], 1, 1, [120]⟩
def eA2 : Ent := ⟨[97], 2, 1, [121]⟩
def eB1 : Ent := ⟨[98], 1, 1, [122]⟩
def eA1' : Ent := ⟨[97], 1, 1, [121]⟩
theorem cmp12 : Ent.cmp eA1 eA2 = 1 := by decide
theorem cmp1b : Ent.cmp eA1 eB1 = -1 := by decide
theorem cmp2b : Ent.cmp eA2 eB1 = -1 := by decide
theorem cmp11 : Ent.cmp eA1 eA1' = 0 := by decide
theorem all_one : allOf [[eA1], [eA2, eB1]] = [eA2, eA1, eB1] := by
  show two (two [] [eA1]) [eA2, eB1] = _
  rw [two_nil, two, if_neg (by rw [cmp12]; decide), if_neg (by rw [cmp12]; decide), two, if_pos (by rw [cmp1b]; decide), two_nil]
theorem all_two : allOf [[eA1], [eA1']] = [eA1] := by
  show two (two [] [eA1]) [eA1'] = _
  rw [two_nil, two, if_neg (by rw [cmp11]; decide), if_pos cmp11, two_nil]
theorem row_single (e : Ent) : rowB [e] = true := rowB_sorted.2 (List.pairwise_singleton _ _)
theorem chk_one : chkR [[eA1], [eA2, eB1]] = 0 := chkR_ok fun r hr => by
  rcases List.mem_cons.1 hr with rfl | hr
  · exact row_single _
  · rw [List.mem_singleton.1 hr]
    exact rowB_sorted.2 (List.pairwise_pair.2 (by rw [cmp2b]; decide))
theorem chk_two : chkR [[eA1], [eA1']] = 0 := chkR_ok fun r hr => by
  rcases List.mem_cons.1 hr with rfl | hr
  · exact row_single _
  · rw [List.mem_singleton.1 hr]; exact row_single _
theorem rok_of {rs : List (List Ent)} (h1 : rs.length ≤ 100000) (h2 : (rs.map List.length).sum ≤ 100000) (h3 : ∀ r ∈ rs, ∀ e ∈ r, e.key.length ≤ 1000 ∧ e.value.length ≤ 1000) : ROk rs :=
  ⟨h1, h2, fun r hr e he => ⟨Nat.le_trans (h3 r hr e he).1 (by decide), Nat.le_trans (h3 r hr e he).2 (by decide)⟩⟩

theorem mall_ok (F : Nat → Prop) (v : Value) (rs : List (List Ent)) (l : List Ent) (n : Nat) (hn : l.length = n) (w : World) (h : Rw (rowK entK) F w v rs) (hok : ROk rs) (hc : chkR rs = 0) (hl : allOf rs = l) :
    Calls Try.prog 26 #[v] w fun x w' => ∃ a c, x = .returned (.tuple #[.slice a n c, .int .i64 0]) ∧ Rw entK (fun k => w.heap.size ≤ k) w' (.slice a n c) l ∧ Below w.heap.size w w' := by
  subst hn
  refine (mall_any F v rs w h hok).mono fun x w' ⟨v', h1, h2, h3⟩ => ?_
  have he : refAll rs = l := by unfold refAll; rw [if_pos hc, hl]
  rw [he] at h2
  obtain ⟨a, c, rfl⟩ := h2.isSlice
  exact ⟨a, c, by rw [h1, hc], h2.mono fun k _ e => e.resolve_left id, h3⟩

theorem rows_lit1 {w : World} {b : Nat} {T : TypeId} {s1 : Value} {l1 : List Ent} (hb : Blk w b #[s1] T) (h1 : Rw entK Any w s1 l1) : Rw (rowK entK) Any w (.slice (some ⟨b, 0, none⟩) 1 1) [l1] :=
  (rw_lit (K := rowK entK) (F := Any) (n := 1) (xs := [l1]) hb ⟨⟨s1, rfl, h1⟩, rfl⟩ rfl (by decide)).any
theorem rows_lit2 {w : World} {b : Nat} {T : TypeId} {s1 s2 : Value} {l1 l2 : List Ent} (hb : Blk w b #[s1, s2] T) (h1 : Rw entK Any w s1 l1) (h2 : Rw entK Any w s2 l2) : Rw (rowK entK) Any w (.slice (some ⟨b, 0, none⟩) 2 2) [l1, l2] :=
  (rw_lit (K := rowK entK) (F := Any) (n := 2) (xs := [l1, l2]) hb ⟨⟨s1, rfl, h1⟩, ⟨s2, rfl, h2⟩, rfl⟩ rfl (by decide)).any
theorem ents_lit1 {w : World} {b : Nat} {T : TypeId} {e : Ent} {k v : Value} (hb : Blk w b #[k, .int .u64 e.seq, .int .i64 e.kind, v] T) (hk : Bytes Any w k e.key) (hv : Bytes Any w v e.value) : Rw entK Any w (.slice (some ⟨b, 0, none⟩) 1 1) [e] :=
  (rw_lit (K := entK) (F := Any) (n := 1) (xs := [e]) hb ⟨⟨k, v, rfl, hk, hv⟩, rfl⟩ rfl (by decide)).any
theorem ents_lit2 {w : World} {b : Nat} {T : TypeId} {e e' : Ent} {k v k' v' : Value} (hb : Blk w b #[k, .int .u64 e.seq, .int .i64 e.kind, v, k', .int .u64 e'.seq, .int .i64 e'.kind, v'] T) (hk : Bytes Any w k e.key) (hv : Bytes Any w v e.value) (hk' : Bytes Any w k' e'.key) (hv' : Bytes Any w v' e'.value) :
    Rw entK Any w (.slice (some ⟨b, 0, none⟩) 2 2) [e, e'] :=
  (rw_lit (K := entK) (F := Any) (n := 2) (xs := [e, e']) hb ⟨⟨k, v, rfl, hk, hv⟩, ⟨k', v', rfl, hk', hv'⟩, rfl⟩ rfl (by decide)).any

set_option maxRecDepth 100000 in
set_option maxHeartbeats 4000000 in
theorem mlives_any (w : World) :
    Calls Try.prog 15 #[] w fun x w' => x = .returned (.bool true) ∧ Below w.heap.size w w' := by
  go_enter Try.func15, Try.ntmps15
  go_wp2_with fail
  refine Calls.mono (mput_any [97] [120] 1 w (by decide) (by decide)) ?_
  rintro _ w1 ⟨vk, vv, rfl, hk, hv, hb⟩
  obtain ⟨ka, kc, rfl⟩ := hk.isSlice
  obtain ⟨va, vc, rfl⟩ := hv.isSlice
  have HW1 := Lib.hid hb
  have HK1 := Lib.hid hk.any
  have HV1 := Lib.hid hv.any
  clear hb hk hv
  unfold entCells
  go_wp2_with fail
  refine calls_gen fun w2 hw2 => ?_
  have HB2 : Hid (Below w1.heap.size w1 w2) := by rw [hw2]; exact (Below.refl _ _).alloc (Nat.le_refl _) _
  have HX2 : Hid (Rw entK Any w2 (.slice (some ⟨w1.heap.size, 0, none⟩) 1 1) [eA1]) := by
    rw [hw2]
    exact (rw_one (e := eA1) (Blk.at_new rfl rfl) (HK1.out.below ((Below.refl _ _).alloc (Nat.le_refl _) _)) (HV1.out.below ((Below.refl _ _).alloc (Nat.le_refl _) _))).any
  have HW2 : Hid (Below w.heap.size w w2) := HW1.out.trans (HB2.out.mono HW1.out.size)
  clear hw2 HB2 HK1 HV1 HW1
  generalize w1.heap.size = b1 at *
  refine Calls.mono (mput_any [97] [121] 2 w2 (by decide) (by decide)) ?_
  rintro _ w3 ⟨vk, vv, rfl, hk, hv, hb⟩
  obtain ⟨k3a, k3c, rfl⟩ := hk.isSlice
  obtain ⟨v3a, v3c, rfl⟩ := hv.isSlice
  have HW3 : Hid (Below w.heap.size w w3) := HW2.out.trans (hb.mono HW2.out.size)
  have HX3 := Lib.hid (HX2.out.below hb)
  have HK3 := Lib.hid hk.any
  have HV3 := Lib.hid hv.any
  clear hb hk hv HX2 HW2
  unfold entCells
  go_wp2_with fail
  refine Calls.mono (mput_any [98] [122] 1 w3 (by decide) (by decide)) ?_
  rintro _ w4 ⟨vk, vv, rfl, hk, hv, hb⟩
  obtain ⟨k4a, k4c, rfl⟩ := hk.isSlice
  obtain ⟨v4a, v4c, rfl⟩ := hv.isSlice
  have HW4 : Hid (Below w.heap.size w w4) := HW3.out.trans (hb.mono HW3.out.size)
  have HX4 := Lib.hid (HX3.out.below hb)
  have HK4 := Lib.hid (HK3.out.below hb)
  have HV4 := Lib.hid (HV3.out.below hb)
  have HK4' := Lib.hid hk.any
  have HV4' := Lib.hid hv.any
  clear hb hk hv HX3 HW3 HK3 HV3
  unfold entCells
  go_wp2_with fail
  refine calls_gen fun w5 hw5 => ?_
  have HB5 : Hid (Below w4.heap.size w4 w5) := by rw [hw5]; exact below_two _ _ _
  have HR5 : Hid (Rw (rowK entK) Any w5 (.slice (some ⟨w4.heap.size + 1, 0, none⟩) 2 2) [[eA1], [eA2, eB1]]) := by
    have hX := HX4.out.below HB5.out
    have hb := HB5.out
    rw [hw5] at hX hb ⊢
    exact rows_lit2 (Blk.at_new (by simp) rfl) hX (ents_lit2 (e := eA2) (e' := eB1) ((Blk.at_new rfl rfl).alloc _) (HK4.out.below hb) (HV4.out.below hb) (HK4'.out.below hb) (HV4'.out.below hb))
  have HW5 : Hid (Below w.heap.size w w5) := HW4.out.trans (HB5.out.mono HW4.out.size)
  clear hw5 HB5 HX4 HK4 HV4 HK4' HV4' HW4
  refine Calls.mono (mall_ok _ _ _ [eA2, eA1, eB1] 3 rfl w5 HR5.out (rok_of (by decide) (by decide) (by decide)) chk_one all_one) ?_
  rintro _ w6 ⟨ra, rc, rfl, hr, hb⟩
  have HW6 : Hid (Below w.heap.size w w6) := HW5.out.trans (hb.mono HW5.out.size)
  have HRA := Lib.hid hr
  clear hr hb HR5 HW5
  go_wp2_with fail
  refine Calls.mono (mput_any [97] [120] 1 w6 (by decide) (by decide)) ?_
  rintro _ w7 ⟨vk, vv, rfl, hk, hv, hb⟩
  obtain ⟨k7a, k7c, rfl⟩ := hk.isSlice
  obtain ⟨v7a, v7c, rfl⟩ := hv.isSlice
  have HW7 : Hid (Below w.heap.size w w7) := HW6.out.trans (hb.mono HW6.out.size)
  have HK7 := Lib.hid hk.any
  have HV7 := Lib.hid hv.any
  have HRA := Lib.hid (HRA.out.below hb)
  clear hb hk hv HW6
  unfold entCells
  go_wp2_with fail
  refine calls_gen fun w8 hw8 => ?_
  have HB8 : Hid (Below w7.heap.size w7 w8) := by rw [hw8]; exact (Below.refl _ _).alloc (Nat.le_refl _) _
  have HX8 : Hid (Rw entK Any w8 (.slice (some ⟨w7.heap.size, 0, none⟩) 1 1) [eA1]) := by
    have hb := HB8.out
    rw [hw8] at hb ⊢
    exact ents_lit1 (Blk.at_new rfl rfl) (HK7.out.below hb) (HV7.out.below hb)
  have HW8 : Hid (Below w.heap.size w w8) := HW7.out.trans (HB8.out.mono HW7.out.size)
  have HRA := Lib.hid (HRA.out.below HB8.out)
  clear hw8 HB8 HK7 HV7 HW7
  refine Calls.mono (mput_any [97] [121] 1 w8 (by decide) (by decide)) ?_
  rintro _ w9 ⟨vk, vv, rfl, hk, hv, hb⟩
  obtain ⟨k9a, k9c, rfl⟩ := hk.isSlice
  obtain ⟨v9a, v9c, rfl⟩ := hv.isSlice
  have HW9 : Hid (Below w.heap.size w w9) := HW8.out.trans (hb.mono HW8.out.size)
  have HK9 := Lib.hid hk.any
  have HV9 := Lib.hid hv.any
  have HRA := Lib.hid (HRA.out.below hb)
  have HX8 := Lib.hid (HX8.out.below hb)
  clear hb hk hv HW8
  unfold entCells
  go_wp2_with fail
  refine calls_gen fun w10 hw10 => ?_
  have HB10 : Hid (Below w9.heap.size w9 w10) := by rw [hw10]; exact below_two _ _ _
  have HR10 : Hid (Rw (rowK entK) Any w10 (.slice (some ⟨w9.heap.size + 1, 0, none⟩) 2 2) [[eA1], [eA1']]) := by
    have hX := HX8.out.below HB10.out
    have hb := HB10.out
    rw [hw10] at hX hb ⊢
    exact rows_lit2 (Blk.at_new (by simp) rfl) hX (ents_lit1 (e := eA1') ((Blk.at_new rfl rfl).alloc _) (HK9.out.below hb) (HV9.out.below hb))
  have HW10 : Hid (Below w.heap.size w w10) := HW9.out.trans (HB10.out.mono HW9.out.size)
  have HRA := Lib.hid (HRA.out.below HB10.out)
  clear hw10 HB10 HX8 HK9 HV9 HW9
  refine Calls.mono (mall_ok _ _ _ [eA1] 1 rfl w10 HR10.out (rok_of (by decide) (by decide) (by decide)) chk_two all_two) ?_
  rintro _ w11 ⟨rb, rd, rfl, hr, hb⟩
  have HW11 : Hid (Below w.heap.size w w11) := HW10.out.trans (hb.mono HW10.out.size)
  obtain ⟨ba, oa, capa, ea, _, _, hca⟩ := ents_at (HRA.out.below hb) (by decide)
  obtain ⟨bb, ob, capb, eb, _, _, hcb⟩ := ents_at hr (by decide)
  obtain ⟨_, _, _, _, _, c1, _, _⟩ := hca 0 (by decide)
  obtain ⟨_, _, _, _, _, c2, _, _⟩ := hca 1 (by decide)
  obtain ⟨_, vb, _, hvb, _, _, _, c3⟩ := hcb 0 (by decide)
  injection ea with e1 e2 e3
  injection eb with e4 e5 e6
  subst e1 e3 e4 e6
  clear e2 e5
  have k1 : w11.cell? ⟨ba, oa + 1, none⟩ = some (.int .u64 2) := c1
  have k2 : w11.cell? ⟨ba, oa + 4 + 1, none⟩ = some (.int .u64 1) := c2
  have k3 : w11.cell? ⟨bb, ob + 3, none⟩ = some vb := c3
  have t1 : (convert 26 9 vb).run Try.prog w11 = .ok (.string ⟨#[120]⟩) w11 := hvb.textAny
  clear hca hcb c1 c2 c3 hvb hr hb HRA HR10 HW10
  go_wp2_with fail
  go_ret
  exact ⟨rfl, HW11.out⟩
end Go.Proofs.Ytmpapipobjoboaa
