/- The document's answer for batches: Put. -/
import Derived.Test.YtmpapipobjoboaaMgV
import Derived.Test.YtmpapipobjoboaaKitOwn
import Derived.Test.YtmpapipobjoboaaAppN
namespace Go.Proofs.Ytmpapipobjoboaa
open Go.RowKit

/-- Where an entry belongs among others: ahead of the first that is not below it. -/
structure PlaceAt (e : Ent) (l : List Ent) (i : Nat) : Prop where
  le : i ≤ l.length
  lt : ∀ j, j < i → Ent.cmp (eat l j) e < 0
  ge : i < l.length → ¬ Ent.cmp (eat l i) e < 0
def putAt (e : Ent) (l : List Ent) (i : Nat) : List Ent := (l.take i ++ [e]) ++ l.drop i

theorem below_al {w W : World} (h : Below w.heap.size w W) (o : Obj) : Below w.heap.size w (W.alloc o) := h.alloc h.size o
/-- append of things that lay there (in wb), at a step of a region that draws its order. -/
theorem step_append_at {α : Type} {K : Kind α} {P : Program} {ops : Array Oper} {o : Oper} {a : Act} {C : Act → World → Prop} {Q : Exit → Act → World → Prop} {E : Prop} (hgd : o.guard = none) (t e : TypeId) (z : Value) (bytes : Nat) (ht : P.underlying t = some (.slice e))
    (hinfo : (P.info? e).map (fun i => (i.zero, i.size, i.bytes)) = some (some z, K.sz, bytes)) (hzs : z.cells.size = K.sz)
    (F : Nat → Prop) (wb W : World) (v : Value) (xs : List α) (v2 : Value) (ys : List α) (s x : Operand)
    (ho : o.op = .call { callee := .builtin .append, args := #[s, x], argTypes := #[t, t] })
    (hs : a.eval s = v) (hx : a.eval x = v2) (hown : RO K F wb.heap.size e W v xs) (hbW : Below wb.heap.size wb W) (cs2 : List Value) (G R : Nat → Prop) (hsrc : Sl G wb K.sz v2 ys.length cs2)
    (hels : Els K R wb cs2 ys) (hR : ∀ k, k < wb.heap.size → R k → F k) (hFb : ∀ k, F k → k < wb.heap.size) (hm : xs.length + ys.length ≤ 1000000) (hby : bytes ≤ 100000)
    (h : ∀ v' w', RO K F wb.heap.size e w' v' (xs ++ ys) → Below wb.heap.size wb w' → (∀ k, k < W.heap.size → v.ownBlock ≠ some k → w'.heap[k]? = W.heap[k]?) → C (a.put o.dst v') w') :
    if Region.wanted o (yielded ops a.tmps) = true then Oper.wp P o a W C Q else E := by
  refine step_append_RO hgd t e z bytes ht hinfo hzs F wb.heap.size v xs v2 ys s x ho hs hx hown cs2 G (hsrc.keep fun k hk _ => hbW.block k hk) ?_ (fun k hk => Nat.lt_of_lt_of_le (hFb k hk) hbW.size) hm hby hbW.size
    fun v' w' h1 h2 h3 => h v' w' h1 (hbW.trans h2) h3
  exact ((hels.mono (F' := F) hR).keep fun k hk _ => hbW.block k hk).mono fun k _ hF => ⟨hF, fun e => by have := hown.base_le k e; have := hFb k hF; omega⟩

/-- append of one thing that lies in a block of its own. -/
theorem step_append_one_at {α : Type} {K : Kind α} {P : Program} {ops : Array Oper} {o : Oper} {a : Act} {C : Act → World → Prop} {Q : Exit → Act → World → Prop} {E : Prop} (hgd : o.guard = none) (t e : TypeId) (z : Value) (bytes : Nat) (ht : P.underlying t = some (.slice e))
    (hinfo : (P.info? e).map (fun i => (i.zero, i.size, i.bytes)) = some (some z, K.sz, bytes)) (hzs : z.cells.size = K.sz)
    (F : Nat → Prop) (wb W : World) (v : Value) (xs : List α) (k0 : Nat) (c : Array Value) (y : α) (s x : Operand)
    (ho : o.op = .call { callee := .builtin .append, args := #[s, x], argTypes := #[t, t] })
    (hs : a.eval s = v) (hx : a.eval x = .slice (some ⟨k0, 0, none⟩) 1 1) (hown : RO K F wb.heap.size e W v xs) (hbW : Below wb.heap.size wb W) (hblk : Blk W k0 c e)
    (R : Nat → Prop) (hel : K.R R wb c.toList y) (hR : ∀ k, k < wb.heap.size → R k → F k) (hFb : ∀ k, F k → k < wb.heap.size) (hm : xs.length < 1000000) (hby : bytes ≤ 100000)
    (h : ∀ v' w', RO K F wb.heap.size e w' v' (xs ++ [y]) → Below wb.heap.size wb w' → C (a.put o.dst v') w') :
    if Region.wanted o (yielded ops a.tmps) = true then Oper.wp P o a W C Q else E := by
  have hcl := K.len hel
  have hsl : Sl (fun k => k = k0) W K.sz (.slice (some ⟨k0, 0, none⟩) 1 1) ([y] : List α).length c.toList := by
    refine ⟨_, _, rfl, Nat.le_refl _, by simp [maxLen], by simp, by rw [hcl]; simp, fun j u hj => ⟨_, rfl, rfl, ?_⟩⟩
    rw [add_plain']
    exact hblk.cell (by simpa using hj)
  refine step_append_RO hgd t e z bytes ht hinfo hzs F wb.heap.size v xs _ [y] s x ho hs hx hown _ _ hsl ?_ (fun k hk => Nat.lt_of_lt_of_le (hFb k hk) hbW.size) (by simp only [List.length_singleton]; omega) hby hbW.size
    fun v' w' h1 h2 h3 => h v' w' h1 (hbW.trans h2)
  exact (((Els.single hel).mono (F' := F) hR).keep fun k hk _ => hbW.block k hk).mono fun k _ hF => ⟨hF, fun e => by have := hown.base_le k e; have := hFb k hF; omega⟩

theorem Blk.grown {W w' : World} {k : Nat} {c : Array Value} {T : TypeId} {v : Value} (h : Blk W k c T) (hsm : ∀ k, k < W.heap.size → v.ownBlock ≠ some k → w'.heap[k]? = W.heap[k]?) (hne : v.ownBlock ≠ some k) : Blk w' k c T := h.same (hsm k h.lt hne)


theorem RO.newP {α : Type} {K : Kind α} {F : Nat → Prop} {base e k : Nat} {w : World} (h : base ≤ k) : RO K F base e w (.slice (some ⟨k, 0, none⟩) 0 0) [] := .inl ⟨rfl, k, h, rfl⟩
theorem Blk.drewP {w : World} {b : Nat} {c : Array Value} {T : TypeId} (h : Blk w b c T) : Blk w.drew b c T := h
theorem under_entsP : Try.prog.underlying 31 = some (.slice (Try.prog.elem 31)) := by kernel_rfl
theorem size_entsP : (Try.prog.info? (Try.prog.elem 31)).map (·.size) = some entK.sz := by kernel_rfl

def PutPost (F : Nat → Prop) (e : Ent) (l : List Ent) (w : World) (x : Ending) (w' : World) : Prop :=
  ∃ i a c, PlaceAt e l i ∧ x = .returned (.slice a (putAt e l i).length c) ∧ Rw entK (fun k => F k ∨ w.heap.size ≤ k) w' (.slice a (putAt e l i).length c) (putAt e l i) ∧ Below w.heap.size w w'

set_option maxRecDepth 100000 in
set_option maxHeartbeats 8000000 in
theorem rput_any (F : Nat → Prop) (v vk vv : Value) (l : List Ent) (e : Ent) (w : World) (h : Rw entK F w v l) (hk : Bytes F w vk e.key) (hv : Bytes F w vv e.value) (hfew : l.length ≤ 400000) :
    Calls Try.prog 29 #[v, .agg (entCells e vk vv).toArray] w (PutPost F e l w) := by
  obtain ⟨xa, ca, rfl⟩ := h.isSlice
  obtain ⟨ka, kc, rfl⟩ := hk.isSlice
  obtain ⟨va, vc, rfl⟩ := hv.isSlice
  have HA := Lib.hid h
  have HK := Lib.hid hk
  have HV := Lib.hid hv
  clear h hk hv
  obtain ⟨n, hn⟩ : ∃ n, l.length = n := ⟨_, rfl⟩
  have HN := Lib.hid hn
  rw [hn] at HA hfew
  rw [hn]
  clear hn
  unfold entCells
  go_enter Try.func29, Try.ntmps29
  go_upto_block 0 with fail
  refine wp_gen fun w1 hw1 => ?_
  have HW1 : Hid (Below w.heap.size w w1) := by rw [hw1]; exact (Below.refl _ _).alloc (Nat.le_refl _) _
  have HE1 : Hid (Blk w1 w.heap.size (entCells e (.slice ka e.key.length kc) (.slice va e.value.length vc)).toArray 29) := by rw [hw1]; exact Blk.at_new rfl rfl
  clear hw1
  go_cut [5] from 6 to 20 (fun iv wx => ∃ i : Nat, iv = .int .i64 (i : Int) ∧ Hid (PlaceAt e l i) ∧ Hid (Below w.heap.size w wx) ∧ Hid (Blk wx w.heap.size (entCells e (.slice ka e.key.length kc) (.slice va e.value.length vc)).toArray 29))
  case first =>
    go_wp2_with fail
    go_loopw [5] (fun iv wr => ∃ i : Nat, iv = .int .i64 (i : Int) ∧ i ≤ n ∧ Hid (∀ j, j < i → Ent.cmp (eat l j) e < 0) ∧ Hid (Below w.heap.size w wr) ∧ Hid (Blk wr w.heap.size (entCells e (.slice ka e.key.length kc) (.slice va e.value.length vc)).toArray 29)) (fun iv _ => n - (intOf iv).toNat)
    case atStart => exact ⟨0, rfl, by omega, (fun j hj => by omega), HW1.out, HE1.out⟩
    case round =>
      obtain ⟨i, rfl, hi, HL, HB, HE⟩ := hrel
      clear HW1 HE1
      by_cases hlt : i < n
      · have t1 : (i : Int) < (n : Int) := by omega
        have t3 : 0 ≤ (i : Int) := by omega
        have hl1 : i < l.length := by rw [HN.out]; omega
        obtain ⟨ba, oa, capa, ea, _, hba, hca⟩ := ents_at (HA.out.below HB.out) (by omega)
        obtain ⟨k1, v1, hk1, hv1, hc1⟩ := hca i hl1
        injection ea with e1 e2 e3
        subst e1 e3
        clear e2
        rw [eat_eq hl1] at hk1 hv1 hc1
        obtain ⟨k1a, k1c, rfl⟩ := hk1.isSlice
        obtain ⟨v1a, v1c, rfl⟩ := hv1.isSlice
        have HK1 := Lib.hid (hk1.below (below_drew (Below.refl _ _)))
        have HK2 := Lib.hid ((HK.out.below HB.out).below (below_drew (Below.refl _ _)))
        have HC1 : Hid (C4o ba (oa + i * 4) (eat l i) (.slice k1a (eat l i).key.length k1c) (.slice v1a (eat l i).value.length v1c) wr.drew) := hc1
        have HC2 : Hid (C4o w.heap.size 0 e (.slice ka e.key.length kc) (.slice va e.value.length vc) wr.drew) := ⟨HE.out.cell rfl, HE.out.cell rfl, HE.out.cell rfl, HE.out.cell rfl⟩
        have HZ1 : Hid (ba < wr.drew.heap.size) := hba
        have HZ2 : Hid (w.heap.size < wr.drew.heap.size) := HE.out.lt
        obtain ⟨c, hcc⟩ : ∃ c, Ent.cmp (eat l i) e = c := ⟨_, rfl⟩
        have HC := Lib.hid hcc
        have HCC := Lib.hid hcc
        clear hca hk1 hv1 hc1 hba hcc hl1
        generalize eat l i = s at HC HK1 HC1
        go_wp2_with fail
        go_region_held3 (fun w' => (w'.cell? ⟨ba, oa + i * 4, none⟩ = some (.slice k1a s.key.length k1c) ∧ w'.cell? ⟨ba, oa + i * 4 + 1, none⟩ = some (.int .u64 s.seq) ∧ w'.cell? ⟨ba, oa + i * 4 + 2, none⟩ = some (.int .i64 s.kind) ∧ w'.cell? ⟨ba, oa + i * 4 + 3, none⟩ = some (.slice v1a s.value.length v1c)) ∧ (w'.cell? ⟨w.heap.size, 0, none⟩ = some (.slice ka e.key.length kc) ∧ w'.cell? ⟨w.heap.size, 1, none⟩ = some (.int .u64 e.seq) ∧ w'.cell? ⟨w.heap.size, 2, none⟩ = some (.int .i64 e.kind) ∧ w'.cell? ⟨w.heap.size, 3, none⟩ = some (.slice va e.value.length vc)))
          (first | exact ⟨HC1.out, HC2.out⟩ | exact ⟨HC1.out.keep hbx1 HZ1.out, HC2.out.keep hbx1 HZ2.out⟩)
          (first | (go_at_call 62; refine Calls.mono (rcompare_at _ _ s e c HC.out (.slice k1a s.key.length k1c) (.slice v1a s.value.length v1c) (.slice ka e.key.length kc) (.slice va e.value.length vc) _ HK1.out HK2.out) ?_; rintro _ x1 ⟨rfl, hbx1⟩; skip))
        have HWx : Hid (Below w.heap.size w x1) := HB.out.trans ((below_of_drew hbx1).mono HB.out.size)
        have HEx : Hid (Blk x1 w.heap.size (entCells e (.slice ka e.key.length kc) (.slice va e.value.length vc)).toArray 29) := Blk.below (w := wr) HE.out (below_of_drew hbx1) HE.out.lt
        clear hbx1 HC1 HC2 HK1 HK2
        by_cases hc : c < 0
        · go_wp2_with fail
          go_roundw
          · exact ⟨i + 1, by go_num, by omega, (fun j hj => by
              by_cases e0 : j = i
              · rw [e0, HCC.out]; exact hc
              · exact HL.out j (by omega)), HWx.out, HEx.out⟩
          · simp only [intOf]; omega
        · have HP : Hid (PlaceAt e l i) := ⟨by rw [HN.out]; exact hi, HL.out, fun _ => by rw [HCC.out]; exact hc⟩
          go_wp2_with fail
          go_meet
          exact ⟨i, rfl, HP.out, HWx.out, HEx.out⟩
      · have t1 : decide ((i : Int) < (n : Int)) = false := by simp; omega
        have t2 : ¬ i < n := hlt
        have HP : Hid (PlaceAt e l i) := ⟨by rw [HN.out]; exact hi, HL.out, fun h => absurd h (by rw [HN.out]; exact hlt)⟩
        go_wp2_with fail
        go_quiet (fail)
        all_goals
          go_wp2_with fail
          go_meet
          exact ⟨i, rfl, HP.out, below_dn HB.out _, HE.out⟩
  case rest =>
    obtain ⟨i, rfl, HP, HB, HE⟩ := hcut
    clear HW1 HE1
    have hin : i ≤ n := by rw [← HN.out]; exact HP.out.le
    have hil : i ≤ l.length := HP.out.le
    have hA : Rw entK (fun k => F k ∧ k < wc.heap.size) wc (.slice xa n ca) l := (HA.out.below HB.out).mono fun k hk h => ⟨h, hk⟩
    obtain ⟨s1, hs1, hw1⟩ := hA.slice_h under_entsP size_entsP i hil
    obtain ⟨s2, hs2, hw2⟩ := hA.slice_l under_entsP size_entsP i hil
    obtain ⟨p1, q1, hv1⟩ := hw1.isSlice
    obtain ⟨p2, q2, hv2⟩ := hw2.isSlice
    rw [List.length_take, Nat.min_eq_left hil] at hv1
    rw [List.length_drop, HN.out] at hv2
    subst hv1 hv2
    obtain ⟨cs1, hsl1, hel1⟩ := hw1
    obtain ⟨cs2, hsl2, hel2⟩ := hw2
    have HSL1 := Lib.hid hsl1
    have HEL1 := Lib.hid hel1
    have HSL2 := Lib.hid hsl2
    have HEL2 := Lib.hid hel2
    have HTK : Hid ((l.take i).length = i) := by show _ = _; rw [List.length_take, Nat.min_eq_left hil]
    have HTK7 : Hid ((l.take i ++ [e]).length = i + 1) := by show _ = _; rw [List.length_append, HTK.out, List.length_singleton]
    have HTK11 : Hid ((l.take i ++ [e] ++ l.drop i).length = n + 1) := by show _ = _; rw [List.length_append, HTK7.out, List.length_drop, HN.out]; omega
    have HLM1 : Hid (([] : List Ent).length + (l.take i).length ≤ 1000000) := by show _ ≤ _; rw [List.length_nil, List.length_take]; omega
    have HLM2 : Hid ((l.take i).length < 1000000) := by show _ < _; rw [List.length_take]; omega
    have HLM3 : Hid ((l.take i ++ [e]).length + (l.drop i).length ≤ 1000000) := by show _ ≤ _; rw [List.length_append, List.length_take, List.length_drop, List.length_singleton, HN.out]; omega
    have HKC : Hid (Bytes (fun k => F k ∧ k < wc.heap.size) wc (.slice ka e.key.length kc) e.key) := (HK.out.below HB.out).mono fun k hk h => ⟨h, hk⟩
    have HVC : Hid (Bytes (fun k => F k ∧ k < wc.heap.size) wc (.slice va e.value.length vc) e.value) := (HV.out.below HB.out).mono fun k hk h => ⟨h, hk⟩
    have HZB : Hid (w.heap.size < wc.heap.size) := HE.out.lt
    have k0 : wc.cell? ⟨w.heap.size, 0, none⟩ = some (.slice ka e.key.length kc) := HE.out.cell rfl
    have k1 : wc.cell? ⟨w.heap.size, 1, none⟩ = some (.int .u64 e.seq) := HE.out.cell rfl
    have k2 : wc.cell? ⟨w.heap.size, 2, none⟩ = some (.int .i64 e.kind) := HE.out.cell rfl
    have k3 : wc.cell? ⟨w.heap.size, 3, none⟩ = some (.slice va e.value.length vc) := HE.out.cell rfl
    have z0 : ∀ o, (wc.alloc o).cell? ⟨w.heap.size, 0, none⟩ = some (.slice ka e.key.length kc) := fun o => (HE.out.alloc o).cell rfl
    have z1 : ∀ o, (wc.alloc o).cell? ⟨w.heap.size, 1, none⟩ = some (.int .u64 e.seq) := fun o => (HE.out.alloc o).cell rfl
    have z2 : ∀ o, (wc.alloc o).cell? ⟨w.heap.size, 2, none⟩ = some (.int .i64 e.kind) := fun o => (HE.out.alloc o).cell rfl
    have z3 : ∀ o, (wc.alloc o).cell? ⟨w.heap.size, 3, none⟩ = some (.slice va e.value.length vc) := fun o => (HE.out.alloc o).cell rfl
    generalize w.heap.size = zb at HZB k0 k1 k2 k3 z0 z1 z2 z3 ⊢
    have t4 : (i : Int) ≤ (n : Int) := by omega
    have t5 : 0 ≤ (i : Int) := by omega
    clear hsl1 hel1 hsl2 hel2 hA hil hin
    go_wp2_with fail
    go_region_law (first
      | (refine step_append_at (K := entK) rfl 31 29 _ 64 Try.underlying31 info_entO rfl (fun k => F k ∧ k < wc.heap.size) wc _ _ (l.take i ++ [e]) (.slice p2 (n - i) q2) (l.drop i) (.tmp 28) (.tmp 31) rfl (by rfl) (by rfl) h71 h72 cs2 _ _ HSL2.out HEL2.out (fun _ _ h => h) (fun _ h => h.2) HLM3.out (by decide) ?_; intro v11 w11 h111 h112 _; obtain ⟨a11, c11, e11⟩ := h111.isSlice; rw [HTK11.out] at e11; subst e11)
      | (refine step_append_one_at (K := entK) rfl 31 29 _ 64 Try.underlying31 info_entO rfl (fun k => F k ∧ k < wc.heap.size) wc (w4.alloc (.cells #[.slice ka e.key.length kc, .int .u64 e.seq, .int .i64 e.kind, .slice va e.value.length vc] 29)) _ (l.take i) w4.heap.size #[.slice ka e.key.length kc, .int .u64 e.seq, .int .i64 e.kind, .slice va e.value.length vc] e (.tmp 25) (.tmp 27) rfl (by rfl) (by rfl) (h41.below ((Below.refl _ _).alloc (Nat.le_refl _) _)) (below_al h42 _) (Blk.at_new rfl rfl) _ ⟨_, _, rfl, HKC.out, HVC.out⟩ (fun _ _ h => h) (fun _ h => h.2) HLM2.out (by decide) ?_; intro v7 w7 h71 h72; obtain ⟨a7, c7, e7⟩ := h71.isSlice; rw [HTK7.out] at e7; subst e7)
      | (refine step_append_one_at (K := entK) rfl 31 29 _ 64 Try.underlying31 info_entO rfl (fun k => F k ∧ k < wc.heap.size) wc w4 _ (l.take i) _ #[.slice ka e.key.length kc, .int .u64 e.seq, .int .i64 e.kind, .slice va e.value.length vc] e (.tmp 25) (.tmp 27) rfl (by rfl) (by rfl) h41 h42 hE4 _ ⟨_, _, rfl, HKC.out, HVC.out⟩ (fun _ _ h => h) (fun _ h => h.2) HLM2.out (by decide) ?_; intro v7 w7 h71 h72; obtain ⟨a7, c7, e7⟩ := h71.isSlice; rw [HTK7.out] at e7; subst e7)
      | (refine step_append_at (K := entK) rfl 31 29 _ 64 Try.underlying31 info_entO rfl (fun k => F k ∧ k < wc.heap.size) wc (wc.alloc (.cells #[] 29)).drew (.slice (some ⟨wc.heap.size, 0, none⟩) 0 0) [] (.slice p1 i q1) (l.take i) (.tmp 21) (.tmp 24) rfl (by rfl) (by rfl) (RO.newP (Nat.le_refl _)) (below_drew (below_al (Below.refl _ _) _)) cs1 _ _ HSL1.out HEL1.out (fun _ _ h => h) (fun _ h => h.2) HLM1.out (by decide) ?_; intro v4 w4 h41 h42 h43; rw [List.nil_append] at h41; obtain ⟨a4, c4, e4⟩ := h41.isSlice; rw [HTK.out] at e4; subst e4; have y0 := (h42.cell (p := ⟨zb, 0, none⟩) HZB.out).trans k0; have y1 := (h42.cell (p := ⟨zb, 1, none⟩) HZB.out).trans k1; have y2 := (h42.cell (p := ⟨zb, 2, none⟩) HZB.out).trans k2; have y3 := (h42.cell (p := ⟨zb, 3, none⟩) HZB.out).trans k3; skip)
      | (refine step_append_at (K := entK) rfl 31 29 _ 64 Try.underlying31 info_entO rfl (fun k => F k ∧ k < wc.heap.size) wc ((wc.alloc (.cells #[] 29)).alloc (.cells #[.slice ka e.key.length kc, .int .u64 e.seq, .int .i64 e.kind, .slice va e.value.length vc] 29)).drew (.slice (some ⟨wc.heap.size, 0, none⟩) 0 0) [] (.slice p1 i q1) (l.take i) (.tmp 21) (.tmp 24) rfl (by rfl) (by rfl) (RO.newP (Nat.le_refl _)) (below_drew (below_al (below_al (Below.refl _ _) _) _)) cs1 _ _ HSL1.out HEL1.out (fun _ _ h => h) (fun _ h => h.2) HLM1.out (by decide) ?_; intro v4 w4 h41 h42 h43; rw [List.nil_append] at h41; obtain ⟨a4, c4, e4⟩ := h41.isSlice; rw [HTK.out] at e4; subst e4; have y0 := (h42.cell (p := ⟨zb, 0, none⟩) HZB.out).trans k0; have y1 := (h42.cell (p := ⟨zb, 1, none⟩) HZB.out).trans k1; have y2 := (h42.cell (p := ⟨zb, 2, none⟩) HZB.out).trans k2; have y3 := (h42.cell (p := ⟨zb, 3, none⟩) HZB.out).trans k3; have hE4 : Blk w4 (wc.heap.size + 1) #[.slice ka e.key.length kc, .int .u64 e.seq, .int .i64 e.kind, .slice va e.value.length vc] 29 := Blk.grown (Blk.drewP (Blk.at_new (World.size_alloc _ _).symm rfl)) h43 (fun e0 => absurd (show wc.heap.size = wc.heap.size + 1 from Option.some.inj e0) (by omega)))
      | (refine step_append_at (K := entK) rfl 31 29 _ 64 Try.underlying31 info_entO rfl (fun k => F k ∧ k < wc.heap.size) wc ((wc.alloc (.cells #[.slice ka e.key.length kc, .int .u64 e.seq, .int .i64 e.kind, .slice va e.value.length vc] 29)).alloc (.cells #[] 29)).drew (.slice (some ⟨wc.heap.size + 1, 0, none⟩) 0 0) [] (.slice p1 i q1) (l.take i) (.tmp 21) (.tmp 24) rfl (by rfl) (by rfl) (RO.newP (Nat.le_succ _)) (below_drew (below_al (below_al (Below.refl _ _) _) _)) cs1 _ _ HSL1.out HEL1.out (fun _ _ h => h) (fun _ h => h.2) HLM1.out (by decide) ?_; intro v4 w4 h41 h42 h43; rw [List.nil_append] at h41; obtain ⟨a4, c4, e4⟩ := h41.isSlice; rw [HTK.out] at e4; subst e4; have y0 := (h42.cell (p := ⟨zb, 0, none⟩) HZB.out).trans k0; have y1 := (h42.cell (p := ⟨zb, 1, none⟩) HZB.out).trans k1; have y2 := (h42.cell (p := ⟨zb, 2, none⟩) HZB.out).trans k2; have y3 := (h42.cell (p := ⟨zb, 3, none⟩) HZB.out).trans k3; have hE4 : Blk w4 wc.heap.size #[.slice ka e.key.length kc, .int .u64 e.seq, .int .i64 e.kind, .slice va e.value.length vc] 29 := Blk.grown (Blk.drewP ((Blk.at_new rfl rfl).alloc _)) h43 (fun e0 => absurd (show wc.heap.size + 1 = wc.heap.size from Option.some.inj e0) (by omega))))
    all_goals
      go_wp2_with fail
      go_ret
      exact ⟨i, a11, c11, HP.out, by rw [show (putAt e l i).length = n + 1 from HTK11.out]; rfl, by rw [show (putAt e l i).length = n + 1 from HTK11.out]; exact h111.rows.mono fun k _ h => h.elim (fun e0 => .inr (Nat.le_trans HB.out.size (h111.base_le k e0))) (fun h => .inl h.1.1), (HB.out.trans (h112.mono HB.out.size))⟩
end Go.Proofs.Ytmpapipobjoboaa
