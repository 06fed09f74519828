/- slices.DeleteFunc over entries, with compact's closure. -/
import Derived.Test.YtmpapipobjoboaaCoE
namespace Go.Proofs.Ytmpapipobjoboaa
open Go.RowKit

theorem Blk.get {w : World} {b : Nat} {c : Array Value} {T : TypeId} (h : Blk w b c T) (i : Nat) : w.cell? ⟨b, i, none⟩ = c[i]? := by
  unfold Blk at h; simp [World.cell?, h]

/-- Entries in a block, that may be written over. -/
structure Arr (H : Nat → Prop) (g : Nat) (w : World) (n : Nat) (xs : Nat → Ent) : Prop where
  blk : ∃ cs : Array Value, Blk w g cs 29 ∧ n * 4 ≤ cs.size
  at_ : ∀ i, i < n → ∃ vk vv, Bytes H w vk (xs i).key ∧ Bytes H w vv (xs i).value ∧ C4o g (i * 4) (xs i) vk vv w

theorem Arr.keep {H : Nat → Prop} {g : Nat} {w w' : World} {n : Nat} {xs : Nat → Ent} {S : Nat → Prop} (h : Arr H g w n xs) (hw : Wrote S w w') (h1 : ∀ k, H k → ¬ S k) (h2 : ¬ S g) : Arr H g w' n xs := by
  obtain ⟨⟨cs, b1, b2⟩, h3⟩ := h
  have hg : w'.heap[g]? = w.heap[g]? := hw.block g b1.lt h2
  refine ⟨⟨cs, b1.same hg, b2⟩, fun i hi => ?_⟩
  obtain ⟨vk, vv, k1, k2, c0, c1, c2, c3⟩ := h3 i hi
  exact ⟨vk, vv, k1.keep fun k hk hH => hw.block k hk (h1 k hH), k2.keep fun k hk hH => hw.block k hk (h1 k hH), (World.cell?_of_block (w := w) hg).trans c0, (World.cell?_of_block (w := w) hg).trans c1, (World.cell?_of_block (w := w) hg).trans c2, (World.cell?_of_block (w := w) hg).trans c3⟩

theorem Arr.store {H : Nat → Prop} {g : Nat} {w : World} {n i : Nat} {xs : Nat → Ent} {cs : Array Value} (h : Arr H g w n xs) (hH : ∀ k, H k → k ≠ g) (hb : Blk w g cs 29) (hs : n * 4 ≤ cs.size) (hi : i < n) {e : Ent} {vk vv : Value} (hk : Bytes H w vk e.key) (hv : Bytes H w vv e.value) :
    Arr H g (w.setRow g (over cs (i * 4) (entCells e vk vv))) n (fun j => if j = i then e else xs j) := by
  have hl : i * 4 + (entCells e vk vv).length ≤ cs.size := by show i * 4 + 4 ≤ _; omega
  have hb' := hb.row (over cs (i * 4) (entCells e vk vv))
  have hget : ∀ j, (w.setRow g (over cs (i * 4) (entCells e vk vv))).cell? ⟨g, j, none⟩ = if i * 4 ≤ j ∧ j < i * 4 + 4 then (entCells e vk vv)[j - i * 4]? else w.cell? ⟨g, j, none⟩ := fun j => by
    rw [hb'.get, over_get _ _ _ hl, hb.get]; rfl
  have keepB : ∀ {v : Value} {bs : List UInt8}, Bytes H w v bs → Bytes H (w.setRow g (over cs (i * 4) (entCells e vk vv))) v bs := fun h1 => h1.keep fun k _ hk => setRow_other _ _ _ _ (hH k hk)
  refine ⟨⟨_, hb', by rw [over_size _ _ _ hl]; exact hs⟩, fun j hj => ?_⟩
  by_cases hji : j = i
  · subst hji
    rw [if_pos rfl]
    refine ⟨vk, vv, keepB hk, keepB hv, ?_, ?_, ?_, ?_⟩
    · rw [hget, if_pos (by omega), Nat.sub_self]; rfl
    · rw [hget, if_pos (by omega), Nat.add_sub_cancel_left]; rfl
    · rw [hget, if_pos (by omega), Nat.add_sub_cancel_left]; rfl
    · rw [hget, if_pos (by omega), Nat.add_sub_cancel_left]; rfl
  · rw [if_neg hji]
    obtain ⟨uk, uv, k1, k2, c0, c1, c2, c3⟩ := h.at_ j hj
    refine ⟨uk, uv, keepB k1, keepB k2, ?_, ?_, ?_, ?_⟩
    · rw [hget, if_neg (by omega)]; exact c0
    · rw [hget, if_neg (by omega)]; exact c1
    · rw [hget, if_neg (by omega)]; exact c2
    · rw [hget, if_neg (by omega)]; exact c3

theorem arr_of {FF : Nat → Prop} {base : Nat} {w : World} {v : Value} {l : List Ent} (h : ROwnF entK FF base 29 w v l) (hn : 0 < l.length) :
    ∃ g cap, v = .slice (some ⟨g, 0, none⟩) l.length cap ∧ base ≤ g ∧ l.length ≤ cap ∧ cap ≤ maxLen ∧ Arr (fun k => FF k ∧ k ≠ g) g w l.length (eat l) := by
  obtain ⟨cs, h1, h2⟩ := h
  have hcl := h2.len
  obtain ⟨h0, ⟨rfl, hz⟩ | ⟨g, cap, cur, rfl, hb, hg, hnc, hcm, hs, htk⟩⟩ := id h1
  · omega
  · refine ⟨g, cap, rfl, hb, hnc, hcm, ⟨⟨cur, hg, ?_⟩, fun i hi => ?_⟩⟩
    · have h4 : entK.sz = 4 := rfl
      rw [hs, h4]
      exact Nat.mul_le_mul_right _ hnc
    · obtain ⟨vk, vv, hc, hk, hv⟩ := h2.get i hi
      rw [eat_eq hi] at hc hk hv
      have hsz : entK.sz = 4 := rfl
      rw [hsz] at hc hcl
      have hcell : ∀ t, t < 4 → w.cell? ⟨g, i * 4 + t, none⟩ = (entCells (eat l i) vk vv)[t]? := fun t ht => by
        rw [World.ownsRow.cellAt h1 (i * 4 + t) (by rw [hsz]; omega), ← hc, List.getElem?_take_of_lt ht, List.getElem?_drop]
      refine ⟨vk, vv, hk.mono fun k _ hF => ⟨hF.1, fun e => hF.2 (by rw [e]; rfl)⟩, hv.mono fun k _ hF => ⟨hF.1, fun e => hF.2 (by rw [e]; rfl)⟩, hcell 0 (by omega), hcell 1 (by omega), hcell 2 (by omega), hcell 3 (by omega)⟩

/-- Of the first j entries those that are kept. -/
def keepTo (f : Nat → Bool) (l : List Ent) : Nat → List Ent
  | 0 => []
  | j + 1 => keepTo f l j ++ if f j = true then [eat l j] else []
theorem keepTo_succ (f : Nat → Bool) (l : List Ent) (j : Nat) : keepTo f l (j + 1) = keepTo f l j ++ if f j = true then [eat l j] else [] := rfl
theorem keepTo_len (f : Nat → Bool) (l : List Ent) : ∀ j, (keepTo f l j).length ≤ j
  | 0 => Nat.le_refl _
  | j + 1 => by
    have := keepTo_len f l j
    unfold keepTo
    rw [List.length_append]
    split
    · simp; omega
    · simp; omega
theorem keepTo_all {f : Nat → Bool} {l : List Ent} : ∀ {j : Nat}, j ≤ l.length → (∀ i, i < j → f i = true) → keepTo f l j = l.take j
  | 0, _, _ => by simp [keepTo]
  | j + 1, hj, h => by
    unfold keepTo
    rw [keepTo_all (by omega) fun i hi => h i (by omega), if_pos (h j (by omega)), List.take_succ_eq_append_getElem (by omega), eat_eq]
theorem eat_append_lt {a b : List Ent} {t : Nat} (h : t < a.length) : eat (a ++ b) t = eat a t := by simp [eat, List.getD, List.getElem?_append_left h]
theorem eat_append_at {a : List Ent} {e : Ent} : eat (a ++ [e]) a.length = e := by simp [eat]

/-- The block while it is gone through: ahead of q what is kept, from j on what was there. -/
structure Del (f : Nat → Bool) (l : List Ent) (n j : Nat) (xs : Nat → Ent) : Prop where
  head : ∀ t, t < (keepTo f l j).length → xs t = eat (keepTo f l j) t
  tail : ∀ t, j ≤ t → t < n → xs t = eat l t
theorem Del.skip {f : Nat → Bool} {l : List Ent} {n j : Nat} {xs : Nat → Ent} (h : Del f l n j xs) (hf : f j = false) : Del f l n (j + 1) xs := by
  have e : keepTo f l (j + 1) = keepTo f l j := by rw [keepTo_succ, if_neg (by rw [hf]; decide), List.append_nil]
  exact ⟨by rw [e]; exact h.head, fun t h1 h2 => h.tail t (by omega) h2⟩
theorem Del.put {f : Nat → Bool} {l : List Ent} {n j : Nat} {xs : Nat → Ent} (h : Del f l n j xs) (hf : f j = true) (hq : (keepTo f l j).length < j) : Del f l n (j + 1) (fun t => if t = (keepTo f l j).length then eat l j else xs t) := by
  have e : keepTo f l (j + 1) = keepTo f l j ++ [eat l j] := by
    show keepTo f l j ++ _ = _
    rw [if_pos hf]
  refine ⟨fun t ht => ?_, fun t h1 h2 => ?_⟩
  · rw [e] at ht ⊢
    rw [List.length_append, List.length_singleton] at ht
    by_cases h3 : t = (keepTo f l j).length
    · rw [if_pos h3, h3, eat_append_at]
    · rw [if_neg h3, eat_append_lt (by omega)]
      exact h.head t (by omega)
  · rw [if_neg (by omega)]
    exact h.tail t (by omega) h2
theorem keepTo_off {f : Nat → Bool} {l : List Ent} {p : Nat} (h : f p = false) : ∀ j, p < j → (keepTo f l j).length < j
  | 0, hp => by omega
  | j + 1, hp => by
    unfold keepTo
    rw [List.length_append]
    by_cases e : p = j
    · subst e
      rw [if_neg (by rw [h]; decide)]
      have := keepTo_len f l p
      simp; omega
    · have := keepTo_off (l := l) h j (by omega)
      split
      · simp; omega
      · simp; omega

theorem sl_l (g n cap q : Nat) (hq : q < cap) (_hc : cap ≤ maxLen) (hqn : q ≤ n) (w : World) : (Instr.slice 31 (.slice (some ⟨g, 0, none⟩) n cap) (some (.int .i64 (q : Int))) none none).run Try.prog w = .ok (.slice (some ⟨g, q * 4, none⟩) (n - q) (cap - q)) w := by
  rw [run_slice_l w 31 (some ⟨g, 0, none⟩) n cap under_entsP .i64 (q : Int) (by omega) (by omega), run_sizeOf size_entsP]
  simp [sliced, Nat.ne_of_gt hq, entK, add_plain', Result.andThen]
theorem sl_h (g n cap q : Nat) (hq : q ≤ cap) (w : World) : (Instr.slice 31 (.slice (some ⟨g, 0, none⟩) n cap) none (some (.int .i64 (q : Int))) none).run Try.prog w = .ok (.slice (some ⟨g, 0, none⟩) q cap) w := by
  rw [run_slice_h w 31 (some ⟨g, 0, none⟩) n cap under_entsP .i64 (q : Int) (by omega) (by omega), run_sizeOf size_entsP]
  simp [sliced, entK, add_plain', Result.andThen]

def DelPost (FF : Nat → Prop) (base ib : Nat) (ks : List Ent) (w : World) (x : Ending) (w' : World) : Prop :=
  ∃ a c, x = .returned (.slice a ks.length c) ∧ Rw entK (fun k => FF k ∨ base ≤ k) w' (.slice a ks.length c) ks ∧ Wrote (fun j => j = ib ∨ base ≤ j) w w'

/-- What lies ahead in a block is a row. -/
theorem Arr.row {H : Nat → Prop} {g : Nat} {w : World} {q cap : Nat} {ks : List Ent} (hq : ks.length = q) (hqc : q ≤ cap) (hc : cap ≤ maxLen) (hblk : ∃ cs : Array Value, Blk w g cs 29 ∧ q * 4 ≤ cs.size) (h : ∀ t, t < q → ∃ vk vv, Bytes H w vk (eat ks t).key ∧ Bytes H w vv (eat ks t).value ∧ C4o g (t * 4) (eat ks t) vk vv w) :
    Rw entK (fun k => k = g ∨ H k) w (.slice (some ⟨g, 0, none⟩) q cap) ks := by
  subst hq
  have hel : ∀ (ks : List Ent) (cs : List Value), cs.length = ks.length * 4 → (∀ t, t < ks.length → ∃ vk vv, Bytes H w vk (eat ks t).key ∧ Bytes H w vv (eat ks t).value ∧ (cs.drop (t * 4)).take 4 = entCells (eat ks t) vk vv) → Els entK H w cs ks := by
    intro ks
    induction ks with
    | nil => intro cs hl _; exact List.eq_nil_of_length_eq_zero (by simpa using hl)
    | cons x ks ih =>
      intro cs hl hh
      rw [List.length_cons] at hl
      refine ⟨?_, ih (cs.drop 4) (by rw [List.length_drop]; omega) fun t ht => ?_⟩
      · obtain ⟨vk, vv, h1, h2, h3⟩ := hh 0 (by simp)
        rw [Nat.zero_mul, List.drop_zero] at h3
        exact ⟨vk, vv, h3, h1, h2⟩
      · obtain ⟨vk, vv, h1, h2, h3⟩ := hh (t + 1) (by simpa using ht)
        have e : eat (x :: ks) (t + 1) = eat ks t := by simp [eat]
        rw [e] at h1 h2 h3
        refine ⟨vk, vv, h1, h2, ?_⟩
        rw [List.drop_drop, ← h3]
        congr 2
        omega
  obtain ⟨cs0, hb0, hs0⟩ : ∃ cs : Array Value, Blk w g cs 29 ∧ ks.length * 4 ≤ cs.size := hblk
  refine ⟨cs0.toList.take (ks.length * 4), ⟨_, cap, rfl, hqc, hc, (fun e => by cases e), by rw [List.length_take]; show min (ks.length * 4) cs0.size = ks.length * 4; omega, fun j u hj => ⟨_, rfl, .inl rfl, ?_⟩⟩, (hel ks _ (by rw [List.length_take]; show min (ks.length * 4) cs0.size = ks.length * 4; omega) fun t ht => ?_).mono fun _ _ h => .inr h⟩
  · rw [add_plain', Nat.zero_add]
    have hjn : j < ks.length * 4 := by
      have := (List.getElem?_eq_some_iff.1 hj).1
      rw [List.length_take] at this
      omega
    rw [List.getElem?_take_of_lt hjn] at hj
    exact hb0.cell (by simpa using hj)
  · obtain ⟨vk, vv, h1, h2, c0, c1, c2, c3⟩ := h t ht
    refine ⟨vk, vv, h1, h2, ?_⟩
    rw [hb0.get] at c0 c1 c2 c3
    apply List.ext_getElem?
    intro i
    by_cases hi : i < 4
    · rw [List.getElem?_take_of_lt hi, List.getElem?_drop, List.getElem?_take_of_lt (by omega), Array.getElem?_toList]
      match i, hi with
      | 0, _ => exact c0
      | 1, _ => exact c1
      | 2, _ => exact c2
      | 3, _ => exact c3
    · rw [List.getElem?_eq_none (by rw [List.length_take]; omega), List.getElem?_eq_none (by show 4 ≤ i; omega)]

set_option maxRecDepth 100000 in
set_option maxHeartbeats 4000000 in
theorem deletef_any (FF : Nat → Prop) (base ib sb ob : Nat) (f : Nat → Bool) (v : Value) (l : List Ent) (w : World) (h : ROwnF entK FF base 29 w v l) (hF : ∀ k, FF k → k ≠ ib) (hb : ib < base ∧ sb < base ∧ ob < base) (hbw : base ≤ w.heap.size) (hc : Clo ib sb ob 0 l.length f w) (hfew : l.length ≤ 400000) :
    Calls Try.prog 67 #[v, .func (.func 69) #[] #[.pointer (some ⟨ib, 0, none⟩), .pointer (some ⟨sb, 0, none⟩)]] w (DelPost FF base ib (keepTo f l l.length) w) := by
  have hrw : Rw entK (fun k => FF k ∨ base ≤ k) w v l := h.rows.mono fun k hk e => by
    rcases e with e | e
    · exact .inr (h.lt k e).1
    · exact .inl e.1
  obtain ⟨xa, ca, rfl⟩ := h.isSlice
  have HA := Lib.hid h
  have HRW := Lib.hid hrw
  have HF := Lib.hid hF
  have HB := Lib.hid hb
  have HBW := Lib.hid hbw
  have HC := Lib.hid hc
  clear h hF hc hrw hb hbw
  obtain ⟨n, hn⟩ : ∃ n, l.length = n := ⟨_, rfl⟩
  have HN := Lib.hid hn
  rw [hn] at HA HC HRW hfew
  rw [hn]
  clear hn
  go_enter Try.func67, Try.ntmps67
  go_wp2_with fail
  refine Calls.mono (indexf_any (fun k => FF k ∨ base ≤ k) ib sb ob f _ l _ HRW.out (fun k hk e => by
    rcases hk with hk | hk
    · exact HF.out k hk e
    · have := HB.out.1; omega) (by rw [HN.out]; exact HC.out) (by rw [HN.out]; exact hfew)) ?_
  rintro _ w1 ⟨p, hp, rfl, hw1, hc1⟩
  rw [HN.out] at hp hc1 ⊢
  have HW1 := Lib.hid hw1
  have HFO := Lib.hid hp
  clear hw1 hp HC
  by_cases hpn : p < n
  case neg =>
    rw [if_neg hpn]
    clear hc1
    have HP : Hid (DelPost FF base ib (keepTo f l n) w (.returned (.slice xa n ca)) w1) := by
      have h1 : keepTo f l n = l := by
        rw [keepTo_all (by rw [HN.out]; exact Nat.le_refl _) fun i hi => HFO.out.on i (by have := HFO.out.le; omega), List.take_of_length_le (by rw [HN.out]; exact Nat.le_refl _)]
      rw [h1]
      refine ⟨xa, ca, by rw [HN.out], ?_, ⟨HW1.out.os, HW1.out.tape, HW1.out.output, HW1.out.size, fun k hk hk2 => HW1.out.block k hk fun e => hk2 (.inl e)⟩⟩
      rw [HN.out]
      refine HRW.out.keep fun k hk hk2 => HW1.out.block k hk fun e => ?_
      rcases hk2 with hk2 | hk2
      · exact HF.out k hk2 e
      · have := HB.out.1; omega
    go_wp2_with fail
    go_ret
    exact HP.out
  rw [if_pos hpn] at hc1 ⊢
  obtain ⟨g, cap, ev, hg, hnc, hcm, harr⟩ := arr_of HA.out (by rw [HN.out]; omega)
  injection ev with e1 e2 e3
  subst e1 e3
  clear e2
  rw [HN.out] at hnc harr
  have HG := Lib.hid hg
  have HCM := Lib.hid hcm
  have HC1 := Lib.hid hc1
  have HA1 : Hid (Arr (fun k => FF k ∧ k ≠ g) g w1 n (eat l)) := harr.keep HW1.out (fun k hk e => HF.out k hk.1 e) (fun e => by have := HB.out.1; omega)
  clear harr hg hc1 HA HRW hcm
  have t1 : ¬ ((p : Int) = -1) := by omega
  have t1b : ((p : Int) == -1) = false := by simp
  go_wp2_with fail
  go_loopw [5, 6] (fun iv jv wr => ∃ (j : Nat) (xs : Nat → Ent), jv = .int .i64 (j : Int) ∧ p < j ∧ j ≤ n ∧ iv = .int .i64 ((keepTo f l j).length : Int) ∧ Hid (Del f l n j xs) ∧ Hid (Arr (fun k => FF k ∧ k ≠ g) g wr n xs) ∧ Hid (Clo ib sb ob j n f wr) ∧ Hid (Wrote (fun j => j = ib ∨ base ≤ j) w wr)) (fun _ jv _ => n - (intOf jv).toNat)
  case atStart =>
    have hk : keepTo f l (p + 1) = l.take p := by rw [keepTo_succ, if_neg (by rw [HFO.out.off hpn]; decide), List.append_nil, keepTo_all (by rw [HN.out]; omega) HFO.out.on]
    refine ⟨p + 1, eat l, by go_num, by omega, by omega, by rw [hk, List.length_take, HN.out, Nat.min_eq_left (by omega)], ⟨fun t ht => ?_, fun t _ _ => rfl⟩, HA1.out, HC1.out, ⟨HW1.out.os, HW1.out.tape, HW1.out.output, HW1.out.size, fun k hk hk2 => HW1.out.block k hk fun e => hk2 (.inl e)⟩⟩
    rw [hk] at ht ⊢
    rw [List.length_take] at ht
    simp [eat, List.getD, List.getElem?_take_of_lt (show t < p by omega)]
  case round =>
    obtain ⟨j, xs, rfl, hpj, hj, rfl, HDL, HAr, HCj, HW⟩ := hrel
    clear HA1 HC1 HW1
    have HQJ : Hid ((keepTo f l j).length < j) := keepTo_off (HFO.out.off hpn) j hpj
    obtain ⟨q, hq⟩ : ∃ q, (keepTo f l j).length = q := ⟨_, rfl⟩
    have HQ := Lib.hid hq
    rw [hq] at HQJ
    have hqj : q < j := HQJ.out
    rw [hq]
    clear hq
    by_cases hlt : j < n
    · have t2 : (j : Int) < (n : Int) := by omega
      have t3 : 0 ≤ (j : Int) := by omega
      obtain ⟨vk, vv, hk, hv, c0, c1, c2, c3⟩ := HAr.out.at_ j hlt
      have hxj : xs j = eat l j := HDL.out.tail j (Nat.le_refl _) hlt
      obtain ⟨e, he⟩ : ∃ e, eat l j = e := ⟨_, rfl⟩
      have HE := Lib.hid he
      rw [hxj, he] at hk hv
      rw [hxj, he] at c1 c2
      obtain ⟨ka, kc, rfl⟩ := hk.isSlice
      obtain ⟨va, vc, rfl⟩ := hv.isSlice
      have HK := Lib.hid hk
      have HV := Lib.hid hv
      clear hk hv hxj he
      go_upto_region 8 with fail
      refine wp_gen fun w3 hw3 => ?_
      have HB3 : Hid (Below wr.heap.size wr w3) := by rw [hw3]; exact (Below.refl _ _).alloc (Nat.le_refl _) _
      have HE3 : Hid (Blk w3 wr.heap.size (entCells e (.slice ka e.key.length kc) (.slice va e.value.length vc)).toArray 29) := by rw [hw3]; exact Blk.at_new rfl rfl
      clear hw3 c0 c1 c2 c3
      have HC3 : Hid (Clo ib sb ob j n f w3) := HCj.out.keep (S := fun _ => False) (Wrote.of_below HB3.out) id id id
      have HA3 : Hid (Arr (fun k => FF k ∧ k ≠ g) g w3 n xs) := HAr.out.keep (S := fun _ => False) (Wrote.of_below HB3.out) (fun _ _ => id) id
      have HW3 : Hid (Wrote (fun j => j = ib ∨ base ≤ j) w w3) := HW.out.trans (Wrote.of_below HB3.out)
      have HK3 := Lib.hid (HK.out.below HB3.out)
      have HV3 := Lib.hid (HV.out.below HB3.out)
      have HBR : Hid (base ≤ wr.heap.size) := Nat.le_trans HBW.out HW.out.size
      generalize wr.heap.size = zb at *
      have c0 : w3.cell? ⟨zb, 0, none⟩ = some (.slice ka e.key.length kc) := HE3.out.cell rfl
      have c1 : w3.cell? ⟨zb, 1, none⟩ = some (.int .u64 e.seq) := HE3.out.cell rfl
      have c2 : w3.cell? ⟨zb, 2, none⟩ = some (.int .i64 e.kind) := HE3.out.cell rfl
      have c3 : w3.cell? ⟨zb, 3, none⟩ = some (.slice va e.value.length vc) := HE3.out.cell rfl
      clear HCj HAr HW HK HV HB3
      obtain ⟨r, hr⟩ : ∃ r, f j = r := ⟨_, rfl⟩
      have HR := Lib.hid hr
      clear hr
      go_wp2_with fail
      refine Calls.mono (clo_at ib sb ob j n f e (.slice ka e.key.length kc) (.slice va e.value.length vc) _ HC3.out hlt (by omega) HR.out) ?_
      rintro _ w4 ⟨rfl, hw4, hc4⟩
      have HC4 := Lib.hid hc4
      have HA4 : Hid (Arr (fun k => FF k ∧ k ≠ g) g w4 n xs) := HA3.out.keep hw4 (fun k hk e => HF.out k hk.1 e) (fun e => by have := HB.out.1; have := HG.out; omega)
      have HE4 : Hid (Blk w4 zb (entCells e (.slice ka e.key.length kc) (.slice va e.value.length vc)).toArray 29) := HE3.out.same (hw4.block _ HE3.out.lt fun e => by have := HB.out.1; have := HBR.out; omega)
      have HK4 := Lib.hid (HK3.out.keep fun k hk hF => hw4.block k hk fun e => HF.out k hF.1 e)
      have HV4 := Lib.hid (HV3.out.keep fun k hk hF => hw4.block k hk fun e => HF.out k hF.1 e)
      have HW4 : Hid (Wrote (fun j => j = ib ∨ base ≤ j) w w4) := HW3.out.trans ⟨hw4.os, hw4.tape, hw4.output, hw4.size, fun k hk hk2 => hw4.block k hk fun e => hk2 (.inl e)⟩
      clear hw4 hc4 c0 c1 c2 c3 HC3 HA3 HE3 HK3 HV3 HW3
      cases r with
      | true =>
        have HDN : Hid (Del f l n (j + 1) (fun t => if t = q then e else xs t)) := by
          have h1 := HDL.out.put HR.out (by rw [HQ.out]; exact hqj)
          rw [HQ.out, HE.out] at h1
          exact h1
        have HLQ : Hid ((keepTo f l (j + 1)).length = q + 1) := by show _ = _; rw [keepTo_succ, if_pos HR.out, List.length_append, HQ.out]; rfl
        obtain ⟨cs, hb4, hs4⟩ := HA4.out.blk
        have HB4 := Lib.hid hb4
        have HS4 := Lib.hid hs4
        clear hb4 hs4
        have c0 : w4.cell? ⟨zb, 0, none⟩ = some (.slice ka e.key.length kc) := HE4.out.cell rfl
        have c1 : w4.cell? ⟨zb, 1, none⟩ = some (.int .u64 e.seq) := HE4.out.cell rfl
        have c2 : w4.cell? ⟨zb, 2, none⟩ = some (.int .i64 e.kind) := HE4.out.cell rfl
        have c3 : w4.cell? ⟨zb, 3, none⟩ = some (.slice va e.value.length vc) := HE4.out.cell rfl
        have t4 : (q : Int) < (n : Int) := by omega
        have t5 : 0 ≤ (q : Int) := by omega
        go_wp2_with (with_reducible refine pause_store ?_)
        clear c0 c1 c2 c3
        refine Pause.go (wpList_store_agg rfl _ _ _ rfl g (q * 4) rfl _ rfl _ _ HB4.out (by kernel_rfl) (by have := HS4.out; show q * 4 + 4 ≤ _; omega) (fun u hu => by simp at hu; rcases hu with rfl | rfl | rfl | rfl <;> rfl) ?_)
        refine list_gen fun w6 hw6 => ?_
        have HA6 : Hid (Arr (fun k => FF k ∧ k ≠ g) g w6 n (fun t => if t = q then e else xs t)) := by rw [hw6]; exact HA4.out.store (fun k hk => hk.2) HB4.out HS4.out (by omega) HK4.out HV4.out
        have HC6 : Hid (Clo ib sb ob (j + 1) n f w6) := by
          rw [hw6]
          exact HC4.out.keep (Wrote.setRow1 HB4.out) (fun e => by have := HB.out.1; have := HG.out; omega) (fun e => by have := HB.out.2.1; have := HG.out; omega) (fun e => by have := HB.out.2.2; have := HG.out; omega)
        have HW6 : Hid (Wrote (fun j => j = ib ∨ base ≤ j) w w6) := by rw [hw6]; exact HW4.out.setRow (.inl (.inr HG.out)) _
        clear hw6 HA4 HC4 HW4 HE4 HK4 HV4 HB4 HS4
        go_wp2_with fail
        go_roundw
        · exact ⟨j + 1, _, by go_num, by omega, by omega, by rw [HLQ.out]; rfl, HDN.out, HA6.out, HC6.out, HW6.out⟩
        · simp only [intOf]; omega
      | false =>
        have HDN : Hid (Del f l n (j + 1) xs) := HDL.out.skip HR.out
        have HLQ : Hid ((keepTo f l (j + 1)).length = q) := by show _ = _; rw [keepTo_succ, if_neg (by rw [HR.out]; decide), List.append_nil, HQ.out]
        go_wp2_with fail
        go_roundw
        · exact ⟨j + 1, xs, by go_num, by omega, by omega, by rw [HLQ.out], HDN.out, HA4.out, HC4.out, HW4.out⟩
        · simp only [intOf]; omega
    · have t2 : ¬ (j : Int) < (n : Int) := by omega
      have hjn : j = n := by omega
      subst hjn
      have hs1 := sl_l g j ca q (by omega) HCM.out (by omega)
      have hs2 := sl_h g j ca q (by omega)
      obtain ⟨cs, hb4, hs4⟩ := HAr.out.blk
      have HB4 := Lib.hid hb4
      have HS4 := Lib.hid hs4
      clear hb4 hs4
      go_wp2_with (with_reducible refine pause_clear ?_)
      clear hs1
      refine Pause.go (wpList_clear rfl 31 29 zeroEnt _ rfl Try.underlying31 zero_ent g (q * 4) (j - q) (ca - q) rfl cs _ HB4.out (by decide) (by have := HS4.out; show q * 4 + (j - q) * 4 ≤ _; omega) (by intro u hu; simp [zeroEnt, Value.cells] at hu; rcases hu with rfl | rfl | rfl | rfl <;> rfl) ?_)
      intro w6 cs6 hb6 hs6 hk6 hw6
      have HP : Hid (DelPost FF base ib (keepTo f l j) w (.returned (.slice (some ⟨g, 0, none⟩) q ca)) w6) := by
        refine ⟨some ⟨g, 0, none⟩, ca, by rw [HQ.out], ?_, HW.out.trans ⟨hw6.os, hw6.tape, hw6.output, hw6.size, fun k hk hk2 => hw6.block k hk fun e => hk2 (.inr (by rw [e]; exact HG.out))⟩⟩
        rw [HQ.out]
        refine (Arr.row (H := fun k => FF k ∧ k ≠ g) HQ.out (by omega) HCM.out ⟨cs6, hb6, by have := HS4.out; omega⟩ fun t ht => ?_).mono fun k _ hk => ?_
        · obtain ⟨vk, vv, k1, k2, c0, c1, c2, c3⟩ := HAr.out.at_ t (by omega)
          have hx := HDL.out.head t (by rw [HQ.out]; exact ht)
          rw [hx] at k1 k2 c1 c2
          have hcell : ∀ i, i < q * 4 → w6.cell? ⟨g, i, none⟩ = wr.cell? ⟨g, i, none⟩ := fun i hi => by rw [hb6.get, hk6 i hi, HB4.out.get]
          refine ⟨vk, vv, k1.keep fun k hk hH => hw6.block k hk hH.2, k2.keep fun k hk hH => hw6.block k hk hH.2, ?_, ?_, ?_, ?_⟩
          · rw [hcell _ (by omega)]; exact c0
          · rw [hcell _ (by omega)]; exact c1
          · rw [hcell _ (by omega)]; exact c2
          · rw [hcell _ (by omega)]; exact c3
        · rcases hk with hk | hk
          · right; rw [hk]; exact HG.out
          · exact .inl hk.1
      clear hb6 hs6 hk6 hw6 HAr HB4 HS4
      go_wp2_with fail
      go_ret
      exact HP.out
end Go.Proofs.Ytmpapipobjoboaa
