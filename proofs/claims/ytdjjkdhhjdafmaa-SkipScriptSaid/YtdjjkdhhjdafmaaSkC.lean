/- skip: what Insert does, without the walk. -/
import Derived.Test.YtdjjkdhhjdafmaaSkB
namespace Go.Proofs.Ytdjjkdhhjdafmaa
open Go.RowKit

/-- The cells of a new tower that is tied in up to level i. -/
def xCells (e : Ent) (vk vv : Value) (i h : Nat) (post : List Tw) : List Value := entCells e vk vv ++ (allCells i post ++ [.int .i64 (h : Int)])
theorem xCells_len (e : Ent) (vk vv : Value) (i h : Nat) (post : List Tw) : (xCells e vk vv i h post).length = 17 := by simp [xCells, entCells, allCells_len]
theorem xCells_all (e : Ent) (vk vv : Value) (i h : Nat) (post : List Tw) (k : Nat) (hk : k < 12) : (xCells e vk vv i h post)[4 + k]? = some (if k < i then nxt k post else .pointer none) := by
  unfold xCells
  rw [List.getElem?_append_right (by simp [entCells]), show 4 + k - (entCells e vk vv).length = k by simp [entCells], List.getElem?_append_left (by rw [allCells_len]; exact hk), allCells_get _ _ _ hk]
theorem xCells_high (e : Ent) (vk vv : Value) (i h : Nat) (post : List Tw) : (xCells e vk vv i h post)[16]? = some (.int .i64 (h : Int)) := by
  unfold xCells
  rw [List.getElem?_append_right (by simp [entCells]), show 16 - (entCells e vk vv).length = 12 by simp [entCells], List.getElem?_append_right (by rw [allCells_len]; omega), allCells_len]
  rfl
theorem xCells_set (e : Ent) (vk vv : Value) (i h : Nat) (post : List Tw) (hi : i < 12) : (xCells e vk vv i h post).set (4 + i) (nxt i post) = xCells e vk vv (i + 1) h post := by
  refine List.ext_getElem? fun j => ?_
  by_cases hj : j = 4 + i
  · subst hj
    rw [List.getElem?_set_self (by rw [xCells_len]; omega), xCells_all _ _ _ _ _ _ _ hi, if_pos (Nat.lt_succ_self i)]
  · rw [List.getElem?_set_ne (fun e => hj e.symm)]
    rcases Nat.lt_or_ge j 4 with h4 | h4
    · unfold xCells
      rw [List.getElem?_append_left (by simp [entCells]; omega), List.getElem?_append_left (by simp [entCells]; omega)]
    · rcases Nat.lt_or_ge j 16 with h16 | h16
      · obtain ⟨k, rfl⟩ : ∃ k, j = 4 + k := ⟨j - 4, by omega⟩
        rw [xCells_all _ _ _ _ _ _ _ (by omega), xCells_all _ _ _ _ _ _ _ (by omega)]
        by_cases hk : k < i
        · rw [if_pos hk, if_pos (by omega)]
        · rw [if_neg hk, if_neg (by omega)]
      · rcases Nat.lt_or_ge j 17 with h17 | h17
        · obtain rfl : j = 16 := by omega
          rw [xCells_high, xCells_high]
        · rw [List.getElem?_eq_none (by rw [xCells_len]; omega), List.getElem?_eq_none (by rw [xCells_len]; omega)]
theorem xCells_end (X : Nat) (e : Ent) (vk vv : Value) (h : Nat) (post : List Tw) : xCells e vk vv h h post = twCells ⟨X, e, h⟩ vk vv post := rfl

/-- A new tower X is being tied in; level i is next. -/
structure Tie (F : Nat → Prop) (b : Nat) (hd : Tw) (ts : List Tw) (e : Ent) (vk vv : Value) (X A i h : Nat) (w : World) : Prop where
  blk : Blk w b #[hd.ptr, .int .i64 (ts.length : Int), .int .i64 (sizeOf_ ts : Int)] 59
  ch : ChainTo F w (hd :: ahead e ts) ((⟨X, e, i⟩ : Tw) :: behind e ts)
  chb : ChainTo F w (behind e ts) []
  x : Blk w X (xCells e vk vv i h (behind e ts)).toArray 64
  hk : Bytes F w vk e.key
  hv : Bytes F w vv e.value
  a : Blk w A (aheads (hd :: ahead e ts) 0).toArray 62

/-- The blocks keep apart. -/
structure Apt (F : Nat → Prop) (b : Nat) (hd : Tw) (ts : List Tw) (e : Ent) (X A : Nat) : Prop where
  nd : ((hd :: ts).map Tw.b).Nodup
  fb : ¬ F b
  ft : ∀ t ∈ hd :: ts, ¬ F t.b
  fx : ¬ F X
  fa : ¬ F A
  bt : ∀ t ∈ hd :: ts, t.b ≠ b
  xt : ∀ t ∈ hd :: ts, t.b ≠ X
  at_ : ∀ t ∈ hd :: ts, t.b ≠ A
  xb : X ≠ b
  ab : A ≠ b
  xa : X ≠ A

theorem mem_ahead {e : Ent} {ts : List Tw} {hd t : Tw} (h : t ∈ hd :: ahead e ts) : t ∈ hd :: ts := by
  rcases List.mem_cons.1 h with rfl | h
  · exact List.mem_cons_self ..
  · exact List.mem_cons_of_mem _ (by rw [← ahead_behind e ts]; exact List.mem_append_left _ h)
theorem mem_behind {e : Ent} {ts : List Tw} {hd t : Tw} (h : t ∈ behind e ts) : t ∈ hd :: ts := List.mem_cons_of_mem _ (by rw [← ahead_behind e ts]; exact List.mem_append_right _ h)

theorem Tie.step {F : Nat → Prop} {b : Nat} {hd : Tw} {ts : List Tw} {e : Ent} {vk vv : Value} {X A i h : Nat} {w : World} (H : Tie F b hd ts e vk vv X A i h w) (P : Apt F b hd ts e X A) (hi : i < 12) (d : Tw) (hd' : lastH i (hd :: ahead e ts) = some d) :
    Tie F b hd ts e vk vv X A (i + 1) h ((w.setCell ⟨X, 4 + i, none⟩ (nxt i (behind e ts))).setCell ⟨d.b, 4 + i, none⟩ (.pointer (some ⟨X, 0, none⟩))) := by
  have hdm := mem_ahead (lastH_some hd').1
  have hdX := P.xt d hdm
  have hdb := P.bt d hdm
  have hdA := P.at_ d hdm
  have hFd := P.ft d hdm
  have hX : ∀ k, k ≠ X → k ≠ d.b → (((w.setCell ⟨X, 4 + i, none⟩ (nxt i (behind e ts))).setCell ⟨d.b, 4 + i, none⟩ (.pointer (some ⟨X, 0, none⟩)))).heap[k]? = w.heap[k]? := fun k h1 h2 => by
    rw [heap_setCell_other _ _ _ _ h2, heap_setCell_other _ _ _ _ h1]
  have hnd : ((hd :: ahead e ts).map Tw.b).Nodup := by
    have := P.nd
    rw [← ahead_behind e ts, ← List.cons_append, List.map_append] at this
    exact (List.nodup_append.1 this).1
  have hch : ChainTo F (w.setCell ⟨X, 4 + i, none⟩ (nxt i (behind e ts))) (hd :: ahead e ts) ((⟨X, e, i⟩ : Tw) :: behind e ts) := H.ch.keep fun k _ hk => heap_setCell_other _ _ _ _ (by
    rcases hk with ⟨t, ht, rfl⟩ | hk
    · exact P.xt t (mem_ahead ht)
    · intro e0
      have e1 : k = X := e0
      subst e1
      exact P.fx hk)
  refine ⟨?_, ?_, ?_, ?_, ?_, ?_, ?_⟩
  · exact H.blk.same (hX b (fun e => P.xb e.symm) (fun e => hdb e.symm))
  · exact ChainTo.raise (⟨X, e, h⟩ : Tw) d (behind e ts) hi hd' hnd (fun t ht => P.ft t (mem_ahead ht)) hch
  · refine H.chb.keep fun k _ hk => hX k ?_ ?_
    · rcases hk with ⟨t, ht, rfl⟩ | hk
      · exact P.xt t (mem_behind ht)
      · intro e0; exact P.fx (e0 ▸ hk)
    · rcases hk with ⟨t, ht, rfl⟩ | hk
      · intro e0
        have hn := P.nd
        rw [← ahead_behind e ts, ← List.cons_append, List.map_append] at hn
        exact (List.nodup_append.1 hn).2.2 _ (List.mem_map_of_mem (lastH_some hd').1) _ (List.mem_map_of_mem ht) e0.symm
      · intro e0; exact hFd (e0 ▸ hk)
  · have h1 := (H.x.set (4 + i) (nxt i (behind e ts))).set_other ⟨d.b, 4 + i, none⟩ (.pointer (some ⟨X, 0, none⟩)) hdX
    rw [List.setIfInBounds_toArray, xCells_set _ _ _ _ _ _ hi] at h1
    exact h1
  · exact H.hk.keep fun k _ hk => hX k (fun e0 => P.fx (e0 ▸ hk)) (fun e0 => hFd (e0 ▸ hk))
  · exact H.hv.keep fun k _ hk => hX k (fun e0 => P.fx (e0 ▸ hk)) (fun e0 => hFd (e0 ▸ hk))
  · exact H.a.same (hX A (fun e => P.xa e.symm) (fun e => hdA e.symm))

theorem sizeOf_insert (e : Ent) (x : Tw) (ts : List Tw) : sizeOf_ (ahead e ts ++ x :: behind e ts) = sizeOf_ ts + x.size := by
  have h : sizeOf_ ts = sizeOf_ (ahead e ts ++ behind e ts) := by rw [ahead_behind]
  rw [h]
  unfold sizeOf_
  simp only [List.map_append, List.map_cons, List.sum_append, List.sum_cons]
  omega

theorem rising_insert {e : Ent} {ts : List Tw} (x : Tw) (hx : x.e = e) (h : Rising ts) (hf : found e ts = none) : Rising (ahead e ts ++ x :: behind e ts) := by
  have h2 : Rising (ahead e ts ++ behind e ts) := by rw [ahead_behind]; exact h
  obtain ⟨s1, s2, s3⟩ := List.pairwise_append.1 h2
  have hlt : ∀ t ∈ behind e ts, Ent.cmp e t.e < 0 := by
    intro t ht
    cases hb : behind e ts with
    | nil => rw [hb] at ht; cases ht
    | cons y r =>
      have hy : Ent.cmp y.e e ≠ 0 := by
        intro h0
        obtain ⟨h1, h2⟩ := ecmp_zero h0
        unfold found at hf
        rw [hb] at hf
        simp only at hf
        rw [if_pos ⟨h2, h1⟩] at hf
        cases hf
      have hge := behind_ge e ts h y (by rw [hb]; exact List.mem_cons_self ..)
      have hay := isCmp_ent.anti y.e e
      have hey : Ent.cmp e y.e < 0 := by omega
      rw [hb] at ht s2
      rcases List.mem_cons.1 ht with rfl | ht
      · exact hey
      · have hyt := (List.pairwise_cons.1 s2).1 t ht
        have h3 := isCmp_ent.tr e y.e t.e (by omega) (by omega)
        have h4 := isCmp_ent.tr t.e e y.e
        have h5 := isCmp_ent.anti e t.e
        have h6 := isCmp_ent.anti y.e t.e
        by_cases h7 : Ent.cmp e t.e < 0
        · exact h7
        · have := h4 (by omega) (by omega); omega
  refine List.pairwise_append.2 ⟨s1, List.pairwise_cons.2 ⟨fun t ht => by rw [hx]; exact hlt t ht, s2⟩, ?_⟩
  intro a ha t ht
  rcases List.mem_cons.1 ht with rfl | ht
  · rw [hx]; exact ahead_lt e ts a ha
  · exact s3 a ha t ht

theorem mem_ins {e : Ent} {ts : List Tw} {hd x t : Tw} (h : t ∈ hd :: (ahead e ts ++ x :: behind e ts)) : t = x ∨ t ∈ hd :: ts := by
  rcases List.mem_cons.1 h with rfl | h
  · exact .inr (List.mem_cons_self ..)
  · rcases List.mem_append.1 h with h | h
    · exact .inr (mem_ahead (List.mem_cons_of_mem _ h))
    · rcases List.mem_cons.1 h with rfl | h
      · exact .inl rfl
      · exact .inr (mem_behind h)

/-- The new tower is tied in whole. -/
theorem Tie.done {lo : Lo} {b : Nat} {hd : Tw} {ts : List Tw} {e : Ent} {vk vv : Value} {X A h : Nat} {w0 W W' : World} (h0 : Skp lo w0 b hd ts)
    (H : Tie (fun k => fk lo b (hd :: ts) k ∧ k ≠ X ∧ k ≠ A) b hd ts e vk vv X A h h W) (P : Apt (fun k => fk lo b (hd :: ts) k ∧ k ≠ X ∧ k ≠ A) b hd ts e X A)
    (hX : w0.heap.size ≤ X) (h1 : 1 ≤ h) (h2 : h ≤ 12) (hf : found e ts = none) (hn : ts.length < 1000000) (hz : e.key.length ≤ 4096 ∧ e.value.length ≤ 65536)
    (hk : ∀ k, k ≠ b → W'.heap[k]? = W.heap[k]?)
    (hb : Blk W' b #[hd.ptr, .int .i64 ((ts.length : Int) + 1), .int .i64 ((sizeOf_ ts : Int) + ((e.key.length : Int) + (e.value.length : Int) + 32))] 59) :
    Skp lo W' b hd (ahead e ts ++ ⟨X, e, h⟩ :: behind e ts) := by
  have hlen : (ahead e ts ++ (⟨X, e, h⟩ : Tw) :: behind e ts).length = ts.length + 1 := by
    have := congrArg List.length (ahead_behind e ts)
    rw [List.length_append] at this
    rw [List.length_append, List.length_cons]; omega
  have hsz : sizeOf_ (ahead e ts ++ (⟨X, e, h⟩ : Tw) :: behind e ts) = sizeOf_ ts + (e.key.length + e.value.length + 32) := sizeOf_insert e _ ts
  have hsm := h0.sm
  have hlo := h0.lo_le
  refine ⟨?_, ?_, h0.h12, ?_, ?_, ?_, h0.l1, ?_, rising_insert _ rfl h0.up hf, by rw [hlen]; omega, by rw [hlen, hsz]; omega, fun k hk' => h0.pu k (by have := (H.x.same (hk X P.xb)).lt; omega)⟩
  · rw [hlen, hsz]
    have e1 : ((ts.length + 1 : Nat) : Int) = (ts.length : Int) + 1 := by omega
    have e2 : ((sizeOf_ ts + (e.key.length + e.value.length + 32) : Nat) : Int) = (sizeOf_ ts : Int) + ((e.key.length : Int) + (e.value.length : Int) + 32) := by omega
    rw [e1, e2]
    exact hb
  · have hkk : ∀ k, (fk lo b (hd :: ts) k ∧ k ≠ X ∧ k ≠ A) → W'.heap[k]? = W.heap[k]? := fun k h => hk k h.1.2.1
    have c1 : ChainTo (fun k => fk lo b (hd :: ts) k ∧ k ≠ X ∧ k ≠ A) W' (hd :: ahead e ts) ((⟨X, e, h⟩ : Tw) :: behind e ts) := H.ch.keep fun k _ h => by
      rcases h with ⟨t, ht, rfl⟩ | h
      · exact hk _ (P.bt t (mem_ahead ht))
      · exact hkk k h
    have c2 : ChainTo (fun k => fk lo b (hd :: ts) k ∧ k ≠ X ∧ k ≠ A) W' (behind e ts) [] := H.chb.keep fun k _ h => by
      rcases h with ⟨t, ht, rfl⟩ | h
      · exact hk _ (P.bt t (mem_behind ht))
      · exact hkk k h
    have c3 : ChainTo (fun k => fk lo b (hd :: ts) k ∧ k ≠ X ∧ k ≠ A) W' ((⟨X, e, h⟩ : Tw) :: behind e ts) [] :=
      ⟨⟨vk, vv, by rw [List.append_nil, ← xCells_end]; exact H.x.same (hk X P.xb), H.hk.keep fun k _ h => hkk k h, H.hv.keep fun k _ h => hkk k h⟩, c2⟩
    have c4 := ChainTo.append (l := hd :: ahead e ts) (m := (⟨X, e, h⟩ : Tw) :: behind e ts) (sfx := []) (by rw [List.append_nil]; exact c1) c3
    refine ChainTo.mono c4 fun k _ hF => ⟨hF.1.1, hF.1.2.1, fun t ht e0 => ?_⟩
    rcases mem_ins ht with rfl | ht
    · exact hF.2.1 e0.symm
    · exact hF.1.2.2 t ht e0
  · intro t ht
    rcases mem_ins (hd := hd) (List.mem_cons_of_mem _ ht) with rfl | ht'
    · exact ⟨h1, h2⟩
    · rcases List.mem_append.1 ht with h | h
      · exact h0.hs t (by rw [← ahead_behind e ts]; exact List.mem_append_left _ h)
      · rcases List.mem_cons.1 h with rfl | h
        · exact ⟨h1, h2⟩
        · exact h0.hs t (by rw [← ahead_behind e ts]; exact List.mem_append_right _ h)
  · have hp : (hd :: (ahead e ts ++ (⟨X, e, h⟩ : Tw) :: behind e ts)).Perm ((⟨X, e, h⟩ : Tw) :: hd :: ts) := by
      refine (List.Perm.cons hd List.perm_middle).trans ?_
      rw [ahead_behind]
      exact List.Perm.swap _ _ _
    refine ((hp.map Tw.b).nodup_iff).2 (List.nodup_cons.2 ⟨fun hm => ?_, h0.nd⟩)
    obtain ⟨t, ht, e0⟩ := List.mem_map.1 hm
    exact P.xt t ht e0
  · intro t ht
    rcases mem_ins ht with rfl | ht
    · exact P.xb
    · exact h0.ne t ht
  · intro t ht
    rcases mem_ins ht with rfl | ht
    · show lo.a ≤ X; omega
    · exact h0.l2 t ht
end Go.Proofs.Ytdjjkdhhjdafmaa
