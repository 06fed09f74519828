/- Merge: what is seen, as plain lists. Merge: seen, Seen. Merge: Between. -/
import Derived.Test.YtmpapipobjoboaaMgGc
namespace Go.Proofs.Ytmpapipobjoboaa
open Go.RowKit

/-- What is seen at a number: of each key the first one at or below it, if it is a put; d: the key that was told last. -/
def seenGo (s : Int) : Option (List UInt8) → List Ent → List Ent
  | _, [] => []
  | d, e :: r => if s < e.seq ∨ d = some e.key then seenGo s d r else (if e.kind = 1 then [e] else []) ++ seenGo s (some e.key) r
def seenOf (s : Int) (l : List Ent) : List Ent := seenGo s none l

/-- Is an entry hidden, by its number or by the one ahead of it? -/
def hidB (s : Int) (p : Option Ent) (e : Ent) : Bool := decide (s < e.seq) || match p with
  | none => false
  | some q => decide (q.key = e.key) && decide (q.seq ≤ s)
def rseenGo (s : Int) : Option Ent → List Ent → List Ent
  | _, [] => []
  | p, e :: r => (if hidB s p e = false ∧ e.kind = 1 then [e] else []) ++ rseenGo s (some e) r

theorem key_between {a b c : Ent} (h1 : Ent.cmp a b < 0) (h2 : Ent.cmp b c < 0) (hk : a.key = c.key) : b.key = c.key ∧ b.seq < a.seq := by
  have h3 : Ent.bcmp a.key b.key ≤ 0 := by
    unfold Ent.cmp Ent.lex at h1
    split at h1 <;> omega
  have h4 : Ent.bcmp b.key c.key ≤ 0 := by
    unfold Ent.cmp Ent.lex at h2
    split at h2 <;> omega
  have h5 := isCmp_bcmp.anti a.key b.key
  rw [hk] at h3 h5
  have h6 := isCmp_bcmp.anti c.key b.key
  have h7 : Ent.bcmp b.key c.key = 0 := by omega
  have h8 := bcmp_zero h7
  refine ⟨h8, ?_⟩
  unfold Ent.cmp Ent.lex at h1
  rw [hk, h8, bcmp_self] at h1
  simp only [ne_eq, not_true_eq_false, if_false] at h1
  unfold Ent.sgn at h1
  split at h1
  · assumption
  · split at h1 <;> omega

/-- Both tell the same of entries in order. -/
theorem seen_eq (s : Int) : ∀ (l : List Ent) (p : Option Ent) (d : Option (List UInt8)), Sorted l →
    (∀ q, p = some q → ∀ e ∈ l, Ent.cmp q e < 0) →
    (∀ e ∈ l, d = some e.key → ∃ q, p = some q ∧ q.key = e.key ∧ q.seq ≤ s) →
    (∀ q, p = some q → q.seq ≤ s → d = some q.key) → rseenGo s p l = seenGo s d l
  | [], _, _, _, _, _, _ => rfl
  | e :: r, p, d, hs, hp, h1, h2 => by
    obtain ⟨hs1, hs2⟩ := List.pairwise_cons.1 hs
    have hb : hidB s p e = true ↔ (s < e.seq ∨ d = some e.key) := by
      unfold hidB
      cases p with
      | none =>
        simp only [Bool.or_false, decide_eq_true_eq]
        refine ⟨.inl, fun h => h.elim id fun h => ?_⟩
        obtain ⟨q, hq, _⟩ := h1 e (List.mem_cons_self ..) h
        cases hq
      | some q =>
        simp only [Bool.or_eq_true, Bool.and_eq_true, decide_eq_true_eq]
        refine or_congr Iff.rfl ⟨fun ⟨g1, g2⟩ => ?_, fun h => ?_⟩
        · rw [h2 q rfl g2, g1]
        · obtain ⟨q', hq, g1, g2⟩ := h1 e (List.mem_cons_self ..) h
          injection hq with hq
          subst hq
          exact ⟨g1, g2⟩
    have ih : ∀ d', (∀ e' ∈ r, d' = some e'.key → e.key = e'.key ∧ e.seq ≤ s) → (e.seq ≤ s → d' = some e.key) → rseenGo s (some e) r = seenGo s d' r := fun d' g1 g2 =>
      seen_eq s r (some e) d' hs2 (fun q hq e' he' => by injection hq with hq; subst hq; exact hs1 e' he') (fun e' he' hd => ⟨e, rfl, g1 e' he' hd⟩) (fun q hq hle => by injection hq with hq; subst hq; exact g2 hle)
    unfold rseenGo seenGo
    by_cases hh : s < e.seq ∨ d = some e.key
    · rw [if_pos hh, if_neg (fun h => by rw [hb.2 hh] at h; exact absurd h.1 (by simp))]
      rw [List.nil_append]
      refine ih d (fun e' he' hd => ?_) (fun hle => hh.resolve_left (by omega))
      obtain ⟨q, hq, g1, g2⟩ := h1 e' (List.mem_cons_of_mem _ he') hd
      have k1 := hp q hq e (List.mem_cons_self ..)
      have k2 := hs1 e' he'
      obtain ⟨k3, k4⟩ := key_between k1 k2 g1
      exact ⟨k3, by omega⟩
    · have hf : hidB s p e = false := by
        cases hx : hidB s p e with
        | false => rfl
        | true => exact absurd (hb.1 hx) hh
      rw [if_neg hh, hf]
      simp only [true_and]
      congr 1
      exact ih _ (fun e' _ hd => by injection hd with hd; exact ⟨hd, by omega⟩) (fun _ => rfl)

theorem rseen_seen (s : Int) {l : List Ent} (h : Sorted l) : rseenGo s none l = seenOf s l :=
  seen_eq s l none none h (fun _ h => by cases h) (fun _ _ h => by cases h) (fun _ h => by cases h)

/-- Is a key between two others? -/
def inR (f t : List UInt8) (e : Ent) : Bool := !Op.bytesLess e.key f && (decide (t.length = 0) || Op.bytesLess e.key t)
def lim (n : Int) (l : List Ent) : List Ent := l.take n.toNat
theorem inR_all (e : Ent) : inR [] [] e = true := by
  unfold inR
  have : Op.bytesLess e.key [] = false := by cases e.key <;> rfl
  rw [this]; rfl

theorem seenGo_len (s : Int) : ∀ (l : List Ent) (d : Option (List UInt8)), (seenGo s d l).length ≤ l.length
  | [], _ => Nat.le_refl _
  | e :: r, d => by
    have h1 := seenGo_len s r d
    have h2 := seenGo_len s r (some e.key)
    unfold seenGo
    split
    · simp only [List.length_cons]; omega
    · rw [List.length_append, List.length_cons]
      split <;> simp only [List.length_cons, List.length_nil] <;> omega
theorem rseenGo_len (s : Int) : ∀ (l : List Ent) (p : Option Ent), (rseenGo s p l).length ≤ l.length
  | [], _ => Nat.le_refl _
  | e :: r, p => by
    have h1 := rseenGo_len s r (some e)
    unfold rseenGo
    rw [List.length_append, List.length_cons]
    split <;> simp only [List.length_cons, List.length_nil] <;> omega

/-- The key that was told last. -/
def seenD (s : Int) : Option (List UInt8) → List Ent → Option (List UInt8)
  | d, [] => d
  | d, e :: r => if s < e.seq ∨ d = some e.key then seenD s d r else seenD s (some e.key) r
theorem seenGo_cons (s : Int) (d : Option (List UInt8)) (e : Ent) (r : List Ent) : seenGo s d (e :: r) = if s < e.seq ∨ d = some e.key then seenGo s d r else (if e.kind = 1 then [e] else []) ++ seenGo s (some e.key) r := rfl
theorem seenD_cons (s : Int) (d : Option (List UInt8)) (e : Ent) (r : List Ent) : seenD s d (e :: r) = if s < e.seq ∨ d = some e.key then seenD s d r else seenD s (some e.key) r := rfl
theorem rseenGo_cons (s : Int) (p : Option Ent) (e : Ent) (r : List Ent) : rseenGo s p (e :: r) = (if hidB s p e = false ∧ e.kind = 1 then [e] else []) ++ rseenGo s (some e) r := rfl
theorem seenGo_append (s : Int) : ∀ (a b : List Ent) (d : Option (List UInt8)), seenGo s d (a ++ b) = seenGo s d a ++ seenGo s (seenD s d a) b
  | [], _, _ => rfl
  | e :: r, b, d => by
    have h1 := seenGo_append s r b
    rw [List.cons_append, seenGo_cons, seenGo_cons, seenD_cons]
    by_cases h : s < e.seq ∨ d = some e.key
    · rw [if_pos h, if_pos h, if_pos h]; exact h1 d
    · rw [if_neg h, if_neg h, if_neg h, h1, List.append_assoc]
theorem seenD_append (s : Int) : ∀ (a b : List Ent) (d : Option (List UInt8)), seenD s d (a ++ b) = seenD s (seenD s d a) b
  | [], _, _ => rfl
  | e :: r, b, d => by
    have h1 := seenD_append s r b
    rw [List.cons_append, seenD_cons, seenD_cons]
    by_cases h : s < e.seq ∨ d = some e.key
    · rw [if_pos h, if_pos h]; exact h1 d
    · rw [if_neg h, if_neg h]; exact h1 _
theorem seenGo_one (s : Int) (d : Option (List UInt8)) (e : Ent) : seenGo s d [e] = if s < e.seq ∨ d = some e.key then [] else if e.kind = 1 then [e] else [] := by
  rw [seenGo_cons]
  split <;> simp [seenGo]
theorem seenD_one (s : Int) (d : Option (List UInt8)) (e : Ent) : seenD s d [e] = if s < e.seq ∨ d = some e.key then d else some e.key := by
  rfl
def lastE (p : Option Ent) : List Ent → Option Ent
  | [] => p
  | e :: r => lastE (some e) r
theorem rseenGo_append (s : Int) : ∀ (a b : List Ent) (p : Option Ent), rseenGo s p (a ++ b) = rseenGo s p a ++ rseenGo s (lastE p a) b
  | [], _, _ => rfl
  | e :: r, b, p => by
    have h1 := rseenGo_append s r b (some e)
    rw [List.cons_append, rseenGo_cons, rseenGo_cons, h1, List.append_assoc]
    rfl
theorem rseenGo_one (s : Int) (p : Option Ent) (e : Ent) : rseenGo s p [e] = if hidB s p e = false ∧ e.kind = 1 then [e] else [] := by
  rw [rseenGo_cons]
  simp [rseenGo]
theorem lastE_append (p : Option Ent) : ∀ (a : List Ent) (e : Ent), lastE p (a ++ [e]) = some e
  | [], _ => rfl
  | x :: r, e => by
    rw [List.cons_append]
    exact lastE_append (some x) r e
end Go.Proofs.Ytmpapipobjoboaa

namespace Go.Proofs.Ytmpapipobjoboaa
open Go.RowKit

theorem seen_take {s : Int} {l : List Ent} {j : Nat} (h : j < l.length) : seenGo s none (l.take (j + 1)) = seenGo s none (l.take j) ++ seenGo s (seenD s none (l.take j)) [eat l j] ∧ seenD s none (l.take (j + 1)) = seenD s (seenD s none (l.take j)) [eat l j] := by
  rw [List.take_succ_eq_append_getElem h, eat_eq h]
  exact ⟨seenGo_append _ _ _ _, seenD_append _ _ _ _⟩

/-- The key that was told last, as it lies in memory. -/
structure Told (F : Nat → Prop) (w : World) (dv : Value) (b : Bool) (d : Option (List UInt8)) : Prop where
  ex : ∃ k, Bytes F w dv k ∧ d = if b = true then some k else none
theorem Told.below {F : Nat → Prop} {w w' : World} {dv : Value} {b : Bool} {d : Option (List UInt8)} (h : Told F w dv b d) (hb : Below w.heap.size w w') : Told F w' dv b d := by
  obtain ⟨k, h1, h2⟩ := h.ex
  exact ⟨k, h1.below hb, h2⟩

set_option maxRecDepth 100000 in
set_option maxHeartbeats 2000000 in
theorem mseenIn_any (F : Nat → Prop) (v : Value) (l : List Ent) (s : Int) (w : World) (hA : Rw entK F w v l) (hfew : l.length ≤ 100000) :
    Calls Try.prog 61 #[.int .u64 s, v] w fun x w' => ∃ v', x = .returned v' ∧ Rw entK (fun k => F k ∨ w.heap.size ≤ k) w' v' (seenOf s l) ∧ Below w.heap.size w w' := by
  obtain ⟨aa, ac, rfl⟩ := hA.isSlice
  have HA : Hid (Rw entK (fun k => F k ∧ k < w.heap.size) w (.slice aa l.length ac) l) := hA.mono fun k hk h => ⟨h, hk⟩
  clear hA
  obtain ⟨n, hn⟩ : ∃ n, l.length = n := ⟨_, rfl⟩
  have HN := Lib.hid hn
  rw [hn] at HA hfew
  rw [hn]
  clear hn
  go_enter Try.func61, Try.ntmps61
  go_wp2_with fail
  go_loopw [5, 6, 7, 12] (fun ov dv sv iv wr => ∃ (j : Nat) (b : Bool) (dn dc : Nat) (da : Option Addr), iv = .int .i64 (j : Int) ∧ j ≤ n ∧ sv = .bool b ∧ dv = .slice da dn dc ∧ Hid (Told (fun k => F k ∧ k < w.heap.size) wr (.slice da dn dc) b (seenD s none (l.take j))) ∧ Hid (ROwnF entK (fun k => F k ∧ k < w.heap.size) w.heap.size 29 wr ov (seenGo s none (l.take j))) ∧ Hid (Below w.heap.size w wr)) (fun _ _ _ iv _ => n - (intOf iv).toNat)
  case atStart => exact ⟨0, false, 0, 0, none, rfl, by omega, rfl, rfl, ⟨[], Bytes.nil _ _, rfl⟩, ROwnF.nil _ _ _ _ _, Below.refl _ _⟩
  case round =>
    obtain ⟨j, b, dn, dc, da, rfl, hj, rfl, rfl, HD, HRO, HB⟩ := hrel
    obtain ⟨oo, oc, rfl⟩ := HRO.out.isSlice
    by_cases hlt : j < n
    · have hjl : (j : Int) < (n : Int) := by omega
      have hl1 : j < l.length := by rw [HN.out]; omega
      obtain ⟨ba, oa, capa, ea, _, hba, hca⟩ := ents_at (HA.out.below HB.out) (by omega)
      injection ea with e1 e2 e3
      subst e1 e3
      clear e2
      obtain ⟨vk, vv, hk, hv, c0, c1, c2, c3⟩ := hca j hl1
      rw [eat_eq hl1] at hk hv c1 c2
      obtain ⟨ka, kc, rfl⟩ := hk.isSlice
      obtain ⟨va, vc, rfl⟩ := hv.isSlice
      have HT := Lib.hid (seen_take (s := s) hl1)
      have HLen : Hid ((seenGo s none (l.take j)).length < 1000000) := by have := seenGo_len s (l.take j) none; rw [List.length_take] at this; show _ < _; omega
      clear hca hba hl1
      generalize eat l j = e at *
      generalize seenGo s none (l.take j) = out at *
      generalize seenD s none (l.take j) = d at *
      go_upto_region 7 with fail
      refine wp_gen fun w1 hw1 => ?_
      have HW1 : Hid (Below wr.heap.size wr w1) := by rw [hw1]; exact (Below.refl _ _).alloc (Nat.le_refl _) _
      have HE1 : Hid (Blk w1 wr.heap.size (entCells e (.slice ka e.key.length kc) (.slice va e.value.length vc)).toArray 29) := by rw [hw1]; exact Blk.at_new rfl rfl
      have HK1 : Hid (Bytes (fun k => F k ∧ k < w.heap.size) w1 (.slice ka e.key.length kc) e.key) := hk.below HW1.out
      have HV1 : Hid (Bytes (fun k => F k ∧ k < w.heap.size) w1 (.slice va e.value.length vc) e.value) := hv.below HW1.out
      have HD1 := Lib.hid (HD.out.below HW1.out)
      have HRO1 := Lib.hid (HRO.out.below HW1.out)
      have HB1 : Hid (Below w.heap.size w w1) := HB.out.trans (HW1.out.mono HB.out.size)
      clear hw1 hk hv c0 c1 c2 c3 HD HRO HB HW1
      have k0 : w1.cell? ⟨wr.heap.size, 0, none⟩ = some (.slice ka e.key.length kc) := HE1.out.cell rfl
      have k1 : w1.cell? ⟨wr.heap.size, 1, none⟩ = some (.int .u64 e.seq) := HE1.out.cell rfl
      obtain ⟨hid, hh⟩ : ∃ hid : Bool, hid = decide (s < e.seq ∨ d = some e.key) := ⟨_, rfl⟩
      have HH := Lib.hid hh
      clear hh
      go_cut [28] from 16 to 27 (fun x wx => x = .bool hid ∧ ∃ n, wx = w1.drewN n)
      case first =>
        by_cases h1 : s < e.seq
        · have hx : hid = true := by rw [HH.out]; simp [h1]
          subst hx
          go_wp2_with fail
          go_meet
          exact ⟨rfl, 0, rfl⟩
        · cases b with
          | false =>
            have hd : d = none := by obtain ⟨_, _, h⟩ := HD1.out.ex; exact h
            have hx : hid = false := by rw [HH.out, hd]; simp [h1]
            subst hx
            clear hd
            go_wp2_with fail
            go_meet
            exact ⟨rfl, 0, rfl⟩
          | true =>
            obtain ⟨k, hk, hd⟩ := HD1.out.ex
            have hx : hid = decide (k = e.key) := by rw [HH.out, hd]; simp [h1]
            have HK := Lib.hid hk
            have HX := Lib.hid hx
            clear hk hd hx
            go_wp2_with fail
            refine Calls.mono (equal_any _ _ _ _ k e.key _ HK.out HK1.out) ?_
            rintro _ w2 ⟨rfl, hn2⟩
            rw [← HX.out]
            have HN2 := Lib.hid hn2
            clear hn2
            go_wp2_with fail
            go_meet
            exact ⟨rfl, HN2.out⟩
      case rest =>
        obtain ⟨rfl, hn2⟩ := hcut
        have HB2 : Hid (Below w1.heap.size w1 wc) := below_drewN hn2
        clear hn2 k0 k1
        have HB3 : Hid (Below w.heap.size w wc) := HB1.out.trans (HB2.out.mono HB1.out.size)
        have HRO2 := Lib.hid (HRO1.out.below HB2.out)
        have HD2 := Lib.hid (HD1.out.below HB2.out)
        have HE2 := Lib.hid (HE1.out.below HB2.out HE1.out.lt)
        have HK2 := Lib.hid (HK1.out.below HB2.out)
        have HV2 := Lib.hid (HV1.out.below HB2.out)
        clear HB1 HB2 HRO1 HD1 HE1 HK1 HV1
        cases hid with
        | true =>
          have HS : Hid (s < e.seq ∨ d = some e.key) := by show s < e.seq ∨ d = some e.key; exact of_decide_eq_true HH.out.symm
          go_wp2_with fail
          go_roundw
          · exact ⟨j + 1, b, dn, dc, da, by go_num, by omega, rfl, rfl, by rw [HT.out.2, seenD_one, if_pos HS.out]; exact HD2.out, by rw [HT.out.1, seenGo_one, if_pos HS.out, List.append_nil]; exact HRO2.out, HB3.out⟩
          · simp only [intOf]; omega
        | false =>
          have HS : Hid (¬ (s < e.seq ∨ d = some e.key)) := by show ¬ (s < e.seq ∨ d = some e.key); exact of_decide_eq_false HH.out.symm
          have HD3 : Hid (Told (fun k => F k ∧ k < w.heap.size) wc (.slice ka e.key.length kc) true (seenD s none (l.take (j + 1)))) := by rw [HT.out.2, seenD_one, if_neg HS.out]; exact ⟨e.key, HK2.out, rfl⟩
          have k0 : wc.cell? ⟨wr.heap.size, 0, none⟩ = some (.slice ka e.key.length kc) := HE2.out.cell rfl
          have k1 : wc.cell? ⟨wr.heap.size, 1, none⟩ = some (.int .u64 e.seq) := HE2.out.cell rfl
          have k2 : wc.cell? ⟨wr.heap.size, 2, none⟩ = some (.int .i64 e.kind) := HE2.out.cell rfl
          have k3 : wc.cell? ⟨wr.heap.size, 3, none⟩ = some (.slice va e.value.length vc) := HE2.out.cell rfl
          by_cases hk1 : e.kind = 1
          · have hkb : (e.kind == 1) = true := beq_iff_eq.2 hk1
            have HKD := Lib.hid hk1
            clear hk1
            go_wp2_with (with_reducible refine pause_append ?_)
            refine list_gen fun w3 hw3 => ?_
            have HB4 : Hid (Below wc.heap.size wc w3) := by rw [hw3]; exact (Below.refl _ _).alloc (Nat.le_refl _) _
            have HS3 : Hid (Blk w3 wc.heap.size (entCells e (.slice ka e.key.length kc) (.slice va e.value.length vc)).toArray 29) := by rw [hw3]; exact Blk.at_new rfl rfl
            clear hw3 k0 k1 k2 k3 hkb
            have HT3 : Hid (Below w.heap.size w w3) := HB3.out.trans (HB4.out.mono HB3.out.size)
            have HRO3 := Lib.hid (HRO2.out.below HB4.out)
            refine Pause.go (wpList_append_elF (K := entK) 31 29 _ 64 Try.underlying31 info_entO rfl (fun k => F k ∧ k < w.heap.size) w.heap.size (.slice oo out.length oc) out wc.heap.size 29 _ e rfl _ _ rfl rfl rfl HRO3.out HS3.out
              ⟨_, _, rfl, (HK2.out.below HB4.out).mono fun j _ hj => ⟨hj, fun e1 => by have := (HRO3.out.lt j e1).1; omega⟩, (HV2.out.below HB4.out).mono fun j _ hj => ⟨hj, fun e1 => by have := (HRO3.out.lt j e1).1; omega⟩⟩ HLen.out (by decide) HT3.out.size ?_)
            intro v4 w4 hro hg
            have HRO4 : Hid (ROwnF entK (fun k => F k ∧ k < w.heap.size) w.heap.size 29 w4 v4 (seenGo s none (l.take (j + 1)))) := by rw [HT.out.1, seenGo_one, if_neg HS.out, if_pos HKD.out]; exact hro
            have HB5 : Hid (Below w.heap.size w w4) := HT3.out.trans (hg.below HT3.out.size fun k e0 => (HRO3.out.lt k e0).1)
            have HD4 : Hid (Told (fun k => F k ∧ k < w.heap.size) w4 (.slice ka e.key.length kc) true (seenD s none (l.take (j + 1)))) := by
              obtain ⟨k, g1, g2⟩ := (HD3.out.below HB4.out).ex
              exact ⟨k, g1.keep fun q hq hF => hg.grown.block q hq fun e0 => by have := (HRO3.out.lt q e0.symm).1; omega, g2⟩
            clear hro hg HRO3 HRO2 HS3 HK2 HV2 HD3 HD2
            go_wp2_with fail
            go_roundw
            · exact ⟨j + 1, true, e.key.length, kc, ka, by go_num, by omega, rfl, rfl, HD4.out, HRO4.out, HB5.out⟩
            · simp only [intOf]; omega
          · have hkb : (e.kind == 1) = false := beq_eq_false_iff_ne.2 hk1
            have HKD := Lib.hid hk1
            clear hk1
            go_wp2_with fail
            go_roundw
            · exact ⟨j + 1, true, e.key.length, kc, ka, by go_num, by omega, rfl, rfl, HD3.out, by rw [HT.out.1, seenGo_one, if_neg HS.out, if_neg HKD.out, List.append_nil]; exact HRO2.out, HB3.out⟩
            · simp only [intOf]; omega
    · have hjl : ¬ (j : Int) < (n : Int) := by omega
      have HF : Hid (Rw entK (fun k => F k ∨ w.heap.size ≤ k) wr (.slice oo (seenGo s none (l.take j)).length oc) (seenOf s l)) := by
        have h5 := HRO.out.rows
        rw [List.take_of_length_le (by rw [HN.out]; omega)] at h5 ⊢
        exact h5.mono fun k _ hk => by
          rcases hk with hk | hk
          · exact .inr (by
              have h6 := HRO.out
              rw [List.take_of_length_le (by rw [HN.out]; omega)] at h6
              exact (h6.lt k hk).1)
          · exact .inl hk.1.1
      clear HRO HD
      generalize (seenGo s none (l.take j)).length = q at *
      go_wp2_with fail
      go_ret
      exact ⟨_, rfl, HF.out, HB.out⟩

def seenR (s : Int) (rs : List (List Ent)) : List Ent := seenOf s (allOf rs)
def SeenPost (F : Nat → Prop) (l : List Ent) (rs : List (List Ent)) (w : World) (x : Ending) (w' : World) : Prop :=
  ∃ v', x = .returned (.tuple #[v', .int .i64 (chkR rs)]) ∧ (chkR rs = 0 → Rw entK (fun k => F k ∨ w.heap.size ≤ k) w' v' l) ∧ (chkR rs ≠ 0 → v' = .slice none 0 0) ∧ Below w.heap.size w w'

set_option maxRecDepth 100000 in
theorem mseen_any (F : Nat → Prop) (v : Value) (rs : List (List Ent)) (s : Int) (w : World) (h : Rw (rowK entK) F w v rs) (hok : ROk rs) :
    Calls Try.prog 25 #[v, .int .u64 s] w (SeenPost (fun _ => False) (seenR s rs) rs w) := by
  obtain ⟨xa, ca, rfl⟩ := h.isSlice
  have HA := Lib.hid h
  have HO := Lib.hid hok
  clear h hok
  go_enter Try.func25, Try.ntmps25
  go_wp2_with fail
  refine Calls.mono (mall_any F _ rs _ HA.out HO.out) ?_
  rintro _ w1 ⟨v1, rfl, hr1, hb1⟩
  obtain ⟨ra, rc, rfl⟩ := hr1.isSlice
  have HW1 := Lib.hid hb1
  have HR1 := Lib.hid hr1
  clear hb1 hr1
  rcases chkR_or rs with hc | hc
  · have HC := Lib.hid hc
    have HE : Hid (refAll rs = allOf rs) := by show _ = _; unfold refAll; rw [if_pos HC.out]
    have HLA : Hid ((allOf rs).length ≤ 100000) := Nat.le_trans (allOf_len rs) HO.out.sum
    rw [hc, HE.out]
    rw [HE.out] at HR1
    clear hc
    go_wp2_with fail
    refine Calls.mono (mseenIn_any _ _ _ s _ HR1.out HLA.out) ?_
    rintro _ w2 ⟨v2, rfl, hr2, hb2⟩
    have HP : Hid (SeenPost (fun _ => False) (seenR s rs) rs w (.returned (.tuple #[v2, .int .i64 0])) w2) := by
      refine ⟨v2, by rw [HC.out], fun _ => hr2.mono fun k _ e => .inr ?_, fun e => absurd HC.out e, HW1.out.trans (hb2.mono HW1.out.size)⟩
      have := HW1.out.size
      rcases e with (e | e) | e
      · cases e
      · exact e
      · omega
    clear hr2 hb2
    go_wp2_with fail
    go_ret2
    exact HP.out
  · have HC := Lib.hid hc
    rw [hc]
    clear hc
    have HP : Hid (SeenPost (fun _ => False) (seenR s rs) rs w (.returned (.tuple #[.slice none 0 0, .int .i64 2])) w1) := ⟨_, by rw [HC.out], (fun e => by rw [HC.out] at e; cases e), fun _ => rfl, HW1.out⟩
    go_wp2_with fail
    go_ret2
    exact HP.out
end Go.Proofs.Ytmpapipobjoboaa

namespace Go.Proofs.Ytmpapipobjoboaa
open Go.RowKit

theorem bcmp_ge {a b : List UInt8} : (0 ≤ Ent.bcmp a b) ↔ Op.bytesLess a b = false := by
  unfold Ent.bcmp
  cases h1 : Op.bytesLess a b <;> cases h2 : Op.bytesLess b a <;> simp
theorem bcmp_lt {a b : List UInt8} : (Ent.bcmp a b < 0) ↔ Op.bytesLess a b = true := by
  unfold Ent.bcmp
  cases h1 : Op.bytesLess a b <;> cases h2 : Op.bytesLess b a <;> simp

/-- What is told of a list, so far. -/
def btw (f t : List UInt8) (n : Int) (l : List Ent) : List Ent := lim n (l.filter (inR f t))
theorem btw_snoc (f t : List UInt8) (n : Int) (l : List Ent) (e : Ent) : btw f t n (l ++ [e]) = if ((btw f t n l).length : Int) < n ∧ inR f t e = true then btw f t n l ++ [e] else btw f t n l := by
  unfold btw lim
  rw [List.filter_append, List.filter_cons, List.filter_nil]
  by_cases h : inR f t e = true
  · rw [if_pos h]
    by_cases h2 : ((List.take n.toNat (List.filter (inR f t) l)).length : Int) < n
    · rw [if_pos ⟨h2, h⟩]
      rw [List.length_take] at h2
      have h3 : (List.filter (inR f t) l).length < n.toNat := by omega
      rw [List.take_of_length_le (by rw [List.length_append, List.length_singleton]; omega), List.take_of_length_le (by omega)]
    · rw [if_neg (fun h => h2 h.1)]
      rw [List.length_take] at h2
      rw [List.take_append_of_le_length (by omega)]
  · rw [if_neg h, if_neg (fun k => h k.2), List.append_nil]
theorem btw_len (f t : List UInt8) (n : Int) (l : List Ent) : (btw f t n l).length ≤ l.length := by
  unfold btw lim
  rw [List.length_take]
  have := List.length_filter_le (inR f t) l
  omega

set_option maxRecDepth 100000 in
set_option maxHeartbeats 2000000 in
theorem mbetween_any (F Gf Gt : Nat → Prop) (v vf vt : Value) (rs : List (List Ent)) (f t : List UInt8) (s n : Int) (w : World) (h : Rw (rowK entK) F w v rs) (hok : ROk rs) (hf : Bytes Gf w vf f) (ht : Bytes Gt w vt t) :
    Calls Try.prog 35 #[v, vf, vt, .int .u64 s, .int .i64 n] w (SeenPost (fun _ => False) (btw f t n (seenR s rs)) rs w) := by
  obtain ⟨xa, ca, rfl⟩ := h.isSlice
  obtain ⟨fa, fc, rfl⟩ := hf.isSlice
  obtain ⟨ta, tc, rfl⟩ := ht.isSlice
  have HA := Lib.hid h
  have HO := Lib.hid hok
  have HF := Lib.hid hf
  have HT := Lib.hid ht
  clear h hok hf ht
  go_enter Try.func35, Try.ntmps35
  go_wp2_with fail
  refine Calls.mono (mseen_any F _ rs s _ HA.out HO.out) ?_
  rintro _ w1 ⟨v1, rfl, hr1, hz1, hb1⟩
  have HW1 := Lib.hid hb1
  clear hb1
  rcases chkR_or rs with hc | hc
  · have hr1 := hr1 hc
    obtain ⟨ra, rc, rfl⟩ := hr1.isSlice
    have HR1 : Hid (Rw entK (fun k => w.heap.size ≤ k ∧ k < w1.heap.size) w1 (.slice ra (seenR s rs).length rc) (seenR s rs)) := hr1.mono fun k hk e => ⟨e.resolve_left id, hk⟩
    have HC := Lib.hid hc
    rw [hc]
    have hll : (seenR s rs).length ≤ 100000 := Nat.le_trans (seenGo_len _ _ _) (Nat.le_trans (allOf_len rs) HO.out.sum)
    clear hc hr1 hz1
    generalize hLL : seenR s rs = l at *
    have HLL := Lib.hid hLL
    clear hLL
    obtain ⟨m, hm⟩ : ∃ m, l.length = m := ⟨_, rfl⟩
    have HM := Lib.hid hm
    rw [hm] at HR1 hll
    rw [hm]
    clear hm
    go_wp2_with fail
    go_loopw [14, 28] (fun ov iv wr => ∃ (j : Nat), iv = .int .i64 (j : Int) ∧ j ≤ m ∧ Hid (ROwnF entK (fun k => w.heap.size ≤ k ∧ k < w1.heap.size) w1.heap.size 29 wr ov (btw f t n (l.take j))) ∧ Hid (Below w1.heap.size w1 wr)) (fun _ iv _ => m - (intOf iv).toNat)
    case atStart => exact ⟨0, rfl, by omega, by show ROwnF _ _ _ _ _ _ _; rw [show btw f t n (l.take 0) = [] by simp [btw, lim]]; exact ROwnF.nil _ _ _ _ _, Below.refl _ _⟩
    case round =>
      obtain ⟨j, rfl, hj, HRO, HB⟩ := hrel
      obtain ⟨oo, oc, rfl⟩ := HRO.out.isSlice
      by_cases hlt : j < m
      · have hjl : (j : Int) < (m : Int) := by omega
        have hl1 : j < l.length := by rw [HM.out]; omega
        obtain ⟨ba, oa, capa, ea, _, hba, hca⟩ := ents_at (HR1.out.below HB.out) (by omega)
        injection ea with e1 e2 e3
        subst e1 e3
        clear e2
        obtain ⟨vk, vv, hk, hv, c0, c1, c2, c3⟩ := hca j hl1
        rw [eat_eq hl1] at hk hv c1 c2
        obtain ⟨ka, kc, rfl⟩ := hk.isSlice
        obtain ⟨va, vc, rfl⟩ := hv.isSlice
        have HTK : Hid (btw f t n (l.take (j + 1)) = if ((btw f t n (l.take j)).length : Int) < n ∧ inR f t (eat l j) = true then btw f t n (l.take j) ++ [eat l j] else btw f t n (l.take j)) := by
          show _ = _
          rw [List.take_succ_eq_append_getElem hl1, eat_eq hl1]
          exact btw_snoc _ _ _ _ _
        have HLen : Hid ((btw f t n (l.take j)).length < 1000000) := by have := btw_len f t n (l.take j); rw [List.length_take] at this; show _ < _; omega
        clear hca hba hl1
        generalize eat l j = e at *
        generalize btw f t n (l.take j) = out at *
        obtain ⟨q, hq⟩ : ∃ q, out.length = q := ⟨_, rfl⟩
        have HQ := Lib.hid hq
        rw [hq] at HRO
        rw [hq]
        clear hq
        go_upto_region 8 with fail
        refine wp_gen fun w2 hw2 => ?_
        have HW2 : Hid (Below wr.heap.size wr w2) := by rw [hw2]; exact (Below.refl _ _).alloc (Nat.le_refl _) _
        have HE1 : Hid (Blk w2 wr.heap.size (entCells e (.slice ka e.key.length kc) (.slice va e.value.length vc)).toArray 29) := by rw [hw2]; exact Blk.at_new rfl rfl
        have HK2 : Hid (Bytes (fun k => w.heap.size ≤ k ∧ k < w1.heap.size) w2 (.slice ka e.key.length kc) e.key) := hk.below HW2.out
        have HV2 : Hid (Bytes (fun k => w.heap.size ≤ k ∧ k < w1.heap.size) w2 (.slice va e.value.length vc) e.value) := hv.below HW2.out
        have HRO2 := Lib.hid (HRO.out.below HW2.out)
        have HB3 : Hid (Below w1.heap.size w1 w2) := HB.out.trans (HW2.out.mono HB.out.size)
        clear hw2 hk hv c0 c1 c2 c3 HRO HB HW2
        have k0 : w2.cell? ⟨wr.heap.size, 0, none⟩ = some (.slice ka e.key.length kc) := HE1.out.cell rfl
        obtain ⟨r, hr⟩ : ∃ r : Bool, r = decide ((q : Int) < n ∧ inR f t e = true) := ⟨_, rfl⟩
        have HR := Lib.hid hr
        clear hr
        have HFX : Hid (Bytes Gf w2 (.slice fa f.length fc) f) := HF.out.below (HW1.out.trans (HB3.out.mono HW1.out.size))
        have HTX : Hid (Bytes Gt w2 (.slice ta t.length tc) t) := HT.out.below (HW1.out.trans (HB3.out.mono HW1.out.size))
        go_cut [54] from 32 to 53 (fun x wx => x = .bool r ∧ w2 = wx)
        case first =>
          by_cases h1 : (q : Int) < n
          · cases h2 : Op.bytesLess e.key f with
            | true =>
              have hx : r = false := by rw [HR.out]; simp [inR, h2]
              have h3 : ¬ 0 ≤ Ent.bcmp e.key f := by rw [bcmp_ge, h2]; simp
              subst hx
              clear h2
              generalize hbb : Ent.bcmp e.key f = bb at *
              have HBB := Lib.hid hbb
              clear hbb
              go_wp2_with fail
              refine Calls.mono (bytesCompare_any _ _ _ _ e.key f _ HK2.out HFX.out) ?_
              rintro _ w3 ⟨rfl, rfl⟩
              rw [HBB.out]
              go_wp2_with fail
              go_meet
              exact ⟨rfl, rfl⟩
            | false =>
              have h3 : 0 ≤ Ent.bcmp e.key f := by rw [bcmp_ge, h2]
              have hx : r = (decide (t.length = 0) || Op.bytesLess e.key t) := by rw [HR.out]; simp [inR, h2, h1]
              have HX := Lib.hid hx
              clear h2 hx
              generalize hbb : Ent.bcmp e.key f = bb at *
              have HBB := Lib.hid hbb
              clear hbb
              by_cases h4 : t.length = 0
              · have hr : r = true := by rw [HX.out]; simp [h4]
                subst hr
                have h5 : ((t.length : Int) == 0) = true := beq_iff_eq.2 (by omega)
                clear h4
                go_wp2_with fail
                refine Calls.mono (bytesCompare_any _ _ _ _ e.key f _ HK2.out HFX.out) ?_
                rintro _ w3 ⟨rfl, rfl⟩
                rw [HBB.out]
                go_wp2_with fail
                go_meet
                exact ⟨rfl, rfl⟩
              · have hr : r = decide (Ent.bcmp e.key t < 0) := by
                  rw [HX.out]
                  simp only [h4, decide_false, Bool.false_or]
                  cases h6 : Op.bytesLess e.key t with
                  | true => exact (decide_eq_true (bcmp_lt.2 h6)).symm
                  | false => exact (decide_eq_false (fun h => by rw [bcmp_lt, h6] at h; cases h)).symm
                have HRX := Lib.hid hr
                clear hr
                have h5 : ((t.length : Int) == 0) = false := beq_eq_false_iff_ne.2 (by omega)
                clear h4
                go_wp2_with fail
                refine Calls.mono (bytesCompare_any _ _ _ _ e.key f _ HK2.out HFX.out) ?_
                rintro _ w3 ⟨rfl, rfl⟩
                rw [HBB.out]
                go_wp2_with fail
                refine Calls.mono (bytesCompare_any _ _ _ _ e.key t _ HK2.out HTX.out) ?_
                rintro _ w4 ⟨rfl, rfl⟩
                generalize Ent.bcmp e.key t = cc at *
                by_cases h7 : cc < 0
                · have : r = true := by rw [HRX.out]; simpa using h7
                  subst this
                  go_wp2_with fail
                  go_meet
                  exact ⟨rfl, rfl⟩
                · have : r = false := by rw [HRX.out]; simpa using h7
                  subst this
                  go_wp2_with fail
                  go_meet
                  exact ⟨congrArg Value.bool (decide_eq_false (by omega)), rfl⟩
          · have hx : r = false := by rw [HR.out]; simp [h1]
            subst hx
            go_wp2_with fail
            go_meet
            exact ⟨rfl, rfl⟩
        case rest =>
          obtain ⟨rfl, rfl⟩ := hcut
          cases r with
          | true =>
            have HS : Hid ((q : Int) < n ∧ inR f t e = true) := by show _ ∧ _; exact of_decide_eq_true HR.out.symm
            have k1 : w2.cell? ⟨wr.heap.size, 1, none⟩ = some (.int .u64 e.seq) := HE1.out.cell rfl
            have k2 : w2.cell? ⟨wr.heap.size, 2, none⟩ = some (.int .i64 e.kind) := HE1.out.cell rfl
            have k3 : w2.cell? ⟨wr.heap.size, 3, none⟩ = some (.slice va e.value.length vc) := HE1.out.cell rfl
            have HBS : Hid (w1.heap.size ≤ w1.heap.size) := Nat.le_refl _
            have HFF : Hid (∀ k, (w.heap.size ≤ k ∧ k < w1.heap.size) → (w.heap.size ≤ k ∧ k < w1.heap.size)) := fun k h => h
            have HLOW : Hid (∀ k, (w.heap.size ≤ k ∧ k < w1.heap.size) → k < w1.heap.size) := fun k h => h.2
            go_wp2_with (with_reducible refine pause_append ?_)
            refine list_gen fun w3 hw3 => ?_
            have HB4 : Hid (Below w2.heap.size w2 w3) := by rw [hw3]; exact (Below.refl _ _).alloc (Nat.le_refl _) _
            have HS3 : Hid (Blk w3 w2.heap.size (entCells e (.slice ka e.key.length kc) (.slice va e.value.length vc)).toArray 29) := by rw [hw3]; exact Blk.at_new rfl rfl
            clear hw3 k0 k1 k2 k3
            have HT3 : Hid (Below w1.heap.size w1 w3) := HB3.out.trans (HB4.out.mono HB3.out.size)
            have HRO3 := Lib.hid (HRO2.out.below HB4.out)
            rw [← HQ.out]
            rw [← HQ.out] at HRO3
            refine Pause.go (wpList_append_elF (K := entK) 31 29 _ 64 Try.underlying31 info_entO rfl (fun k => w.heap.size ≤ k ∧ k < w1.heap.size) w1.heap.size (.slice oo out.length oc) out w2.heap.size 29 _ e rfl _ _ rfl rfl rfl HRO3.out HS3.out
              ⟨_, _, rfl, (HK2.out.below HB4.out).mono fun j _ hj => ⟨HFF.out j hj, fun e1 => by have := (HRO3.out.lt j e1).1; have := HLOW.out j hj; omega⟩, (HV2.out.below HB4.out).mono fun j _ hj => ⟨HFF.out j hj, fun e1 => by have := (HRO3.out.lt j e1).1; have := HLOW.out j hj; omega⟩⟩ HLen.out (by decide) (Nat.le_trans HBS.out HT3.out.size) ?_)
            intro v4 w4 hro hg
            have HRO4 : Hid (ROwnF entK (fun k => w.heap.size ≤ k ∧ k < w1.heap.size) w1.heap.size 29 w4 v4 (btw f t n (l.take (j + 1)))) := by rw [HTK.out, HQ.out, if_pos HS.out]; exact hro
            have HB5 : Hid (Below w1.heap.size w1 w4) := HT3.out.trans (hg.below HT3.out.size fun k e0 => (HRO3.out.lt k e0).1)
            clear hro hg HRO3 HRO2 HS3 HK2 HV2
            go_wp2_with fail
            go_roundw
            · exact ⟨j + 1, by go_num, by omega, HRO4.out, HB5.out⟩
            · simp only [intOf]; omega
          | false =>
            have HS : Hid (¬ ((q : Int) < n ∧ inR f t e = true)) := by show ¬ (_ ∧ _); exact of_decide_eq_false HR.out.symm
            have HRO4 : Hid (ROwnF entK (fun k => w.heap.size ≤ k ∧ k < w1.heap.size) w1.heap.size 29 w2 (.slice oo q oc) (btw f t n (l.take (j + 1)))) := by rw [HTK.out, HQ.out, if_neg HS.out]; exact HRO2.out
            clear HRO2
            go_wp2_with fail
            go_roundw
            · exact ⟨j + 1, by go_num, by omega, HRO4.out, HB3.out⟩
            · simp only [intOf]; omega
      · have hjl : ¬ (j : Int) < (m : Int) := by omega
        have HD : Hid (SeenPost (fun _ => False) (btw f t n l) rs w (.returned (.tuple #[.slice oo (btw f t n (l.take j)).length oc, .int .i64 0])) wr) := by
          refine ⟨_, by rw [HC.out], fun _ => ?_, fun e => absurd HC.out e, HW1.out.trans (HB.out.mono HW1.out.size)⟩
          have h5 := HRO.out
          rw [List.take_of_length_le (by rw [HM.out]; omega)] at h5 ⊢
          refine h5.rows.mono fun k _ hk => .inr ?_
          have := HW1.out.size
          rcases hk with hk | hk
          · have := (h5.lt k hk).1; omega
          · exact hk.1.1
        clear HRO
        generalize (btw f t n (l.take j)).length = q at *
        go_wp2_with fail
        go_ret2
        rw [HLL.out]
        exact HD.out
  · have HC := Lib.hid hc
    have hz := hz1 (by rw [hc]; decide)
    subst hz
    have HP : Hid (SeenPost (fun _ => False) (btw f t n (seenR s rs)) rs w (.returned (.tuple #[.slice none 0 0, .int .i64 2])) w1) := ⟨_, by rw [HC.out], (fun e => by rw [HC.out] at e; cases e), fun _ => rfl, HW1.out⟩
    rw [hc]
    clear hc hr1 hz1
    go_wp2_with fail
    go_ret2
    exact HP.out
end Go.Proofs.Ytmpapipobjoboaa
