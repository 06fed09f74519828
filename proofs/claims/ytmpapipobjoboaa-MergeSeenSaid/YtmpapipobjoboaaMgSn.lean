/- Merge: what is seen, as plain lists. -/
import Derived.Test.YtmpapipobjoboaaMgAll
namespace Go.Proofs.Ytmpapipobjoboaa
open Go.RowKit

/-- What is seen at a number: of each key the first one at or below it, if it is a put; d: the key that was told last. -/
def seenGo (s : Int) : Option (List UInt8) → List Ent → List Ent
  | _, [] => []
  | d, e :: r => if s < e.seq ∨ d = some e.key then seenGo s d r else (if e.kind = 1 then [e] else []) ++ seenGo s (some e.key) r
def seenOf (s : Int) (l : List Ent) : List Ent := seenGo s none l

/-- Is an entry hidden, by its number or by the one ahead of it? -/
def hidB (s : Int) (p : Option Ent) (e : Ent) : Bool := decide (s < e.seq) || match p with
  | none => false
  | some q => decide (q.key = e.key) && decide (q.seq ≤ s)
def rseenGo (s : Int) : Option Ent → List Ent → List Ent
  | _, [] => []
  | p, e :: r => (if hidB s p e = false ∧ e.kind = 1 then [e] else []) ++ rseenGo s (some e) r

theorem key_between {a b c : Ent} (h1 : Ent.cmp a b < 0) (h2 : Ent.cmp b c < 0) (hk : a.key = c.key) : b.key = c.key ∧ b.seq < a.seq := by
  have h3 : Ent.bcmp a.key b.key ≤ 0 := by
    unfold Ent.cmp Ent.lex at h1
    split at h1 <;> omega
  have h4 : Ent.bcmp b.key c.key ≤ 0 := by
    unfold Ent.cmp Ent.lex at h2
    split at h2 <;> omega
  have h5 := isCmp_bcmp.anti a.key b.key
  rw [hk] at h3 h5
  have h6 := isCmp_bcmp.anti c.key b.key
  have h7 : Ent.bcmp b.key c.key = 0 := by omega
  have h8 := bcmp_zero h7
  refine ⟨h8, ?_⟩
  unfold Ent.cmp Ent.lex at h1
  rw [hk, h8, bcmp_self] at h1
  simp only [ne_eq, not_true_eq_false, if_false] at h1
  unfold Ent.sgn at h1
  split at h1
  · assumption
  · split at h1 <;> omega

/-- Both tell the same of entries in order. -/
theorem seen_eq (s : Int) : ∀ (l : List Ent) (p : Option Ent) (d : Option (List UInt8)), Sorted l →
    (∀ q, p = some q → ∀ e ∈ l, Ent.cmp q e < 0) →
    (∀ e ∈ l, d = some e.key → ∃ q, p = some q ∧ q.key = e.key ∧ q.seq ≤ s) →
    (∀ q, p = some q → q.seq ≤ s → d = some q.key) → rseenGo s p l = seenGo s d l
  | [], _, _, _, _, _, _ => rfl
  | e :: r, p, d, hs, hp, h1, h2 => by
    obtain ⟨hs1, hs2⟩ := List.pairwise_cons.1 hs
    have hb : hidB s p e = true ↔ (s < e.seq ∨ d = some e.key) := by
      unfold hidB
      cases p with
      | none =>
        simp only [Bool.or_false, decide_eq_true_eq]
        refine ⟨.inl, fun h => h.elim id fun h => ?_⟩
        obtain ⟨q, hq, _⟩ := h1 e (List.mem_cons_self ..) h
        cases hq
      | some q =>
        simp only [Bool.or_eq_true, Bool.and_eq_true, decide_eq_true_eq]
        refine or_congr Iff.rfl ⟨fun ⟨g1, g2⟩ => ?_, fun h => ?_⟩
        · rw [h2 q rfl g2, g1]
        · obtain ⟨q', hq, g1, g2⟩ := h1 e (List.mem_cons_self ..) h
          injection hq with hq
          subst hq
          exact ⟨g1, g2⟩
    have ih : ∀ d', (∀ e' ∈ r, d' = some e'.key → e.key = e'.key ∧ e.seq ≤ s) → (e.seq ≤ s → d' = some e.key) → rseenGo s (some e) r = seenGo s d' r := fun d' g1 g2 =>
      seen_eq s r (some e) d' hs2 (fun q hq e' he' => by injection hq with hq; subst hq; exact hs1 e' he') (fun e' he' hd => ⟨e, rfl, g1 e' he' hd⟩) (fun q hq hle => by injection hq with hq; subst hq; exact g2 hle)
    unfold rseenGo seenGo
    by_cases hh : s < e.seq ∨ d = some e.key
    · rw [if_pos hh, if_neg (fun h => by rw [hb.2 hh] at h; exact absurd h.1 (by simp))]
      rw [List.nil_append]
      refine ih d (fun e' he' hd => ?_) (fun hle => hh.resolve_left (by omega))
      obtain ⟨q, hq, g1, g2⟩ := h1 e' (List.mem_cons_of_mem _ he') hd
      have k1 := hp q hq e (List.mem_cons_self ..)
      have k2 := hs1 e' he'
      obtain ⟨k3, k4⟩ := key_between k1 k2 g1
      exact ⟨k3, by omega⟩
    · have hf : hidB s p e = false := by
        cases hx : hidB s p e with
        | false => rfl
        | true => exact absurd (hb.1 hx) hh
      rw [if_neg hh, hf]
      simp only [true_and]
      congr 1
      exact ih _ (fun e' _ hd => by injection hd with hd; exact ⟨hd, by omega⟩) (fun _ => rfl)

theorem rseen_seen (s : Int) {l : List Ent} (h : Sorted l) : rseenGo s none l = seenOf s l :=
  seen_eq s l none none h (fun _ h => by cases h) (fun _ _ h => by cases h) (fun _ h => by cases h)

/-- Is a key between two others? -/
def inR (f t : List UInt8) (e : Ent) : Bool := !Op.bytesLess e.key f && (decide (t.length = 0) || Op.bytesLess e.key t)
def lim (n : Int) (l : List Ent) : List Ent := l.take n.toNat
theorem inR_all (e : Ent) : inR [] [] e = true := by
  unfold inR
  have : Op.bytesLess e.key [] = false := by cases e.key <;> rfl
  rw [this]; rfl

theorem seenGo_len (s : Int) : ∀ (l : List Ent) (d : Option (List UInt8)), (seenGo s d l).length ≤ l.length
  | [], _ => Nat.le_refl _
  | e :: r, d => by
    have h1 := seenGo_len s r d
    have h2 := seenGo_len s r (some e.key)
    unfold seenGo
    split
    · simp only [List.length_cons]; omega
    · rw [List.length_append, List.length_cons]
      split <;> simp only [List.length_cons, List.length_nil] <;> omega
theorem rseenGo_len (s : Int) : ∀ (l : List Ent) (p : Option Ent), (rseenGo s p l).length ≤ l.length
  | [], _ => Nat.le_refl _
  | e :: r, p => by
    have h1 := rseenGo_len s r (some e)
    unfold rseenGo
    rw [List.length_append, List.length_cons]
    split <;> simp only [List.length_cons, List.length_nil] <;> omega

/-- The key that was told last. -/
def seenD (s : Int) : Option (List UInt8) → List Ent → Option (List UInt8)
  | d, [] => d
  | d, e :: r => if s < e.seq ∨ d = some e.key then seenD s d r else seenD s (some e.key) r
theorem seenGo_cons (s : Int) (d : Option (List UInt8)) (e : Ent) (r : List Ent) : seenGo s d (e :: r) = if s < e.seq ∨ d = some e.key then seenGo s d r else (if e.kind = 1 then [e] else []) ++ seenGo s (some e.key) r := rfl
theorem seenD_cons (s : Int) (d : Option (List UInt8)) (e : Ent) (r : List Ent) : seenD s d (e :: r) = if s < e.seq ∨ d = some e.key then seenD s d r else seenD s (some e.key) r := rfl
theorem rseenGo_cons (s : Int) (p : Option Ent) (e : Ent) (r : List Ent) : rseenGo s p (e :: r) = (if hidB s p e = false ∧ e.kind = 1 then [e] else []) ++ rseenGo s (some e) r := rfl
theorem seenGo_append (s : Int) : ∀ (a b : List Ent) (d : Option (List UInt8)), seenGo s d (a ++ b) = seenGo s d a ++ seenGo s (seenD s d a) b
  | [], _, _ => rfl
  | e :: r, b, d => by
    have h1 := seenGo_append s r b
    rw [List.cons_append, seenGo_cons, seenGo_cons, seenD_cons]
    by_cases h : s < e.seq ∨ d = some e.key
    · rw [if_pos h, if_pos h, if_pos h]; exact h1 d
    · rw [if_neg h, if_neg h, if_neg h, h1, List.append_assoc]
theorem seenD_append (s : Int) : ∀ (a b : List Ent) (d : Option (List UInt8)), seenD s d (a ++ b) = seenD s (seenD s d a) b
  | [], _, _ => rfl
  | e :: r, b, d => by
    have h1 := seenD_append s r b
    rw [List.cons_append, seenD_cons, seenD_cons]
    by_cases h : s < e.seq ∨ d = some e.key
    · rw [if_pos h, if_pos h]; exact h1 d
    · rw [if_neg h, if_neg h]; exact h1 _
theorem seenGo_one (s : Int) (d : Option (List UInt8)) (e : Ent) : seenGo s d [e] = if s < e.seq ∨ d = some e.key then [] else if e.kind = 1 then [e] else [] := by
  rw [seenGo_cons]
  split <;> simp [seenGo]
theorem seenD_one (s : Int) (d : Option (List UInt8)) (e : Ent) : seenD s d [e] = if s < e.seq ∨ d = some e.key then d else some e.key := by
  rfl
def lastE (p : Option Ent) : List Ent → Option Ent
  | [] => p
  | e :: r => lastE (some e) r
theorem rseenGo_append (s : Int) : ∀ (a b : List Ent) (p : Option Ent), rseenGo s p (a ++ b) = rseenGo s p a ++ rseenGo s (lastE p a) b
  | [], _, _ => rfl
  | e :: r, b, p => by
    have h1 := rseenGo_append s r b (some e)
    rw [List.cons_append, rseenGo_cons, rseenGo_cons, h1, List.append_assoc]
    rfl
theorem rseenGo_one (s : Int) (p : Option Ent) (e : Ent) : rseenGo s p [e] = if hidB s p e = false ∧ e.kind = 1 then [e] else [] := by
  rw [rseenGo_cons]
  simp [rseenGo]
theorem lastE_append (p : Option Ent) : ∀ (a : List Ent) (e : Ent), lastE p (a ++ [e]) = some e
  | [], _ => rfl
  | x :: r, e => by
    rw [List.cons_append]
    exact lastE_append (some x) r e
end Go.Proofs.Ytmpapipobjoboaa
