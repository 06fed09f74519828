/- Plain words of chapter 3: a row that is cut; a row in which a bit is turned. -/
import Derived.Test.YtkpbkhbgiijbiaaFrMath
import Derived.Test.YtkpbkhbgiijbiaaCrcFlip
namespace Go.Proofs.Ytkpbkhbgiijbiaa
namespace Fr

theorem list4 {h : List UInt8} (h4 : h.length = 4) : ∃ a b c d, h = [a, b, c, d] := by
  match h, h4 with
  | [a, b, c, d], _ => exact ⟨a, b, c, d, rfl⟩

def lenH (h : List UInt8) : Nat := (h.getD 1 0).toNat + 256 * (h.getD 2 0).toNat + 65536 * (h.getD 3 0).toNat

/-- Read of bytes whose first eight are there. -/
theorem read_parts (h s rest : List UInt8) (h4 : h.length = 4) (s4 : s.length = 4) :
    read (h ++ s ++ rest) = if s ≠ sum4 h then (zero, 0, 4) else if 1048576 < lenH h then (zero, 0, 3) else if rest.length < lenH h + 4 then (zero, 0, 12)
      else if (rest.drop (lenH h)).take 4 ≠ sum4 (rest.take (lenH h)) then (zero, 0, 4) else (⟨h.getD 0 0, rest.take (lenH h)⟩, lenH h + 12, 0) := by
  obtain ⟨a, b, c, d, rfl⟩ := list4 h4
  obtain ⟨x, y, z, u, rfl⟩ := list4 s4
  have e1 : lenOf ([a, b, c, d] ++ [x, y, z, u] ++ rest) = lenH [a, b, c, d] := rfl
  have e2 : (([a, b, c, d] ++ [x, y, z, u] ++ rest).drop 4).take 4 = [x, y, z, u] := rfl
  have e3 : ([a, b, c, d] ++ [x, y, z, u] ++ rest).take 4 = [a, b, c, d] := rfl
  have e4 : ([a, b, c, d] ++ [x, y, z, u] ++ rest).drop 8 = rest := rfl
  have e5 : ([a, b, c, d] ++ [x, y, z, u] ++ rest).drop (8 + lenH [a, b, c, d]) = rest.drop (lenH [a, b, c, d]) := by rw [← List.drop_drop, e4]
  have e6 : ([a, b, c, d] ++ [x, y, z, u] ++ rest).length = rest.length + 8 := by simp
  unfold read
  rw [e1, e2, e3, e4, e5, e6, if_neg (by omega)]
  generalize lenH [a, b, c, d] = L
  by_cases c3 : rest.length < L + 4
  · rw [if_pos c3, if_pos (show rest.length + 8 < L + 12 by omega)]
  · rw [if_neg c3, if_neg (show ¬ rest.length + 8 < L + 12 by omega)]
    rfl

theorem lenH_head (kind : UInt8) (n : Nat) (h : n ≤ 1048576) : lenH (head kind n) = n := by
  simp only [lenH, head, List.getD_cons_succ, List.getD_cons_zero, UInt8.toNat_ofNat']
  omega

theorem read_enc (kind : UInt8) (body r : List UInt8) (h : body.length ≤ 1048576) : read (enc kind body ++ r) = (⟨kind, body⟩, body.length + 12, 0) := by
  have e : enc kind body ++ r = head kind body.length ++ sum4 (head kind body.length) ++ (body ++ sum4 body ++ r) := by simp [enc]
  rw [e, read_parts _ _ _ rfl (sum4_len _), lenH_head _ _ h]
  rw [if_neg (by simp), if_neg (by omega), if_neg (by simp [sum4_len])]
  have e4 : ((body ++ sum4 body ++ r).drop body.length).take 4 = sum4 body := by
    rw [List.append_assoc, List.drop_left, List.take_left' (sum4_len _)]
  have e5 : (body ++ sum4 body ++ r).take body.length = body := by
    rw [List.append_assoc, List.take_left]
  rw [e4, e5, if_neg (by simp)]
  rfl

theorem read_cut (kind : UInt8) (body : List UInt8) (m : Nat) (h : body.length ≤ 1048576) (hm : m < (enc kind body).length) : read ((enc kind body).take m) = (zero, 0, 12) := by
  rw [enc_len] at hm
  by_cases h8 : m < 8
  · have : ((enc kind body).take m).length < 8 := by simp; omega
    unfold read
    rw [if_pos this]
  · have e : (enc kind body).take m = head kind body.length ++ sum4 (head kind body.length) ++ (body ++ sum4 body).take (m - 8) := by
      rw [enc, List.take_append]
      have hl : (head kind body.length ++ sum4 (head kind body.length)).length = 8 := rfl
      rw [hl, List.take_of_length_le (by rw [hl]; omega)]
    rw [e, read_parts _ _ _ rfl (sum4_len _), lenH_head _ _ h]
    rw [if_neg (by simp), if_neg (by omega), if_pos (by simp [sum4_len]; omega)]

theorem four_inj {x y : BitVec 32} (h : four x = four y) : x = y := by
  have t : ∀ a b : Nat, UInt8.ofNat (a % 256) = UInt8.ofNat (b % 256) → a % 256 = b % 256 := fun a b e => by
    have := congrArg UInt8.toNat e
    simpa using this
  simp only [four, List.cons.injEq, and_true] at h
  obtain ⟨h0, h1, h2, h3⟩ := h
  have a0 := t _ _ h0
  have a1 := t _ _ h1
  have a2 := t _ _ h2
  have a3 := t _ _ h3
  have := x.isLt
  have := y.isLt
  exact BitVec.eq_of_toNat_eq (by omega)

theorem mask_inj {x y : BitVec 32} (h : maskW x = maskW y) : x = y := by
  rw [← unmask_mask x, ← unmask_mask y, h]

theorem sum4_turn (l : List UInt8) (q s : Nat) (hq : q < l.length) (hs : s < 8) : sum4 l ≠ sum4 (l.set q (Crc.flipByte (l.getD q 0) s)) := by
  intro h
  have e := mask_inj (four_inj h)
  have h2 := Crc.upd_set l (~~~ 0#32) q s hq hs
  unfold Crc.update at e
  rw [h2] at e
  have e2 : Crc.upd (~~~ 0#32) l = Crc.upd (~~~ 0#32) l ^^^ Crc.iter (8 * (l.length - q)) (1#32 <<< s) := by
    have := congrArg (fun x => ~~~ x) e
    simpa using this
  have e3 : Crc.iter (8 * (l.length - q)) (1#32 <<< s) = 0#32 := by
    have := congrArg (fun x => Crc.upd (~~~ 0#32) l ^^^ x) e2
    simp only [BitVec.xor_self, ← BitVec.xor_assoc, BitVec.zero_xor] at this
    exact this.symm
  have e4 := Crc.iter_inj0 _ _ e3
  have : (1#32 <<< s).getLsbD s = true := by
    rw [BitVec.getLsbD_shiftLeft]
    simp; omega
  rw [e4] at this
  simp at this

theorem flip_ne (l : List UInt8) (q s : Nat) (hq : q < l.length) (hs : s < 8) : l.set q (Crc.flipByte (l.getD q 0) s) ≠ l := by
  intro h
  exact sum4_turn l q s hq hs (by rw [h])

/-- A bit of a byte of l is turned. -/
def turn (l : List UInt8) (q s : Nat) : List UInt8 := l.set q (Crc.flipByte (l.getD q 0) s)

theorem turn_sum (l : List UInt8) (q s : Nat) (hq : q < l.length) (hs : s < 8) : sum4 l ≠ sum4 (turn l q s) := sum4_turn l q s hq hs
theorem turn_ne (l : List UInt8) (q s : Nat) (hq : q < l.length) (hs : s < 8) : turn l q s ≠ l := flip_ne l q s hq hs

theorem turn_len (l : List UInt8) (q s : Nat) : (turn l q s).length = l.length := by simp [turn]

theorem turn_left (a b : List UInt8) (q s : Nat) (h : q < a.length) : turn (a ++ b) q s = turn a q s ++ b := by
  unfold turn
  rw [List.set_append, if_pos h]
  congr 3
  simp [List.getD, List.getElem?_append_left h]

theorem turn_right (a b : List UInt8) (q s : Nat) (h : a.length ≤ q) : turn (a ++ b) q s = a ++ turn b (q - a.length) s := by
  unfold turn
  rw [List.set_append, if_neg (by omega)]
  congr 3
  simp [List.getD, List.getElem?_append_right h]

theorem read_turn (kind : UInt8) (body r : List UInt8) (q s : Nat) (h : body.length ≤ 1048576) (hq : q < (enc kind body).length) (hs : s < 8) : (read (turn (enc kind body) q s ++ r)).2.2 = 4 := by
  rw [enc_len] at hq
  have hh : (head kind body.length).length = 4 := rfl
  have hs4 : (sum4 (head kind body.length)).length = 4 := rfl
  have hb4 : (sum4 body).length = 4 := rfl
  have h8 : (head kind body.length ++ sum4 (head kind body.length)).length = 8 := rfl
  unfold enc
  by_cases c1 : q < 8
  · rw [turn_left _ _ _ _ (by rw [List.length_append]; omega)]
    by_cases c2 : q < 4
    · rw [turn_left _ _ _ _ (by omega), List.append_assoc (turn _ _ _ ++ _), read_parts _ _ _ (by rw [turn_len]; rfl) hs4, if_pos (turn_sum _ q s (by omega) hs)]
    · rw [turn_right _ _ _ _ (by omega), List.append_assoc (head _ _ ++ _), read_parts _ _ _ hh (by rw [turn_len]; rfl), if_pos (turn_ne _ _ s (by omega) hs)]
  · rw [turn_right _ _ _ _ (by rw [List.length_append]; omega), List.append_assoc (head _ _ ++ _), read_parts _ _ _ hh hs4, lenH_head _ _ h, h8]
    rw [if_neg (by simp), if_neg (by omega)]
    by_cases c3 : q - 8 < body.length
    · rw [turn_left _ _ _ _ c3, if_neg (by simp [turn_len, sum4_len])]
      rw [if_pos]
      rw [List.append_assoc, List.drop_left' (turn_len _ _ _), List.take_left' hb4, List.take_left' (turn_len _ _ _)]
      exact turn_sum _ _ s c3 hs
    · rw [turn_right _ _ _ _ (by omega), if_neg (by simp [turn_len, sum4_len])]
      rw [if_pos]
      rw [List.append_assoc, List.drop_left, List.take_left' (by rw [turn_len]; rfl), List.take_left]
      exact turn_ne _ _ s (by omega) hs

/-- Frames, one behind the other. -/
def encAll : List T → List UInt8
  | [] => []
  | f :: fs => enc f.kind f.body ++ encAll fs

theorem encAll_append (a b : List T) : encAll (a ++ b) = encAll a ++ encAll b := by
  induction a with
  | nil => rfl
  | cons f a ih => simp [encAll, ih]

theorem encAll_split (fs : List T) (n : Nat) : encAll fs = encAll (fs.take n) ++ encAll (fs.drop n) := by
  rw [← encAll_append, List.take_append_drop]

theorem encAll_len (fs : List T) : fs.length * 12 ≤ (encAll fs).length := by
  induction fs with
  | nil => simp
  | cons f fs ih => simp only [encAll, List.length_append, enc_len, List.length_cons]; omega

theorem rowFrom_pre (b : List UInt8) : ∀ (gs : List T) (rest : List UInt8) (fuel at_ : Nat) (l : List T), (∀ f ∈ gs, f.body.length ≤ 1048576) → b.drop at_ = encAll gs ++ rest → gs.length ≤ fuel →
    rowFrom b fuel at_ l = rowFrom b (fuel - gs.length) (at_ + (encAll gs).length) (l ++ gs)
  | [], rest, fuel, at_, l, _, _, _ => by simp [encAll]
  | f :: gs, rest, fuel, at_, l, hf, hd, hfu => by
    obtain ⟨fuel, rfl⟩ : ∃ k, fuel = k + 1 := ⟨fuel - 1, by simp at hfu; omega⟩
    have hfb := hf f (by simp)
    have hlt : at_ < b.length := by
      rcases Nat.lt_or_ge at_ b.length with h | h
      · exact h
      · rw [List.drop_eq_nil_of_le h] at hd
        have := congrArg List.length hd
        simp [encAll, enc_len] at this
        omega
    have hr : read (b.drop at_) = (f, f.body.length + 12, 0) := by
      rw [hd, encAll, List.append_assoc, read_enc _ _ _ hfb]
    rw [rowFrom, if_pos hlt, hr]
    simp only [ne_eq, not_true, if_false]
    rw [rowFrom_pre b gs rest fuel (at_ + (f.body.length + 12)) (l ++ [f]) (fun g hg => hf g (by simp [hg])) ?_ (by simp at hfu; omega)]
    · simp only [encAll, List.length_append, enc_len, List.length_cons, List.append_assoc, List.singleton_append]
      congr 1
      · omega
      · omega
    · rw [← List.drop_drop, hd, encAll, List.append_assoc, List.drop_left' (enc_len _ _)]

theorem row_done (gs : List T) (h : ∀ f ∈ gs, f.body.length ≤ 1048576) : row (encAll gs) = (gs, (encAll gs).length, 0) := by
  have := encAll_len gs
  unfold row
  rw [rowFrom_pre (encAll gs) gs [] _ 0 [] h (by simp) (by omega)]
  simp only [Nat.zero_add, List.nil_append]
  generalize (encAll gs).length - gs.length = k
  cases k with
  | zero => rfl
  | succ k => rw [rowFrom, if_neg (by omega)]

theorem row_stop (gs : List T) (rest : List UInt8) (h : ∀ f ∈ gs, f.body.length ≤ 1048576) (hr : rest ≠ []) (he : (read rest).2.2 ≠ 0) : row (encAll gs ++ rest) = (gs, (encAll gs).length, (read rest).2.2) := by
  have h1 := encAll_len gs
  have h2 : 0 < rest.length := List.length_pos_iff.mpr hr
  unfold row
  rw [rowFrom_pre (encAll gs ++ rest) gs rest _ 0 [] h (by simp) (by rw [List.length_append]; omega)]
  simp only [Nat.zero_add, List.nil_append]
  obtain ⟨k, hk⟩ : ∃ k, (encAll gs ++ rest).length - gs.length = k + 1 := ⟨(encAll gs ++ rest).length - gs.length - 1, by rw [List.length_append]; omega⟩
  rw [hk, rowFrom, if_pos (by rw [List.length_append]; omega), List.drop_left, if_pos he]

/-- Where the first n frames end. -/
def endAt (fs : List T) (n : Nat) : Nat := (encAll (fs.take n)).length

theorem endAt_succ (fs : List T) (n : Nat) (h : n < fs.length) : endAt fs (n + 1) = endAt fs n + (fs[n].body.length + 12) := by
  unfold endAt
  rw [List.take_succ_eq_append_getElem h, encAll_append, List.length_append]
  simp [encAll, enc_len]

theorem endAt_all (fs : List T) : endAt fs fs.length = (encAll fs).length := by simp [endAt]

theorem row_cut (fs : List T) (k n : Nat) (h : ∀ f ∈ fs, f.body.length ≤ 1048576) (hk : k ≤ (encAll fs).length) (hn : n ≤ fs.length) (h1 : endAt fs n ≤ k) (h2 : n = fs.length ∨ k < endAt fs (n + 1)) :
    row ((encAll fs).take k) = (fs.take n, endAt fs n, if endAt fs n = k then 0 else 12) := by
  have hs := encAll_split fs n
  have e : (encAll fs).take k = encAll (fs.take n) ++ (encAll (fs.drop n)).take (k - endAt fs n) := by
    rw [hs, List.take_append, List.take_of_length_le (by unfold endAt at h1; omega)]
    rfl
  have hb : ∀ f ∈ fs.take n, f.body.length ≤ 1048576 := fun f hf => h f (List.mem_of_mem_take hf)
  rw [e]
  by_cases hz : endAt fs n = k
  · rw [if_pos hz, hz, Nat.sub_self, List.take_zero, List.append_nil, row_done _ hb]
    rw [← hz]; rfl
  · rw [if_neg hz]
    rcases h2 with h2 | h2
    · subst h2
      rw [endAt_all] at h1 hz
      omega
    · have hnl : n < fs.length := by
        rcases Nat.lt_or_ge n fs.length with h | h
        · exact h
        · have : endAt fs n = (encAll fs).length := by unfold endAt; rw [List.take_of_length_le h]
          omega
      have hfb := h fs[n] (List.getElem_mem hnl)
      rw [endAt_succ fs n hnl] at h2
      have e2 : (encAll (fs.drop n)).take (k - endAt fs n) = (enc fs[n].kind fs[n].body).take (k - endAt fs n) := by
        rw [List.drop_eq_getElem_cons hnl, encAll, List.take_append_of_le_length (by rw [enc_len]; omega)]
      have hrd := read_cut fs[n].kind fs[n].body (k - endAt fs n) hfb (by rw [enc_len]; omega)
      rw [e2, row_stop _ _ hb ?_ (by rw [hrd]; simp), hrd]
      · rfl
      · intro hnil
        have := congrArg List.length hnil
        simp [enc_len] at this
        omega

theorem row_turn (fs : List T) (p s n : Nat) (h : ∀ f ∈ fs, f.body.length ≤ 1048576) (hs : s < 8) (hn : n < fs.length) (h1 : endAt fs n ≤ p) (h2 : p < endAt fs (n + 1)) :
    row (turn (encAll fs) p s) = (fs.take n, endAt fs n, 4) := by
  have hsp := encAll_split fs n
  have hb : ∀ f ∈ fs.take n, f.body.length ≤ 1048576 := fun f hf => h f (List.mem_of_mem_take hf)
  have hfb := h fs[n] (List.getElem_mem hn)
  rw [endAt_succ fs n hn] at h2
  have e : turn (encAll fs) p s = encAll (fs.take n) ++ (turn (enc fs[n].kind fs[n].body) (p - endAt fs n) s ++ encAll (fs.drop (n + 1))) := by
    rw [hsp, turn_right _ _ _ _ (by unfold endAt at h1; exact h1)]
    congr 1
    rw [List.drop_eq_getElem_cons hn, encAll]
    exact turn_left _ _ _ _ (by rw [enc_len]; unfold endAt at h2; omega)
  have hrd := read_turn fs[n].kind fs[n].body (encAll (fs.drop (n + 1))) (p - endAt fs n) s hfb (by rw [enc_len]; omega) hs
  rw [e, row_stop _ _ hb ?_ (by rw [hrd]; simp), hrd]
  · rfl
  · intro hnil
    have := congrArg List.length hnil
    simp [enc_len, turn_len] at this
end Fr
end Go.Proofs.Ytkpbkhbgiijbiaa
