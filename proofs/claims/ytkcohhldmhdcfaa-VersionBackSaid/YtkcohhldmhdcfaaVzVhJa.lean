/- Plain: an edit's bytes, read, tell it. Plain: what an edit must be like for Apply to take it. Plain: the whole edit of a version that may be, applied to the first version, makes it. Plain: how many files the versions of VersionBack have; their whole edits. -/
import Derived.Test.YtkcohhldmhdcfaaVzVhI
import Derived.Test.YtkcohhldmhdcfaaVzVeY
import Derived.Test.YtkcohhldmhdcfaaVzVeZa
namespace Go.Proofs.Ytkcohhldmhdcfaa
open Go.RowKit

theorem shortG_enc : ∀ (m y : Nat), y ≤ m → ∀ (n x : Nat) (rest : List UInt8), y * 128 ^ n < 18446744073709551616 → (n = 0 ∨ 0 < y) → shortG n x (encN y ++ rest) = (x + y * 128 ^ n, n + (encN y).length, 0) := by
  intro m
  induction m with
  | zero =>
    intro y hy n x rest h1 h2
    have h0 : y = 0 := by omega
    subst h0
    have hn : n = 0 := by omega
    subst hn
    rw [encN_small (by decide)]
    show shortG 0 x (UInt8.ofNat 0 :: rest) = _
    rw [shortG]
    simp
  | succ m ih =>
    intro y hy n x rest h1 h2
    by_cases hs : y < 128
    · rw [encN_small hs]
      have hb : (UInt8.ofNat y).toNat = y := by simp; omega
      show shortG n x (UInt8.ofNat y :: rest) = _
      rw [shortG, hb, if_neg, if_neg, if_pos hs]
      · rfl
      · omega
      · rintro ⟨rfl, h3⟩
        have : (128 : Nat) ^ 9 = 9223372036854775808 := by decide
        rw [this] at h1
        omega
    · rw [encN_more hs]
      have hb : (UInt8.ofNat (y % 128 + 128)).toNat = y % 128 + 128 := by simp [UInt8.toNat_ofNat]; omega
      show shortG n x (UInt8.ofNat (y % 128 + 128) :: (encN (y / 128) ++ rest)) = _
      have hn : n ≠ 9 := by
        rintro rfl
        have : (128 : Nat) ^ 9 = 9223372036854775808 := by decide
        rw [this] at h1
        omega
      have hd : y = 128 * (y / 128) + y % 128 := (Nat.div_add_mod y 128).symm
      have hp : y * 128 ^ n = (y / 128) * 128 ^ (n + 1) + (y % 128) * 128 ^ n := by
        have e : y * 128 ^ n = (128 * (y / 128) + y % 128) * 128 ^ n := by rw [← hd]
        rw [e, Nat.add_mul, Nat.pow_succ, Nat.mul_comm 128 (y / 128), Nat.mul_assoc, Nat.mul_comm 128 (128 ^ n)]
      rw [shortG, hb, if_neg (fun h => hn h.1), if_neg (by omega), if_neg (by omega), ih (y / 128) (by omega) (n + 1) _ rest (by omega) (.inr (by omega))]
      have hs2 : y % 128 + 128 - 128 = y % 128 := by omega
      rw [hs2, hp, List.length_cons]
      refine Prod.ext ?_ (Prod.ext ?_ rfl)
      · show x + y % 128 * 128 ^ n + y / 128 * 128 ^ (n + 1) = _
        omega
      · show n + 1 + (encN (y / 128)).length = n + ((encN (y / 128)).length + 1)
        omega
theorem drop_past {all a rest : List UInt8} {i : Nat} (h : all.drop i = a ++ rest) : all.drop (i + a.length) = rest := by
  rw [← List.drop_drop, h, List.drop_left]
theorem numS_enc {all rest : List UInt8} {i y : Nat} (h : all.drop i = encN y ++ rest) (hy : y ≤ 4611686018427387904) : numS all ⟨i, 0, 0⟩ = (y, ⟨i + (encN y).length, 0, 0⟩) := by
  have hw : numW (all.drop i) 0 = (y, (encN y).length, 0) := by
    unfold numW
    rw [if_neg (by decide), h, shortG_enc y y (Nat.le_refl _) 0 0 rest (by omega) (.inl rfl)]
    simp
  unfold numS
  rw [if_neg (by show ¬ (faultW 0 0 ≠ 0); decide)]
  simp only [hw]
  rw [if_neg (by omega)]
theorem i64W_of {x : Int} (h0 : 0 ≤ x) (h1 : x ≤ 4611686018427387904) : i64W x.toNat = x := by
  rw [← i64W_w64]
  have : ((x.toNat : Nat) : Int) = x := Int.toNat_of_nonneg h0
  rw [this]
  unfold RowKit.wrap64
  omega
theorem encNs_app (n : Nat) (ns : List Nat) (rest : List UInt8) : encNs (n :: ns) ++ rest = encN n ++ (encNs ns ++ rest) := by rw [encNs_cons, List.append_assoc]
theorem encNs_nil (rest : List UInt8) : encNs [] ++ rest = rest := rfl
theorem dropsS_enc {all rest : List UInt8} : ∀ (l : List (Int × Int)) (i : Nat) (ds : List (Int × Int)), all.drop i = encDs l ++ rest → (∀ d ∈ l, 0 ≤ d.1 ∧ d.1 ≤ 4611686018427387904 ∧ 0 ≤ d.2 ∧ d.2 ≤ 4611686018427387904) →
    ∃ i', dropsS all l.length ⟨i, 0, 0⟩ ds = (ds ++ l, ⟨i', 0, 0⟩) ∧ all.drop i' = rest
  | [], i, ds, h, _ => ⟨i, by simp [dropsS], h⟩
  | d :: l, i, ds, h, hb => by
    obtain ⟨h1, h2, h3, h4⟩ := hb d (by simp)
    have he : all.drop i = encN d.1.toNat ++ (encN d.2.toNat ++ (encDs l ++ rest)) := by
      rw [h]
      show (encD d ++ (l.map encD).flatten) ++ rest = _
      unfold encD
      rw [List.append_assoc, encNs_app, encNs_app, encNs_nil]
      rfl
    have n1 := numS_enc he (by omega)
    have d1 := drop_past he
    have n2 := numS_enc d1 (by omega)
    have d2 := drop_past d1
    obtain ⟨i', hi, hr⟩ := dropsS_enc l _ (ds ++ [d]) d2 (fun x hx => hb x (by simp [hx]))
    refine ⟨i', ?_, hr⟩
    rw [List.length_cons, dropsS, if_neg (by show ¬ (faultW 0 0 ≠ 0); decide)]
    simp only [show faultW 0 0 = 0 from rfl, n1, n2]
    rw [i64W_of h1 h2, Int.toNat_of_nonneg h3, hi, List.append_assoc]
    rfl
theorem pieceW_enc {all rest p : List UInt8} {i : Nat} (h : all.drop i = encP p ++ rest) (hp : p.length ≤ 1048576) : ∃ i', pieceW all i 0 = (p, i', 0) ∧ all.drop i' = rest := by
  unfold encP at h
  rw [List.append_assoc] at h
  have hs : shortG 0 0 (all.drop i) = (p.length, (encN p.length).length, 0) := by
    rw [h, shortG_enc _ _ (Nat.le_refl _) 0 0 _ (by omega) (.inl rfl)]
    simp
  have d1 := drop_past h
  have d2 := drop_past d1
  have hl := congrArg List.length h
  rw [List.length_drop, List.length_append, List.length_append] at hl
  refine ⟨i + (encN p.length).length + p.length, ?_, d2⟩
  unfold pieceW
  rw [if_neg (by decide)]
  simp only [hs]
  rw [if_neg (by decide), if_neg (by omega), if_neg (by omega), d1, List.take_left]
def Fil.Bound (f : Fil) : Prop := (0 ≤ f.num ∧ f.num ≤ 4611686018427387904) ∧ (0 ≤ f.size ∧ f.size ≤ 4611686018427387904) ∧ (0 ≤ f.ents ∧ f.ents ≤ 4611686018427387904) ∧ (0 ≤ f.mseq ∧ f.mseq ≤ 4611686018427387904) ∧ f.least.length ≤ 1048576 ∧ f.most.length ≤ 1048576
theorem addS_enc {all rest : List UInt8} {i : Nat} {a : Int × Fil} (h : all.drop i = encA a ++ rest) (h0 : 0 ≤ a.1) (h1 : a.1 ≤ 4611686018427387904) (hf : a.2.Bound) : ∃ i', addS all ⟨i, 0, 0⟩ = (a, ⟨i', 0, 0⟩) ∧ all.drop i' = rest := by
  obtain ⟨⟨a0, a1⟩, ⟨b0, b1⟩, ⟨c0, c1⟩, ⟨d0, d1⟩, e0, e1⟩ := hf
  have he : all.drop i = encN a.1.toNat ++ (encN a.2.num.toNat ++ (encN a.2.size.toNat ++ (encN a.2.ents.toNat ++ (encN a.2.mseq.toNat ++ (encP a.2.least ++ (encP a.2.most ++ rest)))))) := by
    rw [h]
    unfold encA
    rw [List.append_assoc, List.append_assoc, encNs_app, encNs_app, encNs_app, encNs_app, encNs_app, encNs_nil]
  have n1 := numS_enc he (by omega)
  have p1 := drop_past he
  have n2 := numS_enc p1 (by omega)
  have p2 := drop_past p1
  have n3 := numS_enc p2 (by omega)
  have p3 := drop_past p2
  have n4 := numS_enc p3 (by omega)
  have p4 := drop_past p3
  have n5 := numS_enc p4 (by omega)
  have p5 := drop_past p4
  obtain ⟨i6, q6, p6⟩ := pieceW_enc p5 e0
  obtain ⟨i7, q7, p7⟩ := pieceW_enc p6 e1
  refine ⟨i7, ?_, p7⟩
  unfold addS
  simp only [n1, n2, n3, n4, n5, show faultW 0 0 = 0 from rfl, if_true, q6, q7]
  rw [i64W_of h0 h1, i64W_of b0 b1, i64W_of c0 c1, Int.toNat_of_nonneg a0, Int.toNat_of_nonneg d0]
theorem addsS_enc {all rest : List UInt8} : ∀ (l : List (Int × Fil)) (i : Nat) (xs : List (Int × Fil)), all.drop i = encAs l ++ rest → (∀ a ∈ l, 0 ≤ a.1 ∧ a.1 ≤ 4611686018427387904 ∧ a.2.Bound) →
    ∃ i', addsS all l.length ⟨i, 0, 0⟩ xs = (xs ++ l, ⟨i', 0, 0⟩) ∧ all.drop i' = rest
  | [], i, xs, h, _ => ⟨i, by simp [addsS], h⟩
  | a :: l, i, xs, h, hb => by
    obtain ⟨h1, h2, h3⟩ := hb a (by simp)
    have he : all.drop i = encA a ++ (encAs l ++ rest) := by
      rw [h]
      show (encA a ++ (l.map encA).flatten) ++ rest = _
      rw [List.append_assoc]
      rfl
    obtain ⟨j, hj, hd⟩ := addS_enc he h1 h2 h3
    obtain ⟨i', hi, hr⟩ := addsS_enc l j (xs ++ [a]) hd (fun x hx => hb x (by simp [hx]))
    refine ⟨i', ?_, hr⟩
    rw [List.length_cons, addsS, if_neg (by show ¬ (faultW 0 0 ≠ 0); decide)]
    simp only [show faultW 0 0 = 0 from rfl, hj]
    rw [hi, List.append_assoc]
    rfl
/-- The bounds within which an edit is read as it was. -/
structure Edi.Bound (e : Edi) : Prop where
  next : 0 ≤ e.next ∧ e.next ≤ 4611686018427387904
  seq : 0 ≤ e.seq ∧ e.seq ≤ 4611686018427387904
  log : 0 ≤ e.log ∧ e.log ≤ 4611686018427387904
  nd : e.drops.length ≤ 10000
  na : e.adds.length ≤ 10000
  drops : ∀ d ∈ e.drops, 0 ≤ d.1 ∧ d.1 ≤ 4611686018427387904 ∧ 0 ≤ d.2 ∧ d.2 ≤ 4611686018427387904
  adds : ∀ a ∈ e.adds, 0 ≤ a.1 ∧ a.1 ≤ 4611686018427387904 ∧ a.2.Bound
theorem countS_enc {all rest : List UInt8} {i y : Nat} (h : all.drop i = encN y ++ rest) (hy : y ≤ 10000) : countS all ⟨i, 0, 0⟩ = (y, ⟨i + (encN y).length, 0, 0⟩) := by
  unfold countS
  simp only [numS_enc h (by omega), show faultW 0 0 = 0 from rfl]
  rw [if_neg (by decide), if_neg (by omega)]
theorem parse_back {e : Edi} (h : e.Bound) : parseW (encE e) = (e, 0) := by
  obtain ⟨⟨a0, a1⟩, ⟨b0, b1⟩, ⟨c0, c1⟩, hnd, hna, hds, has⟩ := h
  obtain ⟨all, hall⟩ : ∃ l, encE e = l := ⟨_, rfl⟩
  have he : all.drop 0 = encN e.next.toNat ++ (encN e.seq.toNat ++ (encN e.log.toNat ++ (encN e.drops.length ++ (encDs e.drops ++ (encN e.adds.length ++ (encAs e.adds ++ [])))))) := by
    rw [← hall, List.drop_zero, List.append_nil]
    unfold encE headE
    rw [List.append_assoc, List.append_assoc, encNs_app, encNs_app, encNs_app, encNs_app, encNs_nil, encNs_app, encNs_nil]
  rw [hall]
  have n1 := numS_enc he (by omega)
  have p1 := drop_past he
  have n2 := numS_enc p1 (by omega)
  have p2 := drop_past p1
  have n3 := numS_enc p2 (by omega)
  have p3 := drop_past p2
  have n4 := countS_enc p3 hnd
  have p4 := drop_past p3
  obtain ⟨i5, q5, p5⟩ := dropsS_enc e.drops _ [] p4 hds
  have n6 := countS_enc p5 hna
  have p6 := drop_past p5
  obtain ⟨i7, q7, p7⟩ := addsS_enc e.adds _ [] p6 has
  have hend : endW all i7 0 = 0 := by
    have h1 : all.length - i7 = 0 := by rw [← List.length_drop, p7]; rfl
    simp [endW, h1]
  unfold parseW
  simp only [n1, n2, n3, n4, q5, n6, q7, show faultW 0 0 = 0 from rfl, hend]
  rw [if_neg (by decide), if_neg (by decide), Int.toNat_of_nonneg a0, Int.toNat_of_nonneg b0, Int.toNat_of_nonneg c0]
  rfl
end Go.Proofs.Ytkcohhldmhdcfaa

namespace Go.Proofs.Ytkcohhldmhdcfaa
open Go.RowKit

theorem applyW_zero {v : Ver} {e : Edi} (h : (applyW v e).2 = 0) : chkW v = 0 ∧ ∃ ls, dropsLs v.levels e.drops = some ls ∧ ¬ OddLev e.adds ∧ chkW (newV ls e) = 0 ∧ applyW v e = (newV ls e, 0) := by
  by_cases h0 : chkW v = 0
  · refine ⟨h0, ?_⟩
    cases hd : dropsLs v.levels e.drops with
    | none => rw [applyW_none h0 hd] at h; exact absurd h (by decide)
    | some ls =>
      by_cases hc : Clash ls e.adds
      · rw [applyW_clash h0 hd hc] at h; exact absurd h (by decide)
      · by_cases ho : OddLev e.adds
        · rw [applyW_odd h0 hd hc ho] at h; exact absurd h (by decide)
        · by_cases hb : chkW (newV ls e) = 0
          · exact ⟨ls, rfl, ho, hb, applyW_ok h0 hd hc ho hb⟩
          · rw [applyW_bad h0 hd hc ho hb] at h; exact absurd h hb
  · rw [applyW_chk h0] at h; exact absurd h h0
theorem dropLs_bound {ls ls' : List (List Fil)} {lev num : Int} (h : dropLs ls lev num = some ls') : 0 ≤ lev ∧ lev < 5 ∧ ∃ f ∈ lat ls lev.toNat, f.num = num := by
  unfold dropLs at h
  split at h
  · rename_i hl
    refine ⟨hl.1, hl.2, ?_⟩
    split at h
    · rename_i hj
      have hp := List.findIdx_getElem (w := hj)
      refine ⟨_, List.getElem_mem hj, ?_⟩
      simpa [numIs] using hp
    · cases h
  · cases h
theorem dropsLs_cons (ls : List (List Fil)) (d : Int × Int) (ds : List (Int × Int)) : dropsLs ls (d :: ds) = (dropLs ls d.1 d.2).bind fun ls' => dropsLs ls' ds := by
  unfold dropsLs
  rw [List.foldlM_cons]
  rfl
theorem dropsLs_bound (P : Int → Prop) : ∀ (ds : List (Int × Int)) (ls ls' : List (List Fil)), dropsLs ls ds = some ls' → ls.length = 5 → (∀ i, ∀ f ∈ lat ls i, P f.num) → (∀ d ∈ ds, 0 ≤ d.1 ∧ d.1 < 5 ∧ P d.2) ∧ ls'.length = 5 ∧ ∀ i, (lat ls' i).length ≤ (lat ls i).length
  | [], ls, ls', h, h5, _ => by
    have : some ls = some ls' := h
    injection this with e
    subst e
    exact ⟨fun d hd => (by cases hd), h5, fun i => Nat.le_refl _⟩
  | d :: ds, ls, ls', h, h5, hP => by
    rw [dropsLs_cons] at h
    cases h1 : dropLs ls d.1 d.2 with
    | none => rw [h1] at h; cases h
    | some l1 =>
      rw [h1] at h
      have h2 : dropsLs l1 ds = some ls' := h
      obtain ⟨a, b, f, hf, he⟩ := dropLs_bound h1
      have hlev := dropLs_lev h5 h1
      obtain ⟨r1, r2, r3⟩ := dropsLs_bound P ds l1 ls' h2 (by rw [dropLs_len h1, h5]) (fun i f hf => hP i f ((hlev i).2 f hf))
      refine ⟨fun x hx => ?_, r2, fun i => Nat.le_trans (r3 i) (hlev i).1⟩
      rcases List.mem_cons.1 hx with rfl | hx
      · exact ⟨a, b, by rw [← he]; exact hP _ f hf⟩
      · exact r1 x hx
theorem insAt_mem {fs : List Fil} {i : Nat} {f g : Fil} (h : g ∈ fs) : g ∈ insAt fs i f := by
  unfold insAt
  rw [← List.take_append_drop i fs] at h
  rcases List.mem_append.1 h with h | h
  · exact List.mem_append_left _ h
  · exact List.mem_append_right _ (List.mem_cons_of_mem _ h)
theorem insAt_self (fs : List Fil) (i : Nat) (f : Fil) : f ∈ insAt fs i f := by
  unfold insAt
  exact List.mem_append_right _ (List.mem_cons_self ..)
theorem addLs_keeps {ls : List (List Fil)} {m : Nat} {f : Fil} (hm : m < ls.length) {i : Nat} {g : Fil} (h : g ∈ lat ls i) : g ∈ lat (addLs ls m f) i := by
  unfold addLs
  rw [lat_set hm]
  split
  · rename_i e; subst e; exact insAt_mem h
  · exact h
theorem addLs_self {ls : List (List Fil)} {m : Nat} {f : Fil} (hm : m < ls.length) : f ∈ lat (addLs ls m f) m := by
  unfold addLs
  rw [lat_set hm, if_pos rfl]
  exact insAt_self _ _ _
theorem addsLs_cons (ls : List (List Fil)) (a : Int × Fil) (l : List (Int × Fil)) : addsLs ls (a :: l) = addsLs (addLs ls a.1.toNat a.2) l := rfl
theorem addsLs_keeps : ∀ (l : List (Int × Fil)) (ls : List (List Fil)), ls.length = 5 → (∀ a ∈ l, 0 ≤ a.1 ∧ a.1 < 5) → ∀ {i : Nat} {g : Fil}, g ∈ lat ls i → g ∈ lat (addsLs ls l) i
  | [], _, _, _, _, _, h => h
  | a :: l, ls, h5, hl, i, g, h => by
    have ha := hl a (by simp)
    rw [addsLs_cons]
    exact addsLs_keeps l _ (by rw [addLs_len, h5]) (fun x hx => hl x (by simp [hx])) (addLs_keeps (by omega) h)
theorem addsLs_mem : ∀ (l : List (Int × Fil)) (ls : List (List Fil)), ls.length = 5 → (∀ a ∈ l, 0 ≤ a.1 ∧ a.1 < 5) → ∀ a ∈ l, a.2 ∈ lat (addsLs ls l) a.1.toNat
  | [], _, _, _, _, h => by cases h
  | b :: l, ls, h5, hl, a, h => by
    have hb := hl b (by simp)
    have h6 : (addLs ls b.1.toNat b.2).length = 5 := by rw [addLs_len, h5]
    have hl2 : ∀ a ∈ l, 0 ≤ a.1 ∧ a.1 < 5 := fun x hx => hl x (by simp [hx])
    rw [addsLs_cons]
    rcases List.mem_cons.1 h with rfl | h
    · exact addsLs_keeps l _ h6 hl2 (addLs_self (by omega))
    · exact addsLs_mem l _ h6 hl2 a h
theorem good_next {v : Ver} (h : Good v) {i : Nat} (hi : i < v.levels.length) {f : Fil} (hf : f ∈ lat v.levels i) : f.num < v.next := by
  obtain ⟨k, hk, rfl⟩ := List.mem_iff_getElem.1 hf
  have := (h.lev i hi k hk).next
  rw [fat_eq hk]
  exact this
theorem lat_out {ls : List (List Fil)} {i : Nat} (h : ls.length ≤ i) : lat ls i = [] := by simp [lat, h]
theorem notOdd {l : List (Int × Fil)} (h : ¬ OddLev l) : ∀ a ∈ l, 0 ≤ a.1 ∧ a.1 < 5 := by
  intro a ha
  obtain ⟨k, hk, rfl⟩ := List.mem_iff_getElem.1 ha
  rw [adat_eq hk]
  exact Decidable.byContradiction fun hn => h ⟨k, hk, hn⟩
/-- What Apply takes is within the bounds. -/
theorem apply_bound {v : Ver} {e : Edi} (h : (applyW v e).2 = 0) (hn : u64In e.next ∧ u64In e.seq ∧ u64In e.log) (hd : e.drops.length ≤ 10000) (ha : e.adds.length ≤ 10000) (hw : ∀ a ∈ e.adds, a.2.wf) :
    e.Bound ∧ chkW (applyW v e).1 = 0 ∧ chkW v = 0 := by
  obtain ⟨h0, ls, hds, ho, hb, he⟩ := applyW_zero h
  obtain ⟨hh, hg, -⟩ := chkW_good h0
  obtain ⟨hh2, hg2, -⟩ := chkW_good hb
  obtain ⟨r1, r5, -⟩ := dropsLs_bound (fun x => 1 ≤ x ∧ x < v.next) e.drops _ _ hds hh.five (fun i f hf => by
    by_cases hi : i < v.levels.length
    · exact ⟨(hg.fine i hi f hf).num, good_next hg hi hf⟩
    · rw [lat_out (by omega)] at hf; cases hf)
  have hlv := notOdd ho
  have hv1 := hh.n1
  have hs : e.seq ≤ maxSeq := hh2.seq
  have hl : e.log < 1000000000000 := hh2.log
  have hx : e.next ≤ 1000000000000 := hh2.n1
  have hms : maxSeq = 72057594037927935 := rfl
  refine ⟨⟨⟨hn.1.1, by omega⟩, ⟨hn.2.1.1, by omega⟩, ⟨hn.2.2.1, by omega⟩, hd, ha, fun d hd => ?_, fun a ha => ?_⟩, by rw [he]; exact hb, h0⟩
  · obtain ⟨a, b, c, d⟩ := r1 d hd
    exact ⟨a, by omega, by omega, by omega⟩
  · obtain ⟨a0, a1⟩ := hlv a ha
    have hm := addsLs_mem e.adds ls r5 hlv a ha
    have hi : a.1.toNat < (newV ls e).levels.length := by rw [hh2.five]; omega
    have hf := hg2.fine _ hi a.2 hm
    have hnx : a.2.num < e.next := good_next hg2 hi hm
    have k1 := (keyOk_len hf.least).2
    have k2 := (keyOk_len hf.most).2
    have hwf := hw a ha
    have n0 := hf.num
    have s0 := hf.s0
    have s1 := hf.s1
    have e0 := hf.e0
    have e1 := hf.e1
    have sq := hf.seq
    have m0 := hwf.2.2.2.1
    exact ⟨a0, by omega, ⟨by omega, by omega⟩, ⟨s0, by omega⟩, ⟨by omega, by omega⟩, ⟨m0, by omega⟩, by omega, by omega⟩
end Go.Proofs.Ytkcohhldmhdcfaa

namespace Go.Proofs.Ytkcohhldmhdcfaa
open Go.RowKit

theorem good_up0 {v : Ver} (h : Good v) (hm : 0 < v.levels.length) (i : Nat) : ∀ j, i < j → j < (lat v.levels 0).length → (fat (lat v.levels 0) i).num < (fat (lat v.levels 0) j).num
  | 0, hi, _ => by omega
  | j + 1, hi, hj => by
    have ho := (h.lev 0 hm (j + 1) hj).order (by omega)
    unfold behind at ho
    rw [if_pos rfl, Nat.add_sub_cancel] at ho
    by_cases e : i = j
    · subst e; exact ho
    · have := good_up0 h hm i j (by omega) (by omega); omega
theorem none_ahead {v : Ver} (h : Good v) {m k : Nat} (hm : m < v.levels.length) (hk : k < (lat v.levels m).length) : ∀ x ∈ (lat v.levels m).take k, aheadOf (m : Int) (fat (lat v.levels m) k) x = false := by
  intro x hx
  obtain ⟨i, hi, rfl⟩ := List.mem_iff_getElem.1 hx
  rw [List.length_take] at hi
  rw [List.getElem_take, fat_eq (by omega)]
  unfold aheadOf lessC
  rw [decide_eq_false_iff_not]
  by_cases h0 : m = 0
  · subst h0
    rw [if_pos (by rfl : ((0 : Nat) : Int) = 0)]
    have := good_up0 h hm i k (by omega) hk
    unfold Ent.sgn
    rw [if_neg (by omega)]
    split <;> omega
  · rw [if_neg (by omega)]
    have h1 := good_up h hm (by omega) i k (by omega) hk
    have h2 := isCmp_bcmp.anti (fat (lat v.levels m) i).least (fat (lat v.levels m) k).least
    omega
theorem findIdx_none {p : Fil → Bool} : ∀ {l : List Fil}, (∀ x ∈ l, p x = false) → l.findIdx p = l.length
  | [], _ => rfl
  | a :: l, h => by
    rw [List.findIdx_cons, h a (List.mem_cons_self ..), findIdx_none fun x hx => h x (List.mem_cons_of_mem _ hx)]
    simp
theorem lat_upTo {ls : List (List Fil)} {i k : Nat} (h : i < 5) : lat (upTo ls i k) i = (lat ls i).take k := upTo_at h
theorem addLs_upTo {v : Ver} (h : Good v) (h5 : v.levels.length = 5) {m k : Nat} (hm : m < 5) (hk : k < (lat v.levels m).length) : addLs (upTo v.levels m k) m (fat (lat v.levels m) k) = upTo v.levels m (k + 1) := by
  unfold addLs addTo
  rw [lat_upTo hm, findIdx_none (none_ahead h (by omega) hk), insAt_end, upTo_more hm hk]
theorem addsLs_app (ls : List (List Fil)) (a b : List (Int × Fil)) : addsLs ls (a ++ b) = addsLs (addsLs ls a) b := by unfold addsLs; rw [List.foldl_append]
theorem addsLs_lev {v : Ver} (h : Good v) (h5 : v.levels.length = 5) {m : Nat} (hm : m < 5) : ∀ k, k ≤ (lat v.levels m).length → addsLs (upTo v.levels m 0) (levAdds m ((lat v.levels m).take k)) = upTo v.levels m k
  | 0, _ => rfl
  | k + 1, hk => by
    rw [← levAdds_more (by omega), addsLs_app, addsLs_lev h h5 hm k (by omega)]
    show addLs _ ((m : Int).toNat) _ = _
    rw [Int.toNat_natCast, addLs_upTo h h5 hm (by omega)]
theorem addsLs_all {v : Ver} (h : Good v) (h5 : v.levels.length = 5) : ∀ i, i ≤ 5 → addsLs firstV.levels (wAdds v.levels i) = upTo v.levels i 0
  | 0, _ => (upTo_start v.levels).symm
  | i + 1, hi => by
    rw [wAdds, addsLs_app, addsLs_all h h5 i (by omega)]
    have := addsLs_lev h h5 (m := i) (by omega) (lat v.levels i).length (Nat.le_refl _)
    rw [List.take_length] at this
    rw [this, upTo_next]
theorem nums_nodup {v : Ver} (h : Good v) : ∀ i, i ≤ v.levels.length → (nums v.levels i 0).Nodup
  | 0, _ => by simp [nums]
  | i + 1, hi => by
    have step : ∀ k, k ≤ (lat v.levels i).length → (nums v.levels i k).Nodup := fun k => by
      induction k with
      | zero => intro _; exact nums_nodup h i (by omega)
      | succ k ih =>
        intro hk
        rw [nums_more (by omega), List.nodup_append]
        refine ⟨ih (by omega), List.pairwise_singleton _ _, fun a ha b hb => ?_⟩
        rw [List.mem_singleton] at hb
        subst hb
        exact fun e => (h.lev i (by omega) k (by omega)).new (by rw [← e]; exact ha)
    rw [← nums_close (by omega)]
    exact step _ (Nat.le_refl _)
theorem wAdds_nums (ls : List (List Fil)) : ∀ i, i ≤ ls.length → (wAdds ls i).map (fun a => a.2.num) = nums ls i 0
  | 0, _ => by simp [wAdds, nums]
  | i + 1, hi => by
    rw [wAdds, List.map_append, wAdds_nums ls i (by omega), ← nums_close (by omega)]
    unfold nums levAdds
    simp
theorem wAdds_lev (ls : List (List Fil)) : ∀ i, ∀ a ∈ wAdds ls i, 0 ≤ a.1 ∧ a.1 < (i : Int)
  | 0, a, h => by cases h
  | i + 1, a, h => by
    rw [wAdds] at h
    rcases List.mem_append.1 h with h | h
    · have := wAdds_lev ls i a h; omega
    · unfold levAdds at h
      obtain ⟨f, _, rfl⟩ := List.mem_map.1 h
      show 0 ≤ (i : Int) ∧ (i : Int) < ((i + 1 : Nat) : Int)
      omega
theorem firstV_has (n : Int) : hasNum firstV.levels n = false := rfl
theorem whole_back {v : Ver} (h : chkW v = 0) (h1 : chkW firstV = 0) : applyW firstV (wholeE v) = (v, 0) := by
  obtain ⟨hh, hg, -⟩ := chkW_good h
  have h5 := hh.five
  have hnew : newV firstV.levels (wholeE v) = v := by
    unfold newV wholeE
    simp only []
    rw [addsLs_all hg h5 5 (Nat.le_refl _), upTo_end h5]
  have hcl : ¬ Clash firstV.levels (wholeE v).adds := by
    rintro ⟨k, hk, hc⟩
    rcases hc with hc | hc
    · have hnd := nums_nodup hg 5 (by omega)
      rw [← wAdds_nums v.levels 5 (by omega)] at hnd
      have hk' : k < (wAdds v.levels 5).length := hk
      unfold addNums at hc
      rw [List.map_take] at hc
      obtain ⟨j, hj, e⟩ := List.mem_iff_getElem.1 hc
      rw [List.length_take, List.length_map] at hj
      have hj1 : j < k := by omega
      rw [List.getElem_take] at e
      unfold List.Nodup at hnd
      rw [List.pairwise_iff_getElem] at hnd
      have hk2 : k < ((wAdds v.levels 5).map fun a => a.2.num).length := by rw [List.length_map]; exact hk'
      refine hnd j k (by rw [List.length_map]; omega) hk2 hj1 ?_
      rw [List.getElem_map (h := hk2), adat_eq hk']
      exact e
    · rw [firstV_has] at hc; cases hc
  have hodd : ¬ OddLev (wholeE v).adds := by
    rintro ⟨k, hk, ho⟩
    exact ho (by
      have := wAdds_lev v.levels 5 (adat (wAdds v.levels 5) k) (adat_mem hk)
      exact ⟨this.1, this.2⟩)
  have := applyW_ok (v := firstV) (e := wholeE v) (ls := firstV.levels) h1 rfl hcl hodd (by rw [hnew]; exact h)
  rw [hnew] at this
  exact this
end Go.Proofs.Ytkcohhldmhdcfaa

namespace Go.Proofs.Ytkcohhldmhdcfaa
open Go.RowKit

/-- How many files lie on the first levels. -/
def tot (ls : List (List Fil)) : Nat → Nat
  | 0 => 0
  | i + 1 => tot ls i + (lat ls i).length
theorem tot_le {ls ls' : List (List Fil)} (h : ∀ i, (lat ls' i).length ≤ (lat ls i).length) : ∀ n, tot ls' n ≤ tot ls n
  | 0 => Nat.le_refl _
  | n + 1 => Nat.add_le_add (tot_le h n) (h n)
theorem tot_cnt (ls : List (List Fil)) : ∀ i, (wAdds ls i).length = tot ls i
  | 0 => rfl
  | i + 1 => by
    rw [wAdds, List.length_append, tot_cnt ls i]
    show _ + (levAdds i _).length = _ + _
    unfold levAdds
    rw [List.length_map]
theorem cnt_tot (ls : List (List Fil)) : ∀ i, cntTo ls i = tot ls i
  | 0 => rfl
  | i + 1 => by
    show cntTo ls i + (lat ls i).length = tot ls i + (lat ls i).length
    rw [cnt_tot ls i]
theorem tot_add {ls : List (List Fil)} {m : Nat} {f : Fil} (hm : m < ls.length) : ∀ n, tot (addLs ls m f) n ≤ tot ls n + (if m < n then 1 else 0)
  | 0 => by simp [tot]
  | n + 1 => by
    have ih := tot_add (f := f) hm n
    show tot (addLs ls m f) n + (lat (addLs ls m f) n).length ≤ tot ls n + (lat ls n).length + _
    unfold addLs at *
    rw [lat_set hm]
    by_cases e : m = n
    · subst e
      rw [if_neg (by omega)] at ih
      rw [if_pos rfl, if_pos (by omega), addTo_len]
      omega
    · rw [if_neg e]
      by_cases h : m < n
      · rw [if_pos h] at ih
        rw [if_pos (by omega)]
        omega
      · rw [if_neg h] at ih
        rw [if_neg (by omega)]
        omega
theorem tot_adds : ∀ (l : List (Int × Fil)) (ls : List (List Fil)) (n : Nat), ls.length = 5 → (∀ a ∈ l, 0 ≤ a.1 ∧ a.1 < 5) → tot (addsLs ls l) n ≤ tot ls n + l.length
  | [], ls, n, _, _ => Nat.le_refl _
  | a :: l, ls, n, h5, hl => by
    have ha := hl a (by simp)
    rw [addsLs_cons]
    have h1 := tot_adds l (addLs ls a.1.toNat a.2) n (by rw [addLs_len, h5]) (fun x hx => hl x (by simp [hx]))
    have h2 := tot_add (f := a.2) (m := a.1.toNat) (ls := ls) (by omega) n
    rw [List.length_cons]
    split at h2 <;> omega
/-- A version that Apply makes has at most as many files more as were added. -/
theorem apply_tot {v : Ver} {e : Edi} (h : (applyW v e).2 = 0) : tot (applyW v e).1.levels 5 ≤ tot v.levels 5 + e.adds.length := by
  obtain ⟨h0, ls, hds, ho, hb, he⟩ := applyW_zero h
  obtain ⟨hh, -, -⟩ := chkW_good h0
  obtain ⟨-, r5, r3⟩ := dropsLs_bound (fun _ => True) e.drops _ _ hds hh.five (fun _ _ _ => trivial)
  rw [he]
  have h1 := tot_adds e.adds ls 5 r5 (notOdd ho)
  have h2 := tot_le r3 5
  show tot (addsLs ls e.adds) 5 ≤ _
  omega
theorem wAdds_mem (ls : List (List Fil)) : ∀ i, ∀ a ∈ wAdds ls i, ∃ j, j < i ∧ a.1 = (j : Int) ∧ a.2 ∈ lat ls j
  | 0, a, h => by cases h
  | i + 1, a, h => by
    rw [wAdds] at h
    rcases List.mem_append.1 h with h | h
    · obtain ⟨j, h1, h2⟩ := wAdds_mem ls i a h
      exact ⟨j, by omega, h2⟩
    · unfold levAdds at h
      obtain ⟨f, hf, rfl⟩ := List.mem_map.1 h
      exact ⟨i, by omega, rfl, hf⟩
/-- A version's whole edit can be put into bytes. -/
theorem whole_appC {v : Ver} (h : chkW v = 0) (ht : tot v.levels 5 ≤ 10000) : appC (wholeE v) = 0 := by
  obtain ⟨hh, hg, -⟩ := chkW_good h
  have h5 := hh.five
  unfold appC
  have hb : ((wholeE v).drops.any badD || (wholeE v).adds.any badA) = false := by
    rw [Bool.or_eq_false_iff]
    refine ⟨rfl, ?_⟩
    rw [List.any_eq_false]
    intro a ha
    obtain ⟨j, hj, h1, h2⟩ := wAdds_mem v.levels 5 a ha
    have hf := hg.fine j (by omega) a.2 h2
    have k1 := (keyOk_len hf.least).2
    have k2 := (keyOk_len hf.most).2
    have s0 := hf.s0
    have e0 := hf.e0
    simp only [badA, Bool.or_eq_true, decide_eq_true_eq]
    omega
  rw [hb, if_neg (by decide), if_neg]
  show ¬ (10000 < (0 : Nat) ∨ 10000 < (wAdds v.levels 5).length)
  rw [tot_cnt]
  omega
theorem whole_keys {v : Ver} (h : chkW v = 0) : ∀ a ∈ (wholeE v).adds, a.2.least.length ≤ 4096 ∧ a.2.most.length ≤ 4096 := by
  intro a ha
  obtain ⟨j, hj, h1, h2⟩ := wAdds_mem v.levels 5 a ha
  have hs := good_small h
  exact hs.2.2 j (by rw [hs.1]; exact hj) a.2 h2
end Go.Proofs.Ytkcohhldmhdcfaa
