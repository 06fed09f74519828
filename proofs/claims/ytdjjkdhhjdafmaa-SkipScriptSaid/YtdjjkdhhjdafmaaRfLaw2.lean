/- From: the document's and the skip list's. -/
import Derived.Test.YtdjjkdhhjdafmaaRfLaw
import Derived.Test.YtdjjkdhhjdafmaaSkFrom
namespace Go.Proofs.Ytdjjkdhhjdafmaa
open Go.RowKit

theorem cmp_max {x : Ent} {key : List UInt8} {M : Int} (h : x.seq ≤ M) : Ent.cmp x (plc key M) < 0 ↔ Op.bytesLess x.key key = true := by
  show Ent.lex (Ent.bcmp x.key key) (Ent.sgn M x.seq) < 0 ↔ _
  have hs : 0 ≤ Ent.sgn M x.seq := by
    unfold Ent.sgn
    rw [if_neg (by omega)]
    split <;> omega
  unfold Ent.lex Ent.bcmp
  cases h1 : Op.bytesLess x.key key with
  | true => simp
  | false =>
    simp only [Bool.false_eq_true, if_false, iff_false, Int.not_lt]
    split
    · split <;> omega
    · exact hs

/-- The towers' entries may be. -/
def Fine (ts : List Tw) : Prop := ∀ t ∈ ts, t.e.chk = 0
theorem chk_seq {e : Ent} (h : e.chk = 0) : e.seq ≤ 18446744073709551615 := by
  unfold Ent.chk at h
  split at h
  · cases h
  · split at h
    · cases h
    · rename_i _ h2
      omega
theorem Fine.ins {e : Ent} {h : Int} {ts ts' : List Tw} {c : Nat} (hf : Fine ts) (hi : InsSays e h ts c ts') : Fine ts' := by
  rcases hi with ⟨_, _, rfl⟩ | ⟨_, _, _, rfl⟩ | ⟨_, _, _, _, _, rfl⟩ | ⟨h1, _, _, _, _, X, rfl⟩
  · exact hf
  · exact hf
  · exact hf
  · intro t ht
    rcases List.mem_append.1 ht with ht | ht
    · exact hf t (by rw [← ahead_behind e ts]; exact List.mem_append_left _ ht)
    · rcases List.mem_cons.1 ht with rfl | ht
      · exact h1
      · exact hf t (by rw [← ahead_behind e ts]; exact List.mem_append_right _ ht)

theorem refFrom_eq (key : List UInt8) (n : Int) (ts : List Tw) (hr : Rising ts) (hf : Fine ts) : refFrom key n (ents ts) = skFromOf key n ts := by
  unfold refFrom skFromOf
  congr 1
  have h0 : ents ts = (ahead (plc key 18446744073709551615) ts).map Tw.e ++ (behind (plc key 18446744073709551615) ts).map Tw.e := by
    rw [← List.map_append, ahead_behind]
    rfl
  have m1 : ∀ t ∈ ahead (plc key 18446744073709551615) ts, t ∈ ts := fun t ht => by rw [← ahead_behind (plc key 18446744073709551615) ts]; exact List.mem_append_left _ ht
  have m2 : ∀ t ∈ behind (plc key 18446744073709551615) ts, t ∈ ts := fun t ht => by rw [← ahead_behind (plc key 18446744073709551615) ts]; exact List.mem_append_right _ ht
  rw [h0, List.filter_append]
  have h1 : ((ahead (plc key 18446744073709551615) ts).map Tw.e).filter (fun e => !Op.bytesLess e.key key) = [] := by
    refine List.filter_eq_nil_iff.2 fun x hx => ?_
    obtain ⟨t, ht, rfl⟩ := List.mem_map.1 hx
    rw [(cmp_max (chk_seq (hf t (m1 t ht)))).1 (ahead_lt _ ts t ht)]
    decide
  have h2 : ((behind (plc key 18446744073709551615) ts).map Tw.e).filter (fun e => !Op.bytesLess e.key key) = (behind (plc key 18446744073709551615) ts).map Tw.e := by
    refine List.filter_eq_self.2 fun x hx => ?_
    obtain ⟨t, ht, rfl⟩ := List.mem_map.1 hx
    have := behind_ge _ ts hr t ht
    cases hb : Op.bytesLess t.e.key key with
    | true => exact absurd ((cmp_max (chk_seq (hf t (m2 t ht)))).2 hb) this
    | false => rfl
  rw [h1, h2, List.nil_append]
end Go.Proofs.Ytdjjkdhhjdafmaa
