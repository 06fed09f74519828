/- Spans: what they are; what may be (chapter 17's check), as plain functions; span.Text, span.name. -/
import Derived.Test.YtiofhmlmimbngaaRows
import Derived.Test.YtiofhmlmimbngaaEls
import Derived.Deep.QuietTactic
import Derived.Deep.Draws
import Derived.BigQuiet
namespace Go.Proofs.Ytiofhmlmimbngaa
open Go.RowKit

structure Sp.Tag where
  key : ByteArray
  value : ByteArray

structure Sp.T where
  hi : Int
  lo : Int
  id : Int
  parent : Int
  service : ByteArray
  name : ByteArray
  kind : Int
  start : Int
  length : Int
  fails : Bool
  tags : List Sp.Tag

namespace Sp
def okByte (c : UInt8) : Bool := !(decide (c.toNat < 32) || decide (126 < c.toNat))
def plain (s : ByteArray) : Bool := s.data.toList.all okByte
def text (s : ByteArray) : Bool := decide (s.size ≤ 128) && plain s
def name (s : ByteArray) : Bool := decide (0 < s.size) && text s
def longTag (t : Tag) : Bool := decide (128 < t.key.size) || decide (128 < t.value.size)
def long (s : T) : Bool := decide (128 < s.service.size) || decide (128 < s.name.size) || decide (16 < s.tags.length) || s.tags.any longTag
def less (a b : ByteArray) : Bool := Op.bytesLess a.toList b.toList
def fine0 (s : T) : Bool := !(decide (s.hi = 0) && decide (s.lo = 0)) && !decide (s.id = 0) && name s.service && name s.name && decide (0 ≤ s.kind) && decide (s.kind ≤ 5) && decide (0 ≤ s.start) && decide (0 ≤ s.length) && decide (s.start ≤ 4611686018427387903) && decide (s.length ≤ 4611686018427387903 - s.start)
def okAt (ts : List Tag) (i : Nat) : Bool := match ts[i]? with
  | none => true
  | some t => name t.key && text t.value && (match i with
    | 0 => true
    | i' + 1 => match ts[i']? with
      | none => true
      | some q => less q.key t.key)
def okTo (ts : List Tag) (n : Nat) : Bool := (List.range n).all (okAt ts)
def check (s : T) : Nat := if long s then 3 else if fine0 s && okTo s.tags s.tags.length then 0 else 2
end Sp

set_option maxRecDepth 100000 in
theorem text_any (s : ByteArray) (w : World) :
    Calls Try.prog 43 #[.string s] w fun e w' => e = .returned (.bool (Sp.text s)) ∧ w' = w := by
  by_cases h : 128 < s.size
  · have hd : decide ((128 : Int) < (s.size : Int)) = true := by simp; omega
    have he : Sp.text s = false := by simp [Sp.text]; omega
    rw [he]
    go_enter Try.func43, Try.ntmps43
    go_wp2_with fail
    go_ret
    exact ⟨rfl, rfl⟩
  · have hd : decide ((128 : Int) < (s.size : Int)) = false := by simp; omega
    go_enter Try.func43, Try.ntmps43
    go_wp2_with fail
    clear hd
    go_loop [9] (fun n => ∃ j : Nat, n = .int .i64 j ∧ j ≤ s.size ∧ Hid ((s.data.toList.take j).all Sp.okByte = true)) (fun n => s.size - (intOf n).toNat)
    case atStart => exact ⟨0, rfl, by omega, rfl⟩
    case round =>
      obtain ⟨j, rfl, hj, HA⟩ := hrel
      by_cases hlt : j < s.size
      · have HS : Hid (Sp.okByte s[j] = true → (s.data.toList.take (j + 1)).all Sp.okByte = true) := fun hc => by
          rw [List.take_succ_eq_append_getElem (by simpa using hlt), List.all_append, HA.out]
          simp only [List.all_cons, List.all_nil, Bool.and_true, Bool.true_and]
          exact hc
        have HF : Hid (Sp.okByte s[j] = false → Sp.text s = false) := fun hc => by
          have hm : s[j] ∈ s.data.toList := by
            have : s[j] = s.data.toList[j]'(by simpa using hlt) := rfl
            rw [this]; exact List.getElem_mem _
          have : Sp.plain s = false := by
            cases hp : Sp.plain s with
            | false => rfl
            | true => rw [List.all_eq_true.1 hp _ hm] at hc; cases hc
          simp [Sp.text, this]
        generalize hcc : s[j] = c at HS HF
        go_wp2_with fail
        all_goals rw [hcc] at *
        · go_ret
          exact ⟨ret_bool (HF.out (by simp [Sp.okByte]; omega)).symm, rfl⟩
        · go_round
          case rel => exact ⟨j + 1, by go_num, by omega, HS.out (by simp [Sp.okByte]; omega)⟩
          case measure => simp only [intOf]; omega
        · go_ret
          exact ⟨ret_bool (HF.out (by simp [Sp.okByte]; omega)).symm, rfl⟩
      · have HT : Hid (Sp.text s = true) := by
          have h1 := HA.out
          rw [List.take_of_length_le (by simp; omega)] at h1
          show _ = _
          simp only [Sp.text, Sp.plain, h1, Bool.and_true, decide_eq_true_eq]
          omega
        go_wp2_with fail
        go_ret
        exact ⟨ret_bool HT.out.symm, rfl⟩

theorem bytes_empty (s : ByteArray) : s.toList = [] ↔ s.size = 0 := by
  rw [ByteArray.toList_eq]
  constructor
  · intro h
    have : s.data.toList.length = 0 := by rw [h]; rfl
    simpa using this
  · intro h
    exact List.eq_nil_of_length_eq_zero (by simpa using h)

theorem name_any (s : ByteArray) (w : World) :
    Calls Try.prog 42 #[.string s] w fun e w' => e = .returned (.bool (Sp.name s)) ∧ w' = w := by
  by_cases h : 0 < s.size
  · have he : Sp.name s = Sp.text s := by simp [Sp.name, h]
    have h1 : s.toList ≠ [] := fun e => by rw [bytes_empty] at e; omega
    have h2 : s.toList.isEmpty = false := by cases hh : s.toList with | nil => exact absurd hh h1 | cons => rfl
    rw [he]
    go_enter Try.func42, Try.ntmps42
    go_wp2_with fail
    refine Calls.mono (text_any s w) ?_
    rintro e w1 ⟨rfl, rfl⟩
    go_wp2_with fail
    go_ret
    exact ⟨rfl, rfl⟩
  · have he : Sp.name s = false := by simp [Sp.name]; omega
    have h1 : s.toList = [] := by rw [bytes_empty]; omega
    rw [he]
    go_enter Try.func42, Try.ntmps42
    go_wp2_with fail
    go_ret
    exact ⟨rfl, rfl⟩

def tagCells (t : Sp.Tag) : List Value := [.string t.key, .string t.value]
def tagK : Kind Sp.Tag := plainK 2 (by decide) tagCells (fun _ => rfl) (fun t u hu => by simp [tagCells] at hu; rcases hu with rfl | rfl <;> rfl)
theorem tagEls {F F' : Nat → Prop} {w : World} : ∀ {ts : List Sp.Tag} {cs : List Value}, Els tagK F w cs ts → Els tagK F' w cs ts
  | [], _, h => h
  | _ :: _, _, h => ⟨h.1, tagEls h.2⟩
def spanCells (s : Sp.T) (vt : Value) : List Value := [.int .u64 s.hi, .int .u64 s.lo, .int .u64 s.id, .int .u64 s.parent, .string s.service, .string s.name, .int .i64 s.kind, .int .i64 s.start, .int .i64 s.length, .bool s.fails, vt]
def spanK : Kind Sp.T where
  sz := 11
  R F w cs s := ∃ vt, cs = spanCells s vt ∧ Rw tagK F w vt s.tags
  pos := by decide
  len := by rintro F w cs x ⟨v, rfl, _⟩; rfl
  keep := by rintro F w w' cs x ⟨v, rfl, h⟩ hk; exact ⟨v, rfl, h.keep hk⟩
  mono := by rintro F F' w cs x ⟨v, rfl, h⟩ hk; exact ⟨v, rfl, h.mono hk⟩
  one := by
    rintro F w cs x ⟨v, rfl, h⟩ u hu
    have := h.oneCell
    simp only [spanCells, List.mem_cons, List.not_mem_nil, or_false] at hu
    rcases hu with rfl | rfl | rfl | rfl | rfl | rfl | rfl | rfl | rfl | rfl | rfl <;> first | rfl | exact this

theorem tags_at {F : Nat → Prop} {w : World} {v : Value} {ts : List Sp.Tag} (h : Rw tagK F w v ts) (hne : 0 < ts.length) :
    ∃ b off cap, v = .slice (some ⟨b, off, none⟩) ts.length cap ∧ F b ∧ b < w.heap.size ∧ ∀ i (hi : i < ts.length), w.cell? ⟨b, off + i * 2, none⟩ = some (.string ts[i].key) ∧ w.cell? ⟨b, off + i * 2 + 1, none⟩ = some (.string ts[i].value) := by
  obtain ⟨b, off, cap, e, hF, hb, _, _, hc⟩ := h.place hne
  refine ⟨b, off, cap, e, hF, hb, fun i hi => ?_⟩
  obtain ⟨es, he, hes⟩ := hc i hi
  have he' : es = tagCells ts[i] := he
  subst he'
  exact ⟨hes 0 _ rfl, hes 1 _ rfl⟩

/-- What span.long asks of a tag. -/
theorem longTag_any (t : Sp.Tag) (w : World) :
    Calls Try.prog 53 #[.agg #[.string t.key, .string t.value]] w fun e w' => e = .returned (.bool (Sp.longTag t)) ∧ Below w.heap.size w w' := by
  have hd : Sp.longTag t = (decide ((128 : Int) < (t.key.size : Int)) || decide ((128 : Int) < (t.value.size : Int))) := by
    unfold Sp.longTag
    congr 1 <;> exact decide_eq_decide.2 (by omega)
  rw [hd]
  clear hd
  have hb : Below w.heap.size w (w.alloc (.cells #[.string t.key, .string t.value] 73)) := (Below.refl _ _).alloc (Nat.le_refl _) _
  by_cases h1 : (128 : Int) < (t.key.size : Int)
  · go_enter Try.func53, Try.ntmps53
    go_wp2_with fail
    go_ret
    exact ⟨by simp [h1], hb⟩
  · have h2 : decide ((128 : Int) < (t.key.size : Int)) = false := by simpa using h1
    go_enter Try.func53, Try.ntmps53
    go_wp2_with fail
    go_ret
    exact ⟨by simp, hb⟩

set_option maxRecDepth 100000 in
theorem indexFunc_any (F : Nat → Prop) (v : Value) (ts : List Sp.Tag) (w : World) (hv : Rw tagK F w v ts) :
    Calls Try.prog 54 #[v, .func (.func 53) #[] #[]] w fun e w' => ∃ i : Int, e = .returned (.int .i64 i) ∧ decide (0 ≤ i) = ts.any Sp.longTag ∧ Below w.heap.size w w' := by
  have hml := hv.len
  simp only [maxLen] at hml
  obtain ⟨a, c, rfl⟩ := hv.isSlice
  have HV := Lib.hid hv
  clear hv
  go_enter Try.func54, Try.ntmps54
  go_wp2_with fail
  go_loopw [8] (fun i wr => ∃ j : Nat, i = .int .i64 j ∧ j ≤ ts.length ∧ Hid ((ts.take j).any Sp.longTag = false) ∧ Hid (Below w.heap.size w wr)) (fun i _ => ts.length - (intOf i).toNat)
  case atStart => exact ⟨0, rfl, by omega, rfl, Below.refl _ _⟩
  case round =>
    obtain ⟨j, rfl, hj, HA, HW⟩ := hrel
    by_cases hlt : j < ts.length
    · obtain ⟨b, off, cap, ea, _, hb, hc⟩ := tags_at (HV.out.below HW.out) (by omega)
      injection ea with e1 e2 e3
      subst e1 e3
      clear e2
      obtain ⟨k0, k1⟩ := hc j hlt
      have HS : Hid (Sp.longTag ts[j] = false → (ts.take (j + 1)).any Sp.longTag = false) := fun h => by
        rw [List.take_succ_eq_append_getElem hlt, List.any_append, HA.out]; simp [h]
      have HT : Hid (Sp.longTag ts[j] = true → ts.any Sp.longTag = true) := fun h => List.any_eq_true.2 ⟨_, List.getElem_mem hlt, h⟩
      clear hc
      generalize ts[j] = t at *
      go_wp2_with fail
      refine Calls.mono (longTag_any t _) ?_
      rintro e w1 ⟨rfl, hb1⟩
      have HW1 : Hid (Below w.heap.size w w1) := HW.out.trans (hb1.mono HW.out.size)
      clear hb1
      cases ht : Sp.longTag t with
      | true =>
        go_wp2_with fail
        go_ret
        exact ⟨_, rfl, by rw [HT.out ht]; simp, HW1.out⟩
      | false =>
        go_wp2_with fail
        go_roundw
        · exact ⟨j + 1, by go_num, by omega, HS.out ht, HW1⟩
        · simp only [intOf]; omega
    · have HE : Hid (ts.any Sp.longTag = false) := by
        have h1 := HA.out
        rw [List.take_of_length_le (by omega)] at h1
        exact h1
      go_wp2_with fail
      go_ret
      exact ⟨_, rfl, by rw [HE.out]; rfl, HW.out⟩

theorem containsFunc_any (F : Nat → Prop) (v : Value) (ts : List Sp.Tag) (w : World) (hv : Rw tagK F w v ts) :
    Calls Try.prog 52 #[v, .func (.func 53) #[] #[]] w fun e w' => e = .returned (.bool (ts.any Sp.longTag)) ∧ Below w.heap.size w w' := by
  obtain ⟨a, c, rfl⟩ := hv.isSlice
  go_enter Try.func52, Try.ntmps52
  go_wp2_with fail
  refine Calls.mono (indexFunc_any F _ ts w hv) ?_
  rintro e w1 ⟨i, rfl, hi, hb⟩
  go_wp2_with fail
  go_ret
  exact ⟨rfl, hb⟩
end Go.Proofs.Ytiofhmlmimbngaa
