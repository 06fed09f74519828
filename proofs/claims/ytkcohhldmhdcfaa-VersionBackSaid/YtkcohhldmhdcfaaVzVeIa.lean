/- Chapter 12: slices.IndexFunc, slices.ContainsFunc over files. Chapter 12: version.Deepest. Chapter 12: levels: rows of one's own in a list of one's own (as compact's files are). Chapter 12: rows of files of one's own, made and read. -/
import Derived.Test.YtkcohhldmhdcfaaVzVeFa
import Derived.Deep.AppendSrc
namespace Go.Proofs.Ytkcohhldmhdcfaa
open Go.RowKit

structure FirstF (p : Fil → Bool) (l : List Fil) (j : Nat) : Prop where
  le : j ≤ l.length
  off : ∀ i, i < j → p (fat l i) = false
  on : j < l.length → p (fat l j) = true
/-- Function g has a body. -/
def Bodied (g : FuncId) : Prop := ∀ (args : Array Value) (w : World), (callFunc g args).run Try.prog w = .ok (.enter g args) w
/-- What a function value that asks a file answers, from a world on. -/
def Asks (g : FuncId) (caps : Array Value) (p : Fil → Bool) (l : List Fil) (w : World) : Prop :=
  ∀ (f : Fil) (la : Option Addr) (lc : Nat) (ma : Option Addr) (mc : Nat) (x : World), f ∈ l → Below w.heap.size w x → Bytes (· < w.heap.size) x (.slice la f.least.length lc) f.least → Bytes (· < w.heap.size) x (.slice ma f.most.length mc) f.most →
    Calls Try.prog g (#[.agg #[.int .u64 f.num, .int .i64 f.size, .slice la f.least.length lc, .slice ma f.most.length mc, .int .i64 f.ents, .int .u64 f.mseq]] ++ caps) x fun e w' => e = .returned (.bool (p f)) ∧ Below x.heap.size x w'

set_option maxRecDepth 100000 in
set_option maxHeartbeats 4000000 in
theorem findex_any (F : Nat → Prop) (g : FuncId) (caps : Array Value) (p : Fil → Bool) (v : Value) (l : List Fil) (w : World) (h : Rw filK F w v l) (hfew : l.length ≤ 1000000) (hg : Asks g caps p l w) (hbd : Bodied g) :
    Calls Try.prog 105 #[v, .func (.func g) #[] caps] w fun e w' => ∃ j, FirstF p l j ∧ e = .returned (.int .i64 (if j < l.length then (j : Int) else -1)) ∧ Below w.heap.size w w' := by
  obtain ⟨xa, ca, rfl⟩ := h.isSlice
  have HA : Hid (Rw filK (· < w.heap.size) w (.slice xa l.length ca) l) := h.mono fun k hk _ => hk
  have HG := Lib.hid hg
  have HBD := Lib.hid hbd
  clear h hg hbd
  obtain ⟨n, hn⟩ : ∃ n, l.length = n := ⟨_, rfl⟩
  have HN := Lib.hid hn
  rw [hn] at HA hfew
  rw [hn]
  clear hn
  go_enter Try.func105, Try.ntmps105
  go_wp2_with fail
  go_loopw [8] (fun iv wr => ∃ (j : Nat), iv = .int .i64 (j : Int) ∧ j ≤ n ∧ Hid (∀ i, i < j → p (fat l i) = false) ∧ Hid (Below w.heap.size w wr)) (fun iv _ => n - (intOf iv).toNat)
  case atStart => exact ⟨0, rfl, by omega, (fun i hi => by omega), Below.refl _ _⟩
  case round =>
    obtain ⟨j, rfl, hj, HO, HW⟩ := hrel
    by_cases hlt : j < n
    · have t1 : (j : Int) < (n : Int) := by omega
      have t3 : 0 ≤ (j : Int) := by omega
      have hl1 : j < l.length := by rw [HN.out]; omega
      obtain ⟨ba, oa, capa, ea, hba, _, hca⟩ := fils_at HA.out (by omega)
      obtain ⟨vl, vm, hvl, hvm, _, hc6⟩ := hca j hl1
      injection ea with e1 e2 e3
      subst e1 e3
      clear e2 hca
      have HIN := Lib.hid (fat_mem hl1)
      obtain ⟨f, hf⟩ : ∃ f, fat l j = f := ⟨_, rfl⟩
      have HF := Lib.hid hf
      rw [hf] at hvl hvm hc6 HIN
      obtain ⟨la, lc, rfl⟩ := hvl.isSlice
      obtain ⟨ma, mc, rfl⟩ := hvm.isSlice
      have HVL := Lib.hid hvl
      have HVM := Lib.hid hvm
      have hc6 := hc6.keep HW.out hba
      obtain ⟨c0, c1, c2, c3, c4, c5⟩ := hc6
      have hbd : ∀ (args : Array Value) (w : World), (callFunc g args).run Try.prog w = .ok (.enter g args) w := HBD.out
      clear hvl hvm hl1 hf hba
      go_wp2_with fail
      clear hbd
      clear c0 c1 c2 c3 c4 c5
      refine Calls.mono (HG.out f la lc ma mc _ HIN.out HW.out (HVL.out.below HW.out) (HVM.out.below HW.out)) ?_
      rintro _ w2 ⟨rfl, hb⟩
      have HW2 : Hid (Below w.heap.size w w2) := HW.out.trans (hb.mono HW.out.size)
      clear hb HW HVL HVM HIN
      obtain ⟨r, hr⟩ : ∃ r, p f = r := ⟨_, rfl⟩
      have HR := Lib.hid hr
      rw [hr]
      clear hr
      cases r with
      | false =>
        go_wp2_with fail
        go_roundw
        · exact ⟨j + 1, by go_num, by omega, (fun i hi => by
            by_cases e0 : i = j
            · rw [e0, HF.out]; exact HR.out
            · exact HO.out i (by omega)), HW2.out⟩
        · simp only [intOf]; omega
      | true =>
        have HP : Hid (FirstF p l j) := ⟨by rw [HN.out]; omega, HO.out, fun _ => by rw [HF.out]; exact HR.out⟩
        have HE : Hid ((j : Int) = if j < n then (j : Int) else -1) := by show _ = _; rw [if_pos hlt]
        go_wp2_with fail
        go_ret
        exact ⟨j, HP.out, ret_int HE.out, HW2.out⟩
    · have t1 : ¬ (j : Int) < (n : Int) := by omega
      have hjn : j = n := by omega
      have HP : Hid (FirstF p l j) := ⟨by rw [HN.out]; omega, HO.out, fun h => by rw [HN.out] at h; omega⟩
      have HE : Hid ((-1 : Int) = if j < n then (j : Int) else -1) := by show _ = _; rw [if_neg hlt]
      clear hjn
      go_wp2_with fail
      go_ret
      exact ⟨j, HP.out, ret_int HE.out, HW.out⟩

theorem FirstF.any {p : Fil → Bool} {l : List Fil} {j : Nat} (h : FirstF p l j) : l.any p = decide (j < l.length) := by
  by_cases hj : j < l.length
  · rw [decide_eq_true hj, List.any_eq_true]
    exact ⟨_, fat_mem hj, h.on hj⟩
  · rw [decide_eq_false hj, List.any_eq_false]
    intro x hx
    obtain ⟨i, hi, rfl⟩ := List.mem_iff_getElem.1 hx
    rw [fat_eq hi, h.off i (by omega)]
    decide

set_option maxRecDepth 100000 in
theorem fcontains_any (F : Nat → Prop) (g : FuncId) (caps : Array Value) (p : Fil → Bool) (v : Value) (l : List Fil) (w : World) (h : Rw filK F w v l) (hfew : l.length ≤ 1000000) (hg : Asks g caps p l w) (hbd : Bodied g) :
    Calls Try.prog 75 #[v, .func (.func g) #[] caps] w fun e w' => e = .returned (.bool (l.any p)) ∧ Below w.heap.size w w' := by
  have HI := Lib.hid (findex_any F g caps p v l w h hfew hg hbd)
  obtain ⟨xa, ca, rfl⟩ := h.isSlice
  clear h hg
  go_enter Try.func75, Try.ntmps75
  go_wp2_with fail
  refine Calls.mono HI.out ?_
  rintro _ w2 ⟨j, hj, rfl, hb⟩
  have HB := Lib.hid hb
  have HA := Lib.hid hj.any
  clear hb hj HI
  by_cases hlt : j < l.length
  · have t1 : 0 ≤ (j : Int) := by omega
    rw [if_pos hlt]
    have HE : Hid (l.any p = true) := by show _ = _; rw [HA.out, decide_eq_true hlt]
    clear hlt HA
    go_wp2_with fail
    go_ret
    exact ⟨ret_bool HE.out.symm, HB.out⟩
  · rw [if_neg hlt]
    have HE : Hid (l.any p = false) := by show _ = _; rw [HA.out, decide_eq_false hlt]
    clear hlt HA
    go_wp2_with fail
    go_ret
    exact ⟨ret_bool HE.out.symm, HB.out⟩
end Go.Proofs.Ytkcohhldmhdcfaa

namespace Go.Proofs.Ytkcohhldmhdcfaa
open Go.RowKit

end Go.Proofs.Ytkcohhldmhdcfaa

namespace Go.Proofs.Ytkcohhldmhdcfaa
open Go.RowKit

/-- A slice value in one cell. -/
def valK : Kind Value where
  sz := 1
  R _ _ cs u := cs = [u] ∧ u.oneCell' = true
  pos := by decide
  len := by rintro F w cs x ⟨rfl, _⟩; rfl
  keep := by rintro F w w' cs x h _; exact h
  mono := by rintro F F' w cs x h _; exact h
  one := by rintro F w cs x ⟨rfl, h⟩ u hu; rw [List.mem_singleton.1 hu]; exact h
def uq (us : List Value) (i : Nat) : Value := us.getD i (.slice none 0 0)
theorem uq_append_lt {us : List Value} {u : Value} {i : Nat} (h : i < us.length) : uq (us ++ [u]) i = uq us i := by simp [uq, List.getD, List.getElem?_append_left h]
theorem uq_append_at {us : List Value} {u : Value} : uq (us ++ [u]) us.length = u := by simp [uq]
theorem uq_set_at {us : List Value} {u : Value} {i : Nat} (h : i < us.length) : uq (us.set i u) i = u := by simp [uq, h]
theorem uq_set_ne {us : List Value} {u : Value} {i j : Nat} (h : i ≠ j) : uq (us.set i u) j = uq us j := by simp [uq, List.getD, h]
theorem els_vals {F : Nat → Prop} {w : World} : ∀ {us cs : List Value}, Els valK F w cs us → cs = us ∧ ∀ u ∈ us, u.oneCell' = true
  | [], _, h => ⟨h, fun _ h => by cases h⟩
  | u :: us, cs, h => by
    obtain ⟨⟨h1, h2⟩, h3⟩ := h
    obtain ⟨h4, h5⟩ := els_vals h3
    have hsz : valK.sz = 1 := rfl
    rw [hsz] at h1 h4
    refine ⟨?_, fun x hx => ?_⟩
    · rw [← List.take_append_drop 1 cs, h1, h4]; rfl
    · rcases List.mem_cons.1 hx with rfl | hx
      · exact h2
      · exact h5 x hx
theorem vals_els {F : Nat → Prop} {w : World} : ∀ {us : List Value}, (∀ u ∈ us, u.oneCell' = true) → Els valK F w us us
  | [], _ => rfl
  | u :: _us, h => ⟨⟨rfl, h u (List.mem_cons_self ..)⟩, vals_els fun x hx => h x (List.mem_cons_of_mem _ hx)⟩

/-- No one's block of its own. -/
def Free (v : Value) (us : List Value) (k : Nat) : Prop := v.ownBlock ≠ some k ∧ ∀ i, i < us.length → (uq us i).ownBlock ≠ some k

structure Fl (D : Nat → Prop) (A : Nat) (w : World) (v : Value) (us : List Value) (files : List (List Fil)) : Prop where
  arr : ROwnF valK (fun _ => False) A 33 w v us
  len : us.length = files.length
  row : ∀ i, i < us.length → ROwnF filK (fun k => A ≤ k ∧ D k ∧ Free v us k) A 42 w (uq us i) (files.getD i [])
  dis : ∀ i j k, i < us.length → j < us.length → i ≠ j → (uq us i).ownBlock = some k → (uq us j).ownBlock ≠ some k
  ne : ∀ i k, i < us.length → (uq us i).ownBlock = some k → v.ownBlock ≠ some k
  da : ∀ k, v.ownBlock = some k → D k
  dr : ∀ i k, i < us.length → (uq us i).ownBlock = some k → D k

variable {D D' : Nat → Prop} {A : Nat} {w w' : World} {v : Value} {us : List Value} {files : List (List Fil)}
theorem Fl.nil (D : Nat → Prop) (A : Nat) (w : World) : Fl D A w (.slice none 0 0) [] [] := ⟨ROwnF.nil _ _ _ _ _, rfl, (fun i h => by cases h), (fun i _ _ h => by cases h), (fun i _ h => by cases h), (fun k h => by cases h), fun i _ h => by cases h⟩
theorem Fl.below (h : Fl D A w v us files) (hb : Below w.heap.size w w') : Fl D A w' v us files :=
  ⟨h.arr.below hb, h.len, fun i hi => (h.row i hi).below hb, h.dis, h.ne, h.da, h.dr⟩
theorem Fl.mono (h : Fl D A w v us files) (hD : ∀ k, k < w.heap.size → D k → D' k) : Fl D' A w v us files :=
  ⟨h.arr, h.len, fun i hi => (h.row i hi).mono fun k hk hF _ => ⟨hF.1, hD k hk hF.2.1, hF.2.2⟩, h.dis, h.ne, fun k e => hD k (h.arr.lt k e).2 (h.da k e), fun i k hi e => hD k ((h.row i hi).lt k e).2 (h.dr i k hi e)⟩
theorem Fl.wrote {S : Nat → Prop} (h : Fl D A w v us files) (hw : Wrote S w w') (hD : ∀ k, D k → ¬ S k) : Fl D A w' v us files :=
  ⟨h.arr.keep fun k hk hF => hw.block k hk (hD k (hF.elim (h.da k) fun hF => hF.1.elim)), h.len, fun i hi => (h.row i hi).keep fun k hk hF => hw.block k hk (hD k (hF.elim (h.dr i k hi) fun hF => hF.1.2.1)), h.dis, h.ne, h.da, h.dr⟩
theorem Fl.lt (h : Fl D A w v us files) : ∀ k, v.ownBlock = some k → A ≤ k ∧ k < w.heap.size := h.arr.lt

/-- A new file. -/
theorem Fl.more {v' : Value} (h : Fl D A w v us files) (ha : ROwnF valK (fun _ => False) A 33 w' v' (us ++ [.slice none 0 0])) (hg : Grew w w' v v') (hD : ∀ k, w.heap.size ≤ k → D k) : Fl D A w' v' (us ++ [.slice none 0 0]) (files ++ [[]]) := by
  have hv' : ∀ k, k < w.heap.size → v.ownBlock ≠ some k → v'.ownBlock ≠ some k := fun k hk hn e => by
    rcases hg.own k e with e | e
    · exact hn e
    · omega
  refine ⟨ha, by simp [h.len], fun i hi => ?_, fun i j k hi hj hij e => ?_, fun i k hi e => ?_, fun k e => (hg.own k e).elim (h.da k) (hD k), fun i k hi e => ?_⟩
  · rw [List.length_append, List.length_singleton] at hi
    by_cases hin : i < us.length
    · rw [uq_append_lt hin, show (files ++ [([] : List Fil)]).getD i [] = files.getD i [] by simp [List.getD, List.getElem?_append_left (show i < files.length by rw [← h.len]; exact hin)]]
      have h1 := (h.row i hin).mono (F' := fun k => (A ≤ k ∧ D k ∧ Free v us k) ∧ k < w.heap.size) fun k hk hF _ => ⟨hF, hk⟩
      have h2 : ROwnF filK (fun k => (A ≤ k ∧ D k ∧ Free v us k) ∧ k < w.heap.size) A 42 w' (uq us i) (files.getD i []) := h1.keep fun k hk hF => hg.grown.block k hk fun e => by
        rcases hF with hF | hF
        · exact h.ne i k hin hF e.symm
        · exact hF.1.1.2.2.1 e.symm
      refine h2.mono fun k _ hF _ => ⟨hF.1.1, hF.1.2.1, hv' k hF.2 hF.1.2.2.1, fun j hj => ?_⟩
      rw [List.length_append, List.length_singleton] at hj
      by_cases hjn : j < us.length
      · rw [uq_append_lt hjn]; exact hF.1.2.2.2 j hjn
      · rw [show j = us.length by omega, uq_append_at]; simp [Value.ownBlock]
    · rw [show i = us.length by omega, uq_append_at, show (files ++ [([] : List Fil)]).getD us.length [] = [] by rw [h.len]; simp]
      exact ROwnF.nil _ _ _ _ _
  · rw [List.length_append, List.length_singleton] at hi hj
    by_cases hin : i < us.length
    · rw [uq_append_lt hin] at e
      by_cases hjn : j < us.length
      · rw [uq_append_lt hjn]; exact h.dis i j k hin hjn hij e
      · rw [show j = us.length by omega, uq_append_at]; simp [Value.ownBlock]
    · rw [show i = us.length by omega, uq_append_at] at e
      simp [Value.ownBlock] at e
  · rw [List.length_append, List.length_singleton] at hi
    by_cases hin : i < us.length
    · rw [uq_append_lt hin] at e
      exact hv' k ((h.row i hin).lt k e).2 (h.ne i k hin e)
    · rw [show i = us.length by omega, uq_append_at] at e
      simp [Value.ownBlock] at e
  · rw [List.length_append, List.length_singleton] at hi
    by_cases hin : i < us.length
    · rw [uq_append_lt hin] at e
      exact h.dr i k hin e
    · rw [show i = us.length by omega, uq_append_at] at e
      simp [Value.ownBlock] at e

theorem vals_set {g cap i : Nat} {u : Value} (h : ROwnF valK (fun _ => False) A 33 w (.slice (some ⟨g, 0, none⟩) us.length cap) us) (h1 : u.oneCell' = true) : ROwnF valK (fun _ => False) A 33 (w.setCell ⟨g, i, none⟩ u) (.slice (some ⟨g, 0, none⟩) us.length cap) (us.set i u) := by
  obtain ⟨cs, g1, g2⟩ := h
  obtain ⟨rfl, g3⟩ := els_vals g2
  refine ⟨cs.set i u, ?_, vals_els fun x hx => ?_⟩
  · rw [List.length_set]
    exact (World.ownsRow.stored g1 i u).1
  · rcases List.mem_or_eq_of_mem_set hx with hx | rfl
    · exact g3 x hx
    · exact h1

/-- One more entry in the last file: the row has grown, and its slice is stored. -/
theorem Fl.last {g cap m : Nat} {u' : Value} {cur : List Fil} (h : Fl D A w (.slice (some ⟨g, 0, none⟩) us.length cap) us files) (hm : m < us.length) (ha : ROwnF filK (fun k => A ≤ k ∧ D k ∧ Free (.slice (some ⟨g, 0, none⟩) us.length cap) us k) A 42 w' u' cur) (hg : Grew w w' (uq us m) u') (h1 : u'.oneCell' = true) (hD : ∀ k, w.heap.size ≤ k → D k) :
    Fl D A (w'.setCell ⟨g, m, none⟩ u') (.slice (some ⟨g, 0, none⟩) us.length cap) (us.set m u') (files.set m cur) := by
  have hgo : ∀ k, (Value.slice (some ⟨g, 0, none⟩) us.length cap).ownBlock ≠ some k → k ≠ g := fun k hk e => hk (by rw [e]; rfl)
  have hgl : g < w.heap.size := (h.arr.lt g rfl).2
  have hu' : ∀ k, k < w.heap.size → (uq us m).ownBlock ≠ some k → u'.ownBlock ≠ some k := fun k hk hn e => by
    rcases hg.own k e with e | e
    · exact hn e
    · omega
  have hfr : ∀ k, k < w.heap.size → Free (.slice (some ⟨g, 0, none⟩) us.length cap) us k → Free (.slice (some ⟨g, 0, none⟩) us.length cap) (us.set m u') k := fun k hk hF => ⟨hF.1, fun j hj => by
    rw [List.length_set] at hj
    by_cases hjm : m = j
    · subst hjm; rw [uq_set_at hm]; exact hu' k hk (hF.2 m hm)
    · rw [uq_set_ne hjm]; exact hF.2 j hj⟩
  refine ⟨vals_set (h.arr.keep fun k hk hF => hg.grown.block k hk fun e => ?_) h1, by rw [List.length_set, List.length_set]; exact h.len, fun i hi => ?_, fun i j k hi hj hij e => ?_, fun i k hi e => ?_, h.da, fun i k hi e => ?_⟩
  · rcases hF with hF | hF
    · exact h.ne m k hm e.symm hF
    · exact hF.1.elim
  · rw [List.length_set] at hi
    by_cases him : m = i
    · subst him
      rw [uq_set_at hm, show (files.set m cur).getD m [] = cur by simp [List.getD, ← h.len, hm]]
      refine (ha.keep fun k hk hF => heap_setCell_other _ _ _ _ ?_).mono fun k hk hF hne => ⟨hF.1, hF.2.1, hF.2.2.1, fun j hj => ?_⟩
      · rcases hF with hF | hF
        · intro e
          rcases hg.own k hF with e1 | e1
          · exact h.ne m k hm e1 (by rw [show k = g from e]; rfl)
          · rw [show k = g from e] at e1; omega
        · exact hgo k hF.1.2.2.1
      · rw [List.length_set] at hj
        by_cases hjm : m = j
        · subst hjm; rw [uq_set_at hm]; exact hne
        · rw [uq_set_ne hjm]; exact hF.2.2.2 j hj
    · rw [uq_set_ne him, show (files.set m cur).getD i [] = files.getD i [] by simp [List.getD, him]]
      have h2 := (h.row i hi).mono (F' := fun k => (A ≤ k ∧ D k ∧ Free (.slice (some ⟨g, 0, none⟩) us.length cap) us k) ∧ k < w.heap.size) fun k hk hF _ => ⟨hF, hk⟩
      refine (h2.keep (w' := w'.setCell ⟨g, m, none⟩ u') fun k hk hF => ?_).mono fun k _ hF _ => ⟨hF.1.1, hF.1.2.1, hfr k hF.2 hF.1.2.2⟩
      rw [heap_setCell_other _ _ _ _ (by
        rcases hF with hF | hF
        · exact fun e => h.ne i k hi hF (by rw [show k = g from e]; rfl)
        · exact hgo k hF.1.1.2.2.1)]
      refine hg.grown.block k hk fun e => ?_
      rcases hF with hF | hF
      · exact h.dis i m k hi hm (Ne.symm him) hF e.symm
      · exact hF.1.1.2.2.2 m hm e.symm
  · rw [List.length_set] at hi hj
    by_cases him : m = i
    · subst him
      rw [uq_set_at hm] at e
      rw [uq_set_ne hij]
      intro e2
      rcases hg.own k e with e1 | e1
      · exact h.dis m j k hm hj hij e1 e2
      · have := ((h.row j hj).lt k e2).2; omega
    · rw [uq_set_ne him] at e
      by_cases hjm : m = j
      · subst hjm
        rw [uq_set_at hm]
        exact hu' k ((h.row i hi).lt k e).2 (h.dis i m k hi hm hij e)
      · rw [uq_set_ne hjm]; exact h.dis i j k hi hj hij e
  · rw [List.length_set] at hi
    by_cases him : m = i
    · subst him
      rw [uq_set_at hm] at e
      intro e2
      rcases hg.own k e with e1 | e1
      · exact h.ne m k hm e1 e2
      · have := (h.arr.lt k e2).2; omega
    · rw [uq_set_ne him] at e
      exact h.ne i k hi e
  · rw [List.length_set] at hi
    by_cases him : m = i
    · subst him
      rw [uq_set_at hm] at e
      exact (hg.own k e).elim (h.dr m k hm) (hD k)
    · rw [uq_set_ne him] at e
      exact h.dr i k hi e
end Go.Proofs.Ytkcohhldmhdcfaa

namespace Go.Proofs.Ytkcohhldmhdcfaa
open Go.RowKit

/-- append of one thing, that lies in a block of its own, at a step of a region that draws its order. -/
theorem step_append_elF {α : Type} {K : Kind α} {P : Program} {ops : Array Oper} {w : World} {o : Oper} {a : Act} {C : Act → World → Prop} {Q : Exit → Act → World → Prop} {E : Prop} (t e : TypeId) (z : Value) (bytes : Nat) (ht : P.underlying t = some (.slice e))
    (hinfo : (P.info? e).map (fun i => (i.zero, i.size, i.bytes)) = some (some z, K.sz, bytes)) (hzs : z.cells.size = K.sz)
    (F : Nat → Prop) (base : Nat) (v : Value) (xs : List α) (b : Nat) (T : TypeId) (c : Array Value) (y : α) (hgd : o.guard = none) (s x : Operand)
    (ho : o.op = .call { callee := .builtin .append, args := #[s, x], argTypes := #[t, t] })
    (hs : a.eval s = v) (hx : a.eval x = .slice (some ⟨b, 0, none⟩) 1 1) (hown : ROwnF K F base e w v xs) (hsrc : Blk w b c T)
    (hel : K.R (fun k => F k ∧ v.ownBlock ≠ some k) w c.toList y) (hm : xs.length < 1000000) (hby : bytes ≤ 100000) (hbase : base ≤ w.heap.size)
    (h : ∀ v' w', ROwnF K F base e w' v' (xs ++ [y]) → Grew w w' v v' → C (a.put o.dst v') w') : if Region.wanted o (yielded ops a.tmps) = true then Oper.wp P o a w C Q else E :=
  step_of_wp hgd (wp_append_elF t e z bytes ht hinfo hzs F base v xs b T c y s x ho hs hx hown hsrc hel hm hby hbase h)

theorem below_al {w W : World} (h : Below w.heap.size w W) (o : Obj) : Below w.heap.size w (W.alloc o) := h.alloc h.size o
theorem Blk.drewP {w : World} {b : Nat} {c : Array Value} {T : TypeId} (h : Blk w b c T) : Blk w.drew b c T := h
theorem info_filO : (Try.prog.info? 42).map (fun i => (i.zero, i.size, i.bytes)) = some (some (.agg #[.int .u64 0, .int .i64 0, .slice none 0 0, .slice none 0 0, .int .i64 0, .int .u64 0]), filK.sz, 80) := by kernel_rfl
theorem make_rows5 (w : World) : (Instr.makeSlice 22 (.int .i64 5) (.int .i64 5)).run Try.prog w = .ok (.slice (some ⟨w.heap.size, 0, none⟩) 5 5) (w.alloc (.cells #[.slice none 0 0, .slice none 0 0, .slice none 0 0, .slice none 0 0, .slice none 0 0] 33)) := by kernel_rfl
def nil5 : List Value := [.slice none 0 0, .slice none 0 0, .slice none 0 0, .slice none 0 0, .slice none 0 0]
theorem uq_nil5 (i : Nat) : uq nil5 i = .slice none 0 0 := by
  match i with
  | 0 | 1 | 2 | 3 | 4 => rfl
  | i + 5 => rfl
theorem Fl.made {D : Nat → Prop} {A b : Nat} {w : World} (hb : Blk w b #[.slice none 0 0, .slice none 0 0, .slice none 0 0, .slice none 0 0, .slice none 0 0] 33) (hA : A ≤ b) (hD : D b) : Fl D A w (.slice (some ⟨b, 0, none⟩) 5 5) nil5 [[], [], [], [], []] := by
  refine ⟨⟨nil5, ⟨rfl, .inr ⟨b, 5, _, rfl, hA, hb, Nat.le_refl _, by simp [maxLen], rfl, rfl⟩⟩, vals_els fun u hu => ?_⟩, rfl, fun i hi => ?_, fun i j k _ _ _ e => ?_, fun i k _ e => ?_, fun k e => ?_, fun i k _ e => ?_⟩
  · simp only [nil5, List.mem_cons, List.not_mem_nil, or_false, or_self] at hu
    subst hu
    rfl
  · rw [uq_nil5]
    have hi : i < 5 := hi
    rw [show ([[], [], [], [], []] : List (List Fil)).getD i [] = [] by match i, hi with | 0, _ | 1, _ | 2, _ | 3, _ | 4, _ => rfl]
    exact ROwnF.nil _ _ _ _ _
  · rw [uq_nil5] at e; cases e
  · rw [uq_nil5] at e; cases e
  · injection e with e; rw [← e]; exact hD
  · rw [uq_nil5] at e; cases e

theorem els_rows {F : Nat → Prop} {w : World} : ∀ (rs : List (List Fil)) (cs : List Value), cs.length = rs.length → (∀ k (hk : k < rs.length), ∃ u, cs[k]? = some u ∧ Rw filK F w u rs[k]) → Els (rowK filK) F w cs rs
  | [], cs, h, _ => List.eq_nil_of_length_eq_zero h
  | r :: rs, [], h, _ => by cases h
  | r :: rs, c :: cs, h, hk => by
    refine ⟨?_, ?_⟩
    · obtain ⟨u, e, hu⟩ := hk 0 (by simp)
      simp at e
      subst e
      exact ⟨c, rfl, hu⟩
    · refine els_rows rs cs (by simpa using h) fun k hk' => ?_
      obtain ⟨u, e, hu⟩ := hk (k + 1) (by simpa using hk')
      exact ⟨u, by simpa using e, by simpa using hu⟩
theorem Fl.rows {D : Nat → Prop} {A : Nat} {w : World} {v : Value} {us : List Value} {files : List (List Fil)} (h : Fl D A w v us files) : Rw (rowK filK) (fun k => A ≤ k) w v files := by
  obtain ⟨cs, h1, h2⟩ := h.arr
  obtain ⟨rfl, _⟩ := els_vals h2
  have hs := (Sl.of_owns h1).mono (F' := fun k => A ≤ k) fun k _ hk => (World.ownsRow.lt h1 k hk).1
  refine ⟨cs, by rw [← h.len]; exact hs, els_rows files cs h.len fun i hi => ?_⟩
  have hi' : i < cs.length := by rw [h.len]; exact hi
  refine ⟨uq cs i, by simp [uq, hi'], ?_⟩
  have h3 := h.row i hi'
  rw [lat_eq hi]
  exact h3.rows.mono fun k _ hk => hk.elim (fun e => (h3.lt k e).1) fun hk => hk.1.1
theorem vals_at {A : Nat} {w : World} {v : Value} {us : List Value} (h : ROwnF valK (fun _ => False) A 33 w v us) (hn : 0 < us.length) :
    ∃ g cap, v = .slice (some ⟨g, 0, none⟩) us.length cap ∧ A ≤ g ∧ g < w.heap.size ∧ (∀ i, i < us.length → w.cell? ⟨g, i, none⟩ = some (uq us i)) ∧ ∀ i, w.frozen? ⟨g, i, none⟩ = false := by
  obtain ⟨cs, h1, h2⟩ := h
  obtain ⟨rfl, _⟩ := els_vals h2
  obtain ⟨h0, ⟨rfl, hz⟩ | ⟨g, cap, cur, rfl, hb, hg, hnc, hcm, hs, htk⟩⟩ := id h1
  · omega
  · refine ⟨g, cap, rfl, hb, (World.ownsRow.lt h1 g rfl).2, fun i hi => ?_, fun i => World.ownsRow.frozenAt h1 i⟩
    rw [World.ownsRow.cellAt h1 i (by show i < _ * 1; omega)]
    simp [uq, hi]
end Go.Proofs.Ytkcohhldmhdcfaa
