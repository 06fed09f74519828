/- The law CompactKeeps: its walk. -/
import Derived.Test.YtmpapipobjoboaaCoS
import Derived.Test.YtmpapipobjoboaaCoT
namespace Go.Proofs.Ytmpapipobjoboaa
open Go.RowKit

theorem crow_yes (F G : Nat → Prop) (v vk : Value) (l : List Ent) (looks : List Int) (bottom : Bool) (X : List Ent) (w : World) (h : Rw entK F w v l) (hk : Rw unK G w vk looks) (hfew : l.length ≤ 1000) (hml : looks.length ≤ 1000) (hbig : ∀ x ∈ l, x.key.length + x.value.length ≤ 100000) (h1 : Sorted l) (h2 : UpTo looks looks.length) (hX : rowOf looks bottom l = X) :
    Calls Try.prog 43 #[v, vk, .bool bottom] w fun x w' => ∃ a c, x = .returned (.tuple #[.slice a X.length c, .int .i64 0]) ∧ Rw entK Any w' (.slice a X.length c) X ∧ Below w.heap.size w w' := by
  refine (crow_any F G v vk l looks bottom w h hk (Nat.le_trans hfew (by decide)) (Nat.le_trans hml (by decide)) (fun x hx => by have := hbig x hx; exact ⟨by omega, by omega⟩)).mono fun x w' ⟨g1, _, g3⟩ => ?_
  obtain ⟨a, c, e, hr⟩ := g1 (chkV_ok (rowB_sorted.2 h1) (upB_iff.2 h2))
  rw [hX] at e hr
  exact ⟨a, c, e, hr.any, g3⟩
theorem one_all (l : List Ent) : allOf [l] = l := by
  show two [] l = l
  exact two_nil l
theorem one_chk {l : List Ent} (h : Sorted l) : chkR [l] = 0 := chkR_ok fun r hr => by rw [List.mem_singleton.1 hr]; exact rowB_sorted.2 h
theorem one_rok {l : List Ent} (h : l.length ≤ 1000) (hb : ∀ x ∈ l, x.key.length + x.value.length ≤ 100000) : ROk [l] :=
  ⟨by simp, by simp only [List.map_cons, List.map_nil, List.sum_cons, List.sum_nil]; omega, fun r hr e he => by rw [List.mem_singleton.1 hr] at he; have := hb e he; exact ⟨by omega, by omega⟩⟩
theorem crun_yes (F G : Nat → Prop) (v vk : Value) (l : List Ent) (looks : List Int) (bottom : Bool) (t : Int) (X : List Ent) (w : World) (h : Rw (rowK entK) F w v [l]) (hk : Rw unK G w vk looks) (hfew : l.length ≤ 1000) (hml : looks.length ≤ 1000) (hbig : ∀ x ∈ l, x.key.length + x.value.length ≤ 100000) (h1 : Sorted l) (h2 : UpTo looks looks.length) (ht : 1 ≤ t ∧ t ≤ 16777216) (hX : rowOf looks bottom l = X) :
    Calls Try.prog 39 #[v, vk, .bool bottom, .int .i64 t] w fun x w' => ∃ a c, x = .returned (.tuple #[.slice a (cutTo t X X.length).length c, .int .i64 0]) ∧ Rw (rowK entK) Any w' (.slice a (cutTo t X X.length).length c) (cutTo t X X.length) ∧ Below w.heap.size w w' := by
  refine (crun_any F G v vk [l] looks bottom t w h hk (one_rok hfew hbig) (fun r hr e he => by rw [List.mem_singleton.1 hr] at he; exact hbig e he) (Nat.le_trans hml (by decide))).mono fun x w' ⟨g1, _, g3⟩ => ?_
  obtain ⟨a, c, e, hr⟩ := g1 ⟨one_chk h1, upB_iff.2 h2, ht.1, ht.2⟩
  have hR : runOf looks bottom [l] = X := by unfold runOf; rw [one_all, hX]
  rw [hR] at e hr
  exact ⟨a, c, e, hr.any, g3⟩
theorem rseen_one (F : Nat → Prop) (v : Value) (l : List Ent) (s : Int) (X : List Ent) (w : World) (h : Rw (rowK entK) F w v [l]) (hfew : l.length ≤ 1000) (hbig : ∀ x ∈ l, x.key.length + x.value.length ≤ 100000) (h1 : Sorted l) (hX : rseenGo s none l = X) :
    Calls Try.prog 34 #[v, .int .u64 s] w fun x w' => ∃ a c, x = .returned (.tuple #[.slice a X.length c, .int .i64 0]) ∧ Rw entK Any w' (.slice a X.length c) X ∧ Below w.heap.size w w' := by
  refine (rseen_any F v [l] s w h (one_rok hfew hbig)).mono fun x w' hp => ?_
  obtain ⟨a, c, e, hr, hb⟩ := hp.rw
  have hO : orNone [l] (rseenGo s none (allOf [l])) = X := by unfold orNone; rw [if_pos (one_chk h1), one_all, hX]
  rw [hO, one_chk h1] at e
  rw [hO] at hr
  exact ⟨a, c, e, hr, hb⟩

/-- What was put into the row of the first i entries of l. -/
structure RowP (l : List Ent) (i : Nat) (row : List Ent) : Prop where
  sort : Sorted row
  len : row.length ≤ i
  src : ∀ x ∈ row, x ∈ l
theorem RowP.start (l : List Ent) : RowP l 0 [] := ⟨List.Pairwise.nil, by simp, fun x h => by cases h⟩
theorem RowP.skip {l row : List Ent} {i : Nat} (h : RowP l i row) : RowP l (i + 1) row := ⟨h.sort, by have := h.len; omega, h.src⟩
theorem RowP.put {l row : List Ent} {i p : Nat} {e : Ent} (h : RowP l i row) (hp : p ≤ row.length) (he : e ∈ l) (hs : Sorted (putAt e row p)) : RowP l (i + 1) (putAt e row p) :=
  ⟨hs, by rw [putAt_len e row hp]; have := h.len; omega, fun x hx => by
    rcases mem_putAt.1 hx with rfl | hx
    · exact he
    · exact h.src x hx⟩
theorem UpTo.push {see : List Int} {x : Int} (h : UpTo see see.length) (h1 : x ≤ maxSeq) (h2 : 0 < see.length → uat see (see.length - 1) < x) : UpTo (see ++ [x]) (see ++ [x]).length := by
  rw [List.length_append, List.length_singleton]
  intro i hi
  by_cases e : i = see.length
  · subst e
    have e1 : uat (see ++ [x]) see.length = x := by simp [uat]
    refine ⟨by rw [e1]; exact h1, fun h0 => ?_⟩
    have e2 : uat (see ++ [x]) (see.length - 1) = uat see (see.length - 1) := by simp [uat, List.getD, List.getElem?_append_left (show see.length - 1 < see.length by omega)]
    rw [e1, e2]
    exact h2 h0
  · have e1 : uat (see ++ [x]) i = uat see i := by simp [uat, List.getD, List.getElem?_append_left (show i < see.length by omega)]
    have e2 : uat (see ++ [x]) (i - 1) = uat see (i - 1) := by simp [uat, List.getD, List.getElem?_append_left (show i - 1 < see.length by omega)]
    rw [e1, e2]
    exact h i (by omega)
theorem flat_take {fs : List (List Ent)} {i : Nat} (h : i < fs.length) : (fs.take (i + 1)).flatten = (fs.take i).flatten ++ fs.getD i [] := by
  rw [List.take_succ_eq_append_getElem h, List.flatten_append, rat_eq h]
  simp
theorem flat_last {fs : List (List Ent)} {i : Nat} (h : i < fs.length) (h0 : fs.getD i [] ≠ []) : eat (fs.take (i + 1)).flatten ((fs.take (i + 1)).flatten.length - 1) = eat (fs.getD i []) ((fs.getD i []).length - 1) ∧ 0 < (fs.take (i + 1)).flatten.length := by
  rw [flat_take h]
  have hl : 0 < (fs.getD i []).length := List.length_pos_iff.2 h0
  rw [List.length_append]
  refine ⟨?_, by omega⟩
  generalize (fs.take i).flatten = a
  generalize fs.getD i [] = b at *
  unfold eat List.getD
  rw [List.getElem?_append_right (by omega), show a.length + b.length - 1 - a.length = b.length - 1 by omega]
theorem flat_len {fs : List (List Ent)} (i : Nat) : (fs.take i).flatten.length ≤ fs.flatten.length := by
  have h : fs.flatten = (fs.take i).flatten ++ (fs.drop i).flatten := by rw [← List.flatten_append, List.take_append_drop]
  rw [h, List.length_append]; omega
theorem file_len {fs : List (List Ent)} {i : Nat} (h : i < fs.length) : (fs.getD i []).length ≤ fs.flatten.length := by
  have h1 := flat_len (fs := fs) (i + 1)
  rw [flat_take h, List.length_append] at h1
  omega
theorem file_mem {fs : List (List Ent)} {i : Nat} (h : i < fs.length) {x : Ent} (hx : x ∈ fs.getD i []) : x ∈ fs.flatten := by
  rw [List.mem_flatten]
  refine ⟨fs.getD i [], ?_, hx⟩
  rw [← rat_eq h]
  exact List.getElem_mem h
end Go.Proofs.Ytmpapipobjoboaa
