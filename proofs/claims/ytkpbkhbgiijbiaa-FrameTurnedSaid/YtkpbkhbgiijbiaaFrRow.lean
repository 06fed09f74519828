/- The laws' own function rowOf. -/
import Derived.Test.YtkpbkhbgiijbiaaFrSmall
namespace Go.Proofs.Ytkpbkhbgiijbiaa
open Go.RowKit

def i64s (ns : List Nat) : List Value := ns.map fun (n : Nat) => .int .i64 (n : Int)

/-- The slice value v reads as numbers, in a row of the call's own. -/
def IntsOwned (base : Nat) (w : World) (v : Value) (ns : List Nat) : Prop := w.ownsRow base 3 1 v ns.length (i64s ns)

theorem info_int : (Try.prog.info? 3).map (fun i => (i.zero, i.size, i.bytes)) = some (some (.int .i64 0), 1, 8) := by kernel_rfl

theorem IntsOwned.nil (base : Nat) (w : World) : IntsOwned base w (.slice none 0 0) [] := World.ownsRow_nil _ _ _ _
theorem IntsOwned.keep {base : Nat} {w w' : World} {v : Value} {ns : List Nat} (h : IntsOwned base w v ns) (hk : ∀ k, k < w.heap.size → v.ownBlock = some k → w'.heap[k]? = w.heap[k]?) : IntsOwned base w' v ns := ownsRow_same h hk
theorem IntsOwned.below {base : Nat} {w w' : World} {v : Value} {ns : List Nat} (h : IntsOwned base w v ns) (hb : Below w.heap.size w w') : IntsOwned base w' v ns := ownsRow_same h fun k hk _ => hb.block k hk
theorem IntsOwned.isSlice {base : Nat} {w : World} {v : Value} {ns : List Nat} (h : IntsOwned base w v ns) : ∃ a c, v = .slice a ns.length c := by
  obtain ⟨a, c, e, _⟩ := (Sl.of_owns h).ex
  exact ⟨a, c, e⟩

/-- append of one number. -/
theorem wpList_append_int {ops : Array Oper} {rest : List Oper} {o : Oper} {a : Act} {w : World} {Q : Exit → Act → World → Prop} (base : Nat) (v : Value) (ns : List Nat) (b : Nat) (n : Nat) (T : TypeId) (hgd : o.guard = none) (s x : Operand)
    (ho : o.op = .call { callee := .builtin .append, args := #[s, x], argTypes := #[50, 50] })
    (hs : a.eval s = v) (hx : a.eval x = .slice (some ⟨b, 0, none⟩) 1 1) (hown : IntsOwned base w v ns) (hsrc : Blk w b #[.int .i64 (n : Int)] T)
    (hlen : ns.length ≤ 1000000) (hbase : base ≤ w.heap.size)
    (h : ∀ v' w', IntsOwned base w' v' (ns ++ [n]) → Grew w w' v v' → wpList Try.prog ops Q rest (a.put o.dst v') w') : wpList Try.prog ops Q (o :: rest) a w := by
  obtain ⟨i0, hi, hz0, hz1, hz2⟩ := info_parts info_int
  have hsl : Sl (fun k => k = b) w 1 (.slice (some ⟨b, 0, none⟩) 1 1) 1 [.int .i64 (n : Int)] := by
    refine ⟨_, _, rfl, Nat.le_refl _, by simp [maxLen], by simp, rfl, fun j u hj => ⟨_, rfl, rfl, ?_⟩⟩
    rw [add_plain']
    exact hsrc.cell (by simpa using hj)
  refine wpList_plain hgd fun _ hK => wp_append_grew (F := fun k => k = b) s x 50 ho base 3 i0 _ 1 8 Try.underlying50 hi hz0 hz1 hz2 rfl (by decide) v ns.length (i64s ns) hs hown _ 1 [.int .i64 (n : Int)] hx hsl ?_ (by simp only [maxLen]; omega) (by omega) hbase ?_
  · intro u hu
    simp at hu
    rw [hu]; rfl
  intro v' w' g1 g2 _
  refine hK _ _ (h v' w' ?_ g2)
  unfold IntsOwned
  rw [List.length_append]
  have e : i64s (ns ++ [n]) = i64s ns ++ [.int .i64 (n : Int)] := by simp [i64s]
  rw [e]
  exact g1

def Fr.ends (fs : List Fr.T) (j : Nat) : List Nat := (List.range j).map fun i => Fr.endAt fs (i + 1)

theorem Fr.ends_len (fs : List Fr.T) (j : Nat) : (Fr.ends fs j).length = j := by simp [Fr.ends]
theorem Fr.ends_succ (fs : List Fr.T) (j : Nat) : Fr.ends fs (j + 1) = Fr.ends fs j ++ [Fr.endAt fs (j + 1)] := by simp [Fr.ends, List.range_succ]

theorem Fr.encAll_len_eq (fs : List Fr.T) : (Fr.encAll fs).length = Fr.sum fs + fs.length * 12 := by
  induction fs with
  | nil => rfl
  | cons f fs ih =>
    unfold Fr.sum at *
    simp only [Fr.encAll, List.length_append, Fr.enc_len, ih, List.map_cons, List.sum_cons, List.length_cons]
    omega

theorem Fr.encAll_succ (fs : List Fr.T) (j : Nat) (h : j < fs.length) : Fr.encAll (fs.take (j + 1)) = Fr.encAll (fs.take j) ++ Fr.enc fs[j].kind fs[j].body := by
  rw [List.take_succ_eq_append_getElem h, Fr.encAll_append]
  simp [Fr.encAll]

/-- What rowOf tells. -/
def RowOfPost (fs : List Fr.T) (w : World) (e : Ending) (w' : World) : Prop :=
  ∃ vb ve, e = .returned (.tuple #[vb, ve]) ∧ Owned w.heap.size w' vb (Fr.encAll fs) ∧ IntsOwned w.heap.size w' ve (Fr.ends fs fs.length) ∧ (∀ k, vb.ownBlock = some k → ve.ownBlock ≠ some k) ∧ Below w.heap.size w w'

set_option maxRecDepth 100000 in
set_option maxHeartbeats 1000000 in
theorem rowOf_any (B : Nat) (v : Value) (fs : List Fr.T) (w : World) (hv : Frames (· < B) w v fs) (hB : B ≤ w.heap.size) (hn : fs.length ≤ 40) (hb : ∀ f ∈ fs, f.body.length ≤ 4000) :
    Calls Try.prog 30 #[v] w (RowOfPost fs w) := by
  obtain ⟨a, c, rfl⟩ := hv.isSlice
  have HV := Lib.hid hv
  have HB := Lib.hid hb
  clear hv hb
  go_enter Try.func30, Try.ntmps30
  go_wp2_with fail
  go_loopw [4, 5, 6] (fun vb ve i wr => ∃ j : Nat, i = .int .i64 j ∧ j ≤ fs.length ∧ Hid (Owned w.heap.size wr vb (Fr.encAll (fs.take j))) ∧ Hid (IntsOwned w.heap.size wr ve (Fr.ends fs j)) ∧ Hid (∀ k, vb.ownBlock = some k → ve.ownBlock ≠ some k) ∧ Hid (Below w.heap.size w wr)) (fun _ _ i _ => fs.length - (intOf i).toNat)
  case atStart => exact ⟨0, rfl, by omega, Owned.nil _ _, IntsOwned.nil _ _, fun k hk => by simp [Value.ownBlock] at hk, Below.refl _ _⟩
  case round =>
    obtain ⟨j, rfl, hj, HO, HE, HA, HW⟩ := hrel
    by_cases hlt : j < fs.length
    · have hvr : Frames (· < B) wr (Value.slice a fs.length c) fs := HV.out.keep fun k hk hF => HW.out.block k (by omega)
      obtain ⟨b, off, cap, ea, hbl, hc⟩ := hvr.place (by omega)
      injection ea with e1 e2 e3
      subst e1 e3
      clear e2
      obtain ⟨k0, v1, k1, hv1⟩ := hc j hlt
      obtain ⟨a1, c1, rfl⟩ := hv1.isSlice
      rw [← Nat.add_assoc] at k1
      have HV1 := Lib.hid hv1
      have hb1 := HB.out fs[j] (List.getElem_mem hlt)
      have HT := Lib.hid (Fr.encAll_succ fs j hlt)
      have hlen : (Fr.encAll (fs.take j)).length ≤ 1000000 := by
        rw [Fr.encAll_len_eq]
        have h1 := Fr.sum_le (fs.take j) 4000 fun f hf => HB.out f (List.mem_of_mem_take hf)
        have h2 : (fs.take j).length ≤ 40 := by simp; omega
        have h3 : (fs.take j).length * 4000 ≤ 40 * 4000 := Nat.mul_le_mul_right _ h2
        omega
      have HL := Lib.hid hlen
      clear hc hv1 hvr hlen
      generalize fs[j] = f at *
      obtain ⟨kind, body⟩ := f
      dsimp only at *
      go_wp2_with fail
      refine Calls.mono (fappend_any w.heap.size u4 _ kind _ _ body wr HW.out.size HO.out HV1.out (fun k hk e => by
        have h1 := (World.ownsRow.lt HO.out k e).1
        omega) (by omega) (by have := HL.out; omega)) ?_
      rintro e w1 ⟨v', rfl, ho, hg⟩
      rw [← HT.out] at ho
      obtain ⟨a2, n2, c2, rfl⟩ := ho.isSlice
      have hn2 : n2 = Fr.endAt fs (j + 1) := by
        obtain ⟨_, _, e⟩ := ho.bytes.isSlice
        injection e
      have HO1 := Lib.hid ho
      have HE1 : Hid (IntsOwned w.heap.size w1 u5 (Fr.ends fs j)) := HE.out.keep fun k hk e => hg.grown.block k hk fun e2 => HA.out k e2.symm e
      have HA1 : Hid (∀ k, (Value.slice a2 n2 c2).ownBlock = some k → u5.ownBlock ≠ some k) := fun k hk e => by
        rcases hg.own k hk with h | h
        · exact HA.out k h e
        · have := (World.ownsRow.lt HE.out k e).2
          omega
      have HW1 : Hid (Below w.heap.size w w1) := HW.out.trans (hg.below HW.out.size fun k e => (World.ownsRow.lt HO.out k e).1)
      clear ho hg HT HL
      subst hn2
      go_wp2_with (with_reducible refine pause_append ?_)
      refine list_gen fun W2 hW2 => ?_
      have HO2 : Hid (Owned w.heap.size W2 (Value.slice a2 (Fr.endAt fs (j + 1)) c2) (Fr.encAll (fs.take (j + 1)))) := by
        rw [hW2]; exact HO1.out.below ((Below.refl _ _).alloc (Nat.le_refl _) _)
      have HE2 : Hid (IntsOwned w.heap.size W2 u5 (Fr.ends fs j)) := by
        rw [hW2]; exact HE1.out.below ((Below.refl _ _).alloc (Nat.le_refl _) _)
      have HK2 : Hid (Blk W2 w1.heap.size #[.int .i64 (Fr.endAt fs (j + 1) : Int)] 3) := by
        rw [hW2]; exact Blk.at_new rfl rfl
      have HW2 : Hid (Below w.heap.size w W2) := by rw [hW2]; exact HW1.out.alloc HW1.out.size _
      clear hW2
      refine Pause.go (wpList_append_int w.heap.size u5 (Fr.ends fs j) w1.heap.size (Fr.endAt fs (j + 1)) 3 rfl _ _ rfl rfl rfl HE2.out HK2.out (by rw [Fr.ends_len]; omega) HW2.out.size ?_)
      intro v3 w3 he3 hg3
      rw [← Fr.ends_succ] at he3
      have HE3 := Lib.hid he3
      have HO3 : Hid (Owned w.heap.size w3 (Value.slice a2 (Fr.endAt fs (j + 1)) c2) (Fr.encAll (fs.take (j + 1)))) := HO2.out.keep fun k hk e => hg3.grown.block k hk fun e2 => HA1.out k e e2.symm
      have HA3 : Hid (∀ k, (Value.slice a2 (Fr.endAt fs (j + 1)) c2).ownBlock = some k → v3.ownBlock ≠ some k) := fun k hk e => by
        rcases hg3.own k e with h | h
        · exact HA1.out k hk h
        · have := (World.ownsRow.lt HO2.out k hk).2
          omega
      have HW3 : Hid (Below w.heap.size w w3) := HW2.out.trans (hg3.below HW2.out.size fun k e => (World.ownsRow.lt HE2.out k e).1)
      clear he3 hg3
      go_wp2_with fail
      go_roundw
      · exact ⟨j + 1, by go_num, by omega, HO3, HE3, HA3, HW3⟩
      · simp only [intOf]; omega
    · obtain rfl : j = fs.length := by omega
      go_wp2_with fail
      go_ret2
      refine ⟨u4, u5, rfl, ?_, HE.out, HA.out, HW.out⟩
      have := HO.out
      rwa [List.take_length] at this
end Go.Proofs.Ytkpbkhbgiijbiaa
