/- skip: from's iterator. -/
import Derived.Test.YtdjjkdhhjdafmaaSkH
import Derived.Test.YtdjjkdhhjdafmaaSeq
namespace Go.Proofs.Ytdjjkdhhjdafmaa
open Go.RowKit

attribute [local go_sem] Oper.semAt_some

/-- How many towers are left, by the pointer in the iterator's cell. -/
def leftP : List Tw → Value → Nat
  | [], _ => 0
  | t :: r, v => match v with
    | .pointer (some a) => if a.block = t.b then r.length + 1 else leftP r v
    | _ => 0
theorem leftP_at {p r : List Tw} (hn : ((p ++ r).map Tw.b).Nodup) (hh : ∀ t ∈ r, 0 < t.h) : leftP (p ++ r) (nxt 0 r) = r.length := by
  cases r with
  | nil =>
    rw [List.append_nil]
    show leftP p (.pointer none) = 0
    cases p <;> rfl
  | cons t r =>
    have e0 : nxt 0 (t :: r) = .pointer (some ⟨t.b, 0, none⟩) := if_pos (hh t (List.mem_cons_self ..))
    rw [e0]
    clear e0 hh
    induction p with
    | nil => exact if_pos rfl
    | cons y p ih =>
      obtain ⟨n1, n2⟩ := List.nodup_cons.1 hn
      have hne : ¬ t.b = y.b := fun e => n1 (by
        show y.b ∈ (p ++ t :: r).map Tw.b
        rw [← e, List.map_append]
        exact List.mem_append_right _ (List.mem_cons_self ..))
      show (if t.b = y.b then _ else leftP (p ++ t :: r) _) = _
      rw [if_neg hne]
      exact ih n2

theorem wide_deep {n : Nat} : Fence.wide.depth.isSome = true → 1 ≤ n := fun h => by simp [Fence.wide] at h

/-- What a round is handed. -/
def handed (Wp W : World) (x : Ent) (vs : Array Value) : Prop :=
  ∃ vk vv, vs = #[.agg (entCells x vk vv).toArray] ∧ Bytes (fun k => Wp.heap.size ≤ k) W vk x.key ∧ Bytes (fun k => Wp.heap.size ≤ k) W vv x.value

def cellAt (X : Nat) (w : World) : Value := (w.cell? ⟨X, 0, none⟩).getD undef

/-- What the loop of the iterator holds. -/
def ItRel (T : TypeId) (v : World) (X : Nat) (l2 : List Tw) (J : List Ent → World → Prop) (p r : List Tw) (wr : World) : Prop :=
  l2 = p ++ r ∧ J (p.map Tw.e) wr ∧ Below v.heap.size v wr ∧ Blk wr X #[nxt 0 r] T

set_option maxRecDepth 100000 in
set_option maxHeartbeats 4000000 in
theorem from1_iter (lo : Lo) (b : Nat) (hd : Tw) (ts l1 l2 : List Tw) (n X : Nat) (T : TypeId) (v w : World) (h : Skp lo v b hd ts) (hts : ts = l1 ++ l2) (hvw : Below v.heap.size v w) (hX : v.heap.size ≤ X) (hbx : Blk w X #[nxt 0 l2] T) :
    Iter Fence.wide n Try.prog 54 #[.pointer (some ⟨X, 0, none⟩)] X v.heap.size (l2.map Tw.e) handed w := by
  intro l J Jx W hW hJ hY h0
  have hh : ∀ t ∈ l2, 0 < t.h := fun t ht => by have := (h.hs t (by rw [hts]; exact List.mem_append_right _ ht)).1; omega
  have hnd : (l2.map Tw.b).Nodup := by
    have h1 := (List.nodup_cons.1 h.nd).2
    rw [hts, List.map_append] at h1
    exact (List.nodup_append.1 h1).2.1
  have HI := Lib.hid h
  have HR : Hid (ItRel T v X l2 J [] l2 W) := ⟨rfl, h0, hvw.trans (hW.mono hvw.size), hbx.below hW hbx.lt⟩
  have HJ := Lib.hid hJ
  have HY := Lib.hid hY
  have HH := Lib.hid hh
  have HN := Lib.hid hnd
  have HT := Lib.hid hts
  clear h hvw hbx hW hJ hY hh hnd h0 hts
  refine callsIn_of_wp Try.func54 rfl trivial ?_ rfl
  simp only [Try.ntmps54, List.size_toArray, List.length_cons, List.length_nil, Nat.reduceAdd, Nat.reduceSub, Array.replicate_succ, Array.replicate_zero, List.push_toArray, List.append_toArray, List.nil_append, List.cons_append]
  gi_wp2
  gi_loopw [] (fun wr => ∃ (p r : List Tw), Hid (ItRel T v X l2 J p r wr)) (fun wr => leftP l2 (cellAt X wr))
  case atStart => exact ⟨[], l2, HR⟩
  case round =>
    clear HR
    obtain ⟨p, r, HR⟩ := hrel
    have kx : wr.cell? ⟨X, 0, none⟩ = some (nxt 0 r) := HR.out.2.2.2.cell rfl
    cases r with
    | nil =>
      rw [show nxt 0 ([] : List Tw) = .pointer none from rfl] at kx
      gi_wp2
      go_end0
      refine ⟨⟨_, rfl⟩, .inl ?_⟩
      have := HR.out.2.1
      rwa [show p = l2 by rw [HR.out.1, List.append_nil]] at this
    | cons t r =>
      have hht : 0 < t.h := HH.out t (by rw [HR.out.1]; simp)
      have e0 : nxt 0 (t :: r) = .pointer (some ⟨t.b, 0, none⟩) := if_pos hht
      rw [e0] at kx
      have HS := Lib.hid (HI.out.below HR.out.2.2.1)
      have hsp : hd :: ts = (hd :: (l1 ++ p)) ++ t :: r := by rw [HT.out, HR.out.1]; simp
      have hsh := HS.out.short (t := t) (by rw [HT.out, HR.out.1]; simp)
      obtain ⟨dk, dv, g1, g2, g3⟩ := HS.out.tower hsp
      obtain ⟨da, dc, rfl⟩ := g2.isSlice
      obtain ⟨ea, ec, rfl⟩ := g3.isSlice
      have HG1 := Lib.hid g1
      have HG2 := Lib.hid g2
      have HG3 := Lib.hid g3
      have HP := Lib.hid hsp
      have k0 : wr.cell? ⟨t.b, 0, none⟩ = some (.slice da t.e.key.length dc) := g1.c4.1
      have k1 : wr.cell? ⟨t.b, 1, none⟩ = some (.int .u64 t.e.seq) := g1.c4.2.1
      have k2 : wr.cell? ⟨t.b, 2, none⟩ = some (.int .i64 t.e.kind) := g1.c4.2.2.1
      have k3 : wr.cell? ⟨t.b, 3, none⟩ = some (.slice ea t.e.value.length ec) := g1.c4.2.2.2
      clear g1 g2 g3 e0 hsp hht
      gi_wp2
      clear k0 k1 k2 k3 kx
      refine ⟨trivial, wide_deep, ?_⟩
      refine CallsIn.mono (callsIn_wide.2 (skOwn_any _ _ t.e (.slice da t.e.key.length dc) (.slice ea t.e.value.length ec) wr HG2.out HG3.out (by omega) (by omega))) ?_
      rintro _ w5 ⟨vk', vv', rfl, hk5, hv5, hb5⟩
      have HB5 := Lib.hid hb5
      obtain ⟨fn, tmps, assign, body, hy, hR⟩ := HY.out (p.map Tw.e) t.e (r.map Tw.e) #[.agg (entCells t.e vk' vv').toArray] wr w5 (by rw [HR.out.1]; simp) HR.out.2.1 hb5 ⟨vk', vv', rfl, hk5, hv5⟩
      clear hk5 hv5 hb5
      gi_wp2
      refine ⟨wide_deep, RoundIn.mono hR ?_⟩
      clear hy hR
      have hb5 : Below v.heap.size v w5 := HR.out.2.2.1.trans (HB5.out.mono HR.out.2.2.1.size)
      rintro e W3 (⟨rfl, hJ3, hk3, hx3⟩ | ⟨rfl, hJx3⟩)
      · have hb3 : Below v.heap.size v W3 := hb5.trans hk3
        have hx4 : Blk W3 X #[nxt 0 (t :: r)] T := (HR.out.2.2.2.below HB5.out HR.out.2.2.2.lt).same hx3
        have hht : 0 < t.h := HH.out t (by rw [HR.out.1]; simp)
        obtain ⟨dk3, dv3, g1, _, _⟩ := (HI.out.below hb3).tower HP.out
        have kx3 : W3.cell? ⟨X, 0, none⟩ = some (.pointer (some ⟨t.b, 0, none⟩)) := (hx4.cell rfl).trans (congrArg some (if_pos hht))
        have fx3 : W3.frozen? ⟨X, 0, none⟩ = false := hx4.free 0
        obtain ⟨q, hq⟩ := nxt_ptr 0 r
        have k4 : W3.cell? ⟨t.b, 4, none⟩ = some (.pointer q) := g1.cell (by rw [List.getElem?_toArray]; exact (twCells_all t dk3 dv3 r 0 (by omega)).trans (by rw [if_pos hht, hq]))
        have HQ := Lib.hid hq
        clear hq
        have HJ3 := Lib.hid hJ3
        have HB3 := Lib.hid hb3
        have HX4 := Lib.hid hx4
        have HT2 : Hid (0 < t.h) := hht
        clear hJ3 hk3 hx3 hb3 hx4 hb5 g1 hht
        gi_wp2
        have HR2 : Hid (ItRel T v X l2 J (p ++ [t]) r (W3.setCell ⟨X, 0, none⟩ (.pointer q))) := by
          refine ⟨by rw [HR.out.1]; simp, ?_, HB3.out.setCell hX _, ?_⟩
          · rw [List.map_append]
            exact HJ.out _ _ _ HJ3.out (But.setCell _ _ rfl)
          · have := HX4.out.set 0 (.pointer q)
            rw [HQ.out]
            exact this
        refine ⟨⟨p ++ [t], r, HR2⟩, ?_⟩
        have cell : ∀ {w' : World} {p' r' : List Tw}, ItRel T v X l2 J p' r' w' → leftP l2 (cellAt X w') = r'.length := fun {w' p' r'} h => by
          have h1 : cellAt X w' = nxt 0 r' := by unfold cellAt; rw [h.2.2.2.cell (i := 0) rfl]; rfl
          have h2 := h.1
          rw [h1, h2]
          exact leftP_at (by rw [← h2]; exact HN.out) fun t ht => HH.out t (by rw [h2]; exact List.mem_append_right _ ht)
        rw [cell HR2.out, cell HR.out]
        simp
      · gi_wp2
        refine bodyPost_ret (results_none rfl _ _ _) rfl ?_
        refine ⟨⟨_, rfl⟩, .inr ⟨p.map Tw.e ++ [t.e], ?_, hJx3⟩⟩
        rw [HR.out.1]
        exact ⟨r.map Tw.e, by simp⟩
end Go.Proofs.Ytdjjkdhhjdafmaa
