/- The iterator over the cells of a table. -/
import Derived.RangeFuncNested
import Derived.RangeFuncBound
import Derived.RangeFuncCalls
import Derived.RangeFuncLeaves
import Derived.Shelf.Abstract
import Derived.Shelf.RegionOpen
import Derived.OwnWalkIn
import Derived.TacticsInMore
import Derived.LoopNIn
import Derived.LoopIn
import Derived.Test.YtdlpcoafbmhjjaaShape
import Derived.Deep.OwnRows
namespace Go.Proofs.Ytdlpcoafbmhjjaa
open Go.RowKit Go.Shelf

attribute [local go_sem] Oper.semAt_some

/-- a cell of a table that lies in memory -/
theorem IntSS.at {w : World} {P : Nat → Prop} {a : Option Addr} {len cap : Nat} {t : List (List Int)} (h : IntSS w P (.slice a len cap) t) {i j : Nat} (hi : i < t.length) (hj : j < wid t i) :
    ∃ b off b2 o2 ci, a = some ⟨b, off, none⟩ ∧ len = t.length ∧ w.cell? ⟨b, off + i, none⟩ = some (.slice (some ⟨b2, o2, none⟩) (wid t i) ci) ∧ w.cell? ⟨b2, o2 + j, none⟩ = some (.int .i64 (cel t i j)) := by
  obtain ⟨a', cap', e, _, hr⟩ := h
  cases e
  obtain ⟨b, off, ai, ci, rfl, _, hc, hrow⟩ := hr.rowW hi
  obtain ⟨b2, o2, rfl, _, hc2⟩ := hrow j hj
  exact ⟨b, off, b2, o2, ci, rfl, rfl, hc, hc2⟩

theorem belowDraws {B : Nat} {a w : World} (h : Below B a w) (n : Nat) : Below B a (w.drewN n) := ⟨h.os, h.tape, h.output, h.size, h.block⟩

/-- a box stays when a block that is no cells is turned -/
theorem boxKept {W W' : World} {row : Option Nat} {B : Nat} {t : TypeId} {v : Value} (h : Boxed W B t v) (hg : W.grownBy W' row) (hr : ∀ r, row = some r → ∃ o : Obj, W.heap[r]? = some o ∧ o.isCells = false) : Boxed W' B t v :=
  h.kept hg (fun e => by
    obtain ⟨o, ho, hc⟩ := hr B e.symm
    rw [show W.heap[B]? = _ from h] at ho
    cases ho
    cases hc)
theorem boxBelow {W W' : World} {B : Nat} {t : TypeId} {v : Value} (h : Boxed W B t v) {n : Nat} (hb : Below n W W') (hn : B < n) : Boxed W' B t v := (hb.block B hn).trans h
theorem boxDraws {W : World} {B : Nat} {t : TypeId} {v : Value} (h : Boxed W B t v) (n : Nat) : Boxed (W.drewN n) B t v := h

theorem rowKept {W W' : World} {row : Option Nat} {B : Nat} {t : TypeId} {n : Nat} {f : Nat → Value} (h : W.rowIs B t n f) (hg : W.grownBy W' row) (hr : ∀ r, row = some r → ∃ o : Obj, W.heap[r]? = some o ∧ o.isCells = false) : W'.rowIs B t n f :=
  h.of_block (hg.block B h.lt (fun e => by
    obtain ⟨o, ho, hc⟩ := hr B e.symm
    obtain ⟨c, hb, _⟩ := h
    rw [hb] at ho
    cases ho
    cases hc))

/-- a cell's place -/
abbrev Cel (t : List (List Int)) := { p : Nat × Nat // p.1 < t.length ∧ p.2 < wid t p.1 }

set_option maxRecDepth 100000 in
set_option maxHeartbeats 2000000 in
theorem cells1_in (F : Fence) (n : Nat) (hf : F.fn 47) (hro : F.round = none) (hn : 1 ≤ n) (l Bs n₀ : Nat) (v : Value) (t : List (List Int)) (hl : lensT t) (J Jx : List (Cel t) → World → Prop)
    (hY : ∀ pre x W, J pre W → pre.length < (cellsN t).length → YieldAt F (n - 1) Try.prog l #[.int .i64 (x.1.1 : Int), .int .i64 (x.1.2 : Int)] W fun e W' =>
      (e = .returned (.bool true) ∧ J (pre ++ [x]) W' ∧ Below n₀ W W') ∨ (e = .returned (.bool false) ∧ Jx (pre ++ [x]) W'))
    (W : World) (hBs : W.cell? ⟨Bs, 0, none⟩ = some v) (hT : IntSS W (· < n₀) v t) (h0 : J [] W) :
    CallsIn F n Try.prog 47 #[.func (.yield l) #[] #[], .pointer (some ⟨Bs, 0, none⟩)] W fun e W' => (∃ v, e = .returned v) ∧
      ((∃ ys, ys.map Subtype.val = cellsN t ∧ J ys W') ∨ (∃ pre, True ∧ Jx pre W')) := by
  obtain ⟨a, cap, rfl, _, hr⟩ := hT
  have HR := Lib.hid hr; clear hr
  have hl1 := hl.1
  have HL2 := Lib.hid hl.2
  have HY := Lib.hid hY
  clear hl hY
  refine callsIn_of_wp Try.func47 rfl hf ?_ hro
  simp only [Try.ntmps47, List.size_toArray, List.length_cons, List.length_nil, Nat.reduceAdd, Nat.reduceSub, Array.replicate_succ, Array.replicate_zero, List.push_toArray, List.append_toArray, List.nil_append, List.cons_append]
  gi_wp2
  gi_loopw [8] (fun i wr => ∃ (k : Nat) (pre : List (Cel t)), k ≤ t.length ∧ i = .int .i64 k ∧ Hid (pre.map Subtype.val = cellsTo t k) ∧ J pre wr ∧ Below n₀ W wr) (fun i _ => t.length - (intOf i).toNat)
  case atStart => exact ⟨0, [], Nat.zero_le _, rfl, rfl, h0, Below.refl _ _⟩
  case round =>
    obtain ⟨k, pre, hk, rfl, hpre, hJ, hbel⟩ := hrel
    by_cases hlt : k < t.length
    · obtain ⟨b, off, ai, ci, rfl, hb, hc, _⟩ := HR.out.rowW hlt
      have hc' := (hbel.cell (p := ⟨b, off + k, none⟩) hb).trans hc
      have hwl := HL2.out k
      clear hc
      gi_wp2
      obtain ⟨wo, rfl⟩ : ∃ wo : World, wo = wr := ⟨_, rfl⟩
      gi_loopw [15] (fun j wr => ∃ (q : Nat) (pre : List (Cel t)), q ≤ wid t k ∧ j = .int .i64 q ∧ Hid (pre.map Subtype.val = cellsTo t k ++ (List.range q).map (fun j => (k, j))) ∧ J pre wr ∧ Below n₀ W wr) (fun j _ => wid t k - (intOf j).toNat)
      case atStart => exact ⟨0, pre, Nat.zero_le _, rfl, by simpa using hpre, hJ, hbel⟩
      case round =>
        obtain ⟨q, pre2, hq, rfl, hpre2, hJ2, hbel2⟩ := hrel
        by_cases hqlt : q < wid t k
        · have hlen : pre2.length = (cellsTo t k).length + q := by have := congrArg List.length hpre2.out; simpa using this
          obtain ⟨fn, tmps, assign, body, hy, hR⟩ := HY.out pre2 ⟨(k, q), hlt, hqlt⟩ wr hJ2 (by rw [hlen]; exact cells_lt t hlt hqlt)
          dsimp only at hy
          clear hlen
          gi_wp2
          refine hR.mono ?_
          rintro e W3 (⟨rfl, hJ3, hk3⟩ | ⟨rfl, hJx3⟩)
          · gi_wp2
            go_roundw
            case rel => exact ⟨q + 1, _, by omega, by simp, by unfold Hid; rw [List.map_append, hpre2.out, row_succ, List.append_assoc]; rfl, hJ3, hbel2.trans hk3⟩
            case measure => simp [intOf]; omega
          · gi_wp2
            refine bodyPost_ret (results_none rfl _ _ _) rfl ?_
            exact ⟨⟨_, rfl⟩, .inr ⟨_, trivial, hJx3⟩⟩
        · have HE : Hid (pre2.map Subtype.val = cellsTo t (k + 1)) := by
            unfold Hid; rw [hpre2.out, cellsTo_succ, show q = wid t k by omega]
          clear hpre2
          gi_wp2
          go_roundw
          case rel => exact ⟨k + 1, pre2, by omega, by simp, HE, hJ2, hbel2⟩
          case measure => simp [intOf]; omega
    · have HE : Hid (pre.map Subtype.val = cellsN t) := by
        unfold Hid; rw [hpre.out, show k = t.length by omega]; rfl
      clear hpre
      gi_wp2
      go_end0
      exact ⟨⟨_, rfl⟩, .inl ⟨_, HE.out, hJ⟩⟩

set_option maxHeartbeats 1000000 in
/-- cellsOf(t): the table is boxed; the function value captures the box -/
theorem cellsOf_in (F : Fence) (n : Nat) (hf : F.fn 35) (hro : F.round = none) (a : Option Addr) (len cap : Nat) (w : World) :
    CallsIn F n Try.prog 35 #[.slice a len cap] w fun e w' => e = .returned (.func (.func 47) #[] #[.pointer (some ⟨w.heap.size, 0, none⟩)]) ∧ w' = w.alloc (.cells #[.slice a len cap] 29) := by
  refine callsIn_of_wp Try.func35 rfl hf ?_ hro
  simp only [Try.ntmps35, List.size_toArray, List.length_cons, List.length_nil, Nat.reduceAdd, Nat.reduceSub, Array.replicate_succ, Array.replicate_zero, List.push_toArray, List.append_toArray, List.nil_append, List.cons_append]
  gi_wp2
  go_ret
  exact ⟨rfl, rfl⟩

/-- cellsOf(t) hands back an iterator over the cells, at 'Below n₀' -/
theorem cells_stops (F : Fence) (n : Nat) (hf : F.fn 47) (hro : F.round = none) (hn : 1 ≤ n) (Bs n₀ : Nat) (v : Value) (t : List (List Int)) (hl : lensT t) (w : World) (hBs : Bs < w.heap.size)
    (hc : w.cell? ⟨Bs, 0, none⟩ = some v) (hT : IntSS w (· < n₀) v t) :
    SeqStopsK F n Try.prog 47 #[.pointer (some ⟨Bs, 0, none⟩)] (fun x : Cel t => #[Value.int .i64 (x.1.1 : Int), Value.int .i64 (x.1.2 : Int)]) (Below n₀) (fun ys => ys.map Subtype.val = cellsN t) (fun _ => True) (cellsN t).length w := fun l J Jx W hW _ _ hY h0 =>
  cells1_in F n hf hro hn l Bs n₀ v t hl J Jx hY W ((hW.cell (p := ⟨Bs, 0, none⟩) hBs).trans hc) (hT.kept (fun k hk _ => hW.block k (by omega))) h0

end Go.Proofs.Ytdlpcoafbmhjjaa
