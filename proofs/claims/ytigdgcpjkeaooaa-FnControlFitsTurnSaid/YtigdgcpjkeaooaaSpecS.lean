/- Contracts: the reference's sums of a table; whether they are near. -/
import Derived.Test.YtigdgcpjkeaooaaSpecV
namespace Go.Proofs.Ytigdgcpjkeaooaa
open Go.RowKit

/-- what has been added up over all of some cells -/
def accT (t : List (List Int)) (l : List (Nat × Nat)) : Int := (l.map fun p => cel t p.1 p.2).sum
theorem accT_snoc (t : List (List Int)) (l : List (Nat × Nat)) (p : Nat × Nat) : accT t (l ++ [p]) = accT t l + cel t p.1 p.2 := by simp [accT]
theorem accT_app (t : List (List Int)) (l m : List (Nat × Nat)) : accT t (l ++ m) = accT t l + accT t m := by simp [accT]
theorem accT_row (t : List (List Int)) (k q : Nat) : accT t ((List.range q).map fun j => (k, j)) = S q (cel t k) := by
  induction q with
  | zero => simp [accT, S]
  | succ q ih => rw [row_succ, accT_snoc, ih]; rfl
theorem accT_to (t : List (List Int)) (k : Nat) : accT t (cellsTo t k) = S k (fun i => S (wid t i) (cel t i)) := by
  induction k with
  | zero => simp [cellsTo, accT, S]
  | succ k ih => rw [cellsTo_succ, accT_app, ih, accT_row]; rfl
theorem accT_bd {t : List (List Int)} {l : List (Nat × Nat)} (h : ∀ p ∈ l, 0 ≤ cel t p.1 p.2 ∧ cel t p.1 p.2 ≤ 1000) : 0 ≤ accT t l ∧ accT t l ≤ 1000 * l.length := by
  induction l with
  | nil => simp [accT]
  | cons a l ih =>
    have h1 := h a (by simp)
    have h2 := ih (fun p hp => h p (by simp [hp]))
    unfold accT at h2 ⊢
    simp only [List.map_cons, List.sum_cons, List.length_cons]
    omega

/-- the list of sums after some cells: rows, columns, all -/
def accAt (t : List (List Int)) (l : List (Nat × Nat)) (k : Nat) : Int := if k < t.length then accR t l k else if k < t.length + wid t 0 then accC t l (k - t.length) else accT t l
def accL (t : List (List Int)) (l : List (Nat × Nat)) : List Int := (List.range (t.length + wid t 0 + 1)).map (accAt t l)
def sumsL (t : List (List Int)) : List Int := accL t (cellsN t)
theorem accL_len (t : List (List Int)) (l : List (Nat × Nat)) : (accL t l).length = t.length + wid t 0 + 1 := by simp [accL]
theorem accL_at {t : List (List Int)} {l : List (Nat × Nat)} {k : Nat} (hk : k < t.length + wid t 0 + 1) : (accL t l)[k]?.getD 0 = accAt t l k := by simp [accL, hk]
theorem accL_nil (t : List (List Int)) : accL t [] = List.replicate (t.length + wid t 0 + 1) 0 := by
  apply List.ext_getElem?
  intro k
  unfold accL
  rw [List.getElem?_map, List.getElem?_replicate]
  by_cases h : k < t.length + wid t 0 + 1
  · rw [List.getElem?_range h, if_pos h]; simp [accAt, accR, accC, accT]
  · rw [List.getElem?_eq_none (by simp; omega), if_neg h]; rfl
theorem accL_step {t : List (List Int)} {l : List (Nat × Nat)} {i j : Nat} (hi : i < t.length) (hj : j < wid t 0) :
    accL t (l ++ [(i, j)]) = (((accL t l).set i (accR t l i + cel t i j)).set (t.length + j) (accC t l j + cel t i j)).set (t.length + wid t 0) (accT t l + cel t i j) := by
  apply List.ext_getElem?
  intro k
  rw [List.getElem?_set, List.getElem?_set, List.getElem?_set]
  simp only [List.length_set, accL_len]
  by_cases h : k < t.length + wid t 0 + 1
  · have e0 : ∀ l, (accL t l)[k]? = some (accAt t l k) := fun l => by unfold accL; rw [List.getElem?_map, List.getElem?_range h]; rfl
    rw [e0, e0]
    unfold accAt
    by_cases e3 : t.length + wid t 0 = k
    · rw [if_neg (show ¬ k < t.length by omega), if_neg (show ¬ k < t.length + wid t 0 by omega), if_pos e3, if_pos (show t.length + wid t 0 < t.length + wid t 0 + 1 by omega), accT_snoc]
    · rw [if_neg e3]
      by_cases e2 : t.length + j = k
      · rw [if_neg (show ¬ k < t.length by omega), if_pos (show k < t.length + wid t 0 by omega), if_pos e2, if_pos (show t.length + j < t.length + wid t 0 + 1 by omega), show k - t.length = j by omega, accC_snoc]
        simp
      · rw [if_neg e2]
        by_cases e1 : i = k
        · rw [if_pos (show k < t.length by omega), if_pos e1, if_pos (show i < t.length + wid t 0 + 1 by omega), accR_snoc, ← e1]
          simp
        · rw [if_neg e1]
          by_cases h1 : k < t.length
          · rw [if_pos h1, if_pos h1, accR_snoc]; simp [e1]
          · have h2 : k < t.length + wid t 0 := by omega
            rw [if_neg h1, if_neg h1, if_pos h2, if_pos h2, accC_snoc]
            have : ¬ j = k - t.length := by omega
            simp [this]
  · have e0 : ∀ l, (accL t l)[k]? = none := fun l => List.getElem?_eq_none (by rw [accL_len]; omega)
    rw [e0, e0, if_neg (by omega), if_neg (by omega), if_neg (by omega)]

/-- what the reference's sums leave -/
def SumsS (w : World) (t : List (List Int)) (e : Ending) (w' : World) : Prop :=
  ∃ g cap, e = .returned (.slice (some ⟨g, 0, none⟩) (t.length + wid t 0 + 1) cap) ∧ OwnI w' w.heap.size (.slice (some ⟨g, 0, none⟩) (t.length + wid t 0 + 1) cap) (sumsL t) ∧ Below w.heap.size w w'

theorem OwnI.drewN {w : World} {base : Nat} {v : Value} {zs : List Int} (h : OwnI w base v zs) (n : Nat) : OwnI (w.drewN n) base v zs := h.kept (row := none) (grow_drewN (grow_refl _ _) n) (by simp)
theorem OwnI.drew {w : World} {base : Nat} {v : Value} {zs : List Int} (h : OwnI w base v zs) : OwnI w.drew base v zs := h.drewN 1

set_option maxRecDepth 100000 in
set_option maxHeartbeats 4000000 in
theorem sSums (w : World) (P : Nat → Prop) (v : Value) (t : List (List Int)) (h : IntSS w P v t) (ht : rectS t) :
    Calls Try.prog 43 #[v] w (SumsS w t) := by
  have HT := Lib.hid h
  obtain ⟨a, cap, rfl, _, hr⟩ := h
  have HR := Lib.hid hr; clear hr
  obtain ⟨h1, h2, h3, h4, h5⟩ := ht
  have H5 := Lib.hid h5
  clear h5
  obtain ⟨b, off, a0, c0, rfl, _, hc0, _⟩ := HR.out.rowW (i := 0) (by omega)
  rw [Nat.add_zero] at hc0
  have hmk := run_make_row' (P := Try.prog) 29 3 (.int .i64 0) 8 Try.underlying29 Try.info_int rfl .i64 .i64 (t.length + wid t 0 + 1) (by omega) (by omega)
  rw [show ((t.length + wid t 0 + 1 : Nat) : Int) = (t.length : Int) + (wid t 0 : Int) + 1 by push_cast; rfl] at hmk
  have ho := OwnI.made w w.heap.size (t.length + wid t 0 + 1) (Nat.le_refl _) (by unfold maxLen; omega)
  rw [← accL_nil] at ho
  obtain ⟨N, hN⟩ : ∃ N, t.length + wid t 0 + 1 = N := ⟨_, rfl⟩
  unfold SumsS
  rw [hN] at ho hmk ⊢
  have HN := Lib.hid hN
  go_enter Try.func43, Try.ntmps43
  go_wp2_with fail
  have HB : Below w.heap.size w (w.alloc (.cells (madeCells #[.int .i64 0] N) 3)) := (Below.refl _ _).alloc (Nat.le_refl _) _
  generalize w.alloc (.cells (madeCells #[.int .i64 0] N) 3) = W0 at *
  have HO := Lib.hid ho; clear ho
  go_loopw [4] (fun i wr => ∃ k : Nat, k ≤ t.length ∧ i = .int .i64 k ∧ OwnI wr w.heap.size (.slice (some ⟨w.heap.size, 0, none⟩) N N) (accL t (cellsTo t k)) ∧ Below w.heap.size w wr) (fun i _ => t.length - (intOf i).toNat)
  case atStart => exact ⟨0, Nat.zero_le _, rfl, HO.out, HB⟩
  case round =>
    obtain ⟨k, hk, rfl, hp, hbel⟩ := hrel
    have HP := Lib.hid hp; clear hp
    by_cases hlt : k < t.length
    · go_wp2_with fail
      go_loopw [5] (fun j wr => ∃ q : Nat, q ≤ wid t 0 ∧ j = .int .i64 q ∧ OwnI wr w.heap.size (.slice (some ⟨w.heap.size, 0, none⟩) N N) (accL t (cellsTo t k ++ (List.range q).map (fun j => (k, j)))) ∧ Below w.heap.size w wr) (fun j _ => wid t 0 - (intOf j).toNat)
      case atStart => exact ⟨0, Nat.zero_le _, rfl, by simpa using HP.out, hbel⟩
      case round =>
        obtain ⟨q, hq, rfl, hp, hbel⟩ := hrel
        have HP := Lib.hid hp; clear hp
        by_cases hqlt : q < wid t 0
        · -- one cell
          obtain ⟨b', off', b2, o2, ci, hq0, _, hc1, hc2⟩ := HT.out.at (i := k) (j := q) hlt (by rw [(H5.out k hlt).1]; exact hqlt)
          cases hq0
          have HTC : Hid (∀ X, Below w.heap.size w X → X.cell? ⟨b, off, none⟩ = some (.slice a0 (wid t 0) c0) ∧ X.cell? ⟨b, off + k, none⟩ = some (.slice (some ⟨b2, o2, none⟩) (wid t 0) ci) ∧ X.cell? ⟨b2, o2 + q, none⟩ = some (.int .i64 (cel t k q))) := by
            intro X hX
            rw [(H5.out k hlt).1] at hc1
            exact ⟨(hX.cell (p := ⟨b, off, none⟩) (World.block_lt_of_cell? _ _ hc0)).trans hc0, (hX.cell (p := ⟨b, off + k, none⟩) (World.block_lt_of_cell? _ _ hc1)).trans hc1, (hX.cell (p := ⟨b2, o2 + q, none⟩) (World.block_lt_of_cell? _ _ hc2)).trans hc2⟩
          clear hc1 hc2
          obtain ⟨l, hl⟩ : ∃ l, cellsTo t k ++ (List.range q).map (fun j => (k, j)) = l := ⟨_, rfl⟩
          have hlr : (l.length : Int) ≤ 16 := by
            have := cells_lt t hlt (q := q) (by rw [(H5.out k hlt).1]; exact hqlt)
            have h16 := cellsN_le (t := t) h2 (fun i hi => by rw [(H5.out i hi).1]; exact h4)
            have e := congrArg List.length hl
            simp at e
            omega
          have hlb : ∀ p ∈ l, 0 ≤ cel t p.1 p.2 ∧ cel t p.1 p.2 ≤ 1000 := by
            intro p hp
            rw [← hl] at hp
            rcases List.mem_append.1 hp with hp | hp
            · unfold cellsTo at hp
              obtain ⟨r, hr, hp⟩ := List.mem_flatten.1 hp
              obtain ⟨i, hi, rfl⟩ := List.mem_map.1 hr
              obtain ⟨j, hj, rfl⟩ := List.mem_map.1 hp
              have hi' : i < t.length := by have := List.mem_range.1 hi; omega
              exact (H5.out i hi').2 j (by rw [← (H5.out i hi').1]; exact List.mem_range.1 hj)
            · obtain ⟨j, hj, rfl⟩ := List.mem_map.1 hp
              exact (H5.out k hlt).2 j (by have := List.mem_range.1 hj; omega)
          have rb := accR_bd (i := k) hlb
          have cb := accC_bd (j := q) hlb
          have tb := accT_bd hlb
          have eb := (H5.out k hlt).2 q hqlt
          have HST : Hid (accL t (cellsTo t k ++ (List.range (q + 1)).map (fun j => (k, j))) = (((accL t l).set k (accR t l k + cel t k q)).set (t.length + q) (accC t l q + cel t k q)).set (t.length + wid t 0) (accT t l + cel t k q)) := by
            unfold Hid
            rw [row_succ, ← List.append_assoc, hl]
            exact accL_step hlt hqlt
          rw [hl] at HP
          have r1 : ((accL t l)[k]?.getD 0) = accR t l k := by rw [accL_at (by omega)]; unfold accAt; rw [if_pos hlt]
          have r2 : (((accL t l).set k (accR t l k + cel t k q))[t.length + q]?.getD 0) = accC t l q := by
            rw [List.getElem?_set_ne (by omega), accL_at (by omega)]; unfold accAt; rw [if_neg (by omega), if_pos (by omega)]; congr 1; omega
          have r3 : ((((accL t l).set k (accR t l k + cel t k q)).set (t.length + q) (accC t l q + cel t k q))[t.length + wid t 0]?.getD 0) = accT t l := by
            rw [List.getElem?_set_ne (by omega), List.getElem?_set_ne (by omega), accL_at (by omega)]; unfold accAt; rw [if_neg (by omega), if_neg (by omega)]
          have HR1 := Lib.hid r1
          have HR2 := Lib.hid r2
          have HR3 := Lib.hid r3
          have HLL := Lib.hid (accL_len t l)
          clear hl hlb r1 r2 r3
          generalize accL t l = L at *
          generalize accR t l k = r at *
          generalize accC t l q = cc at *
          generalize accT t l = tt at *
          generalize cel t k q = x at *
          have ki : (k : Int) < (t.length : Int) := by omega
          have qi : (q : Int) < (wid t 0 : Int) := by omega
          have kn : (k : Int) < (N : Int) := by omega
          have qn : (t.length : Int) + (q : Int) < (N : Int) := by omega
          have wn : (t.length : Int) + (wid t 0 : Int) < (N : Int) := by omega
          have qt : ((t.length : Int) + (q : Int)).toNat = t.length + q := by omega
          have wt : ((t.length : Int) + (wid t 0 : Int)).toNat = t.length + wid t 0 := by omega
          have q0 : (0 : Int) ≤ (t.length : Int) + (q : Int) := by omega
          have p0 : 0 < t.length := by omega
          have p0i : (0 : Int) < (t.length : Int) := by omega
          have w0' : (0 : Int) ≤ (t.length : Int) + (wid t 0 : Int) := by omega
          have wq : IntKind.i64.wrap ((t.length : Int) + (q : Int)) = (t.length : Int) + (q : Int) := by rw [IntKind.wrap_i64]; omega
          have ww : IntKind.i64.wrap ((t.length : Int) + (wid t 0 : Int)) = (t.length : Int) + (wid t 0 : Int) := by rw [IntKind.wrap_i64]; omega
          obtain ⟨hc0', hc1, hc2⟩ := HTC.out wr hbel
          go_wp2_with fail
          clear hc0' hc1 hc2
          -- the row's sum
          refine tail_plain 15 (by kernel_rfl) (by kernel_rfl) ?_
          simp only [List.take_succ_cons, List.take_zero, List.drop_succ_cons, List.drop_zero]
          replace HP := Lib.hid HP.out.drew
          replace hbel := hbel.drew
          generalize wr.drew = W1 at *
          have x1 := OwnI.cell HP.out (j := k) (by rw [HLL.out]; omega)
          have x2 := OwnI.frozen HP.out k
          rw [HR1.out] at x1
          obtain ⟨hc0', hc1, hc2⟩ := HTC.out W1 hbel
          repeat still_step
          refine wpStill_nil ?_
          go_wp2_with fail
          -- the column's sum
          refine tail_plain 21 (by kernel_rfl) (by kernel_rfl) ?_
          simp only [List.take_succ_cons, List.take_zero, List.drop_succ_cons, List.drop_zero]
          replace HP := Lib.hid (HP.out.set k (r + x)).drew
          replace hbel := (hbel.setCell (p := ⟨w.heap.size, k, none⟩) (Nat.le_refl _) (.int .i64 (r + x))).drew
          clear hc0' hc1 hc2 x1 x2
          generalize (W1.setCell ⟨w.heap.size, k, none⟩ (.int .i64 (r + x))).drew = W2 at *
          have x1 := OwnI.cell HP.out (j := t.length + q) (by rw [List.length_set, HLL.out]; omega)
          have x2 := OwnI.frozen HP.out (t.length + q)
          rw [HR2.out] at x1
          obtain ⟨hc0', hc1, hc2⟩ := HTC.out W2 hbel
          repeat still_step
          refine wpStill_nil ?_
          go_wp2_with fail
          -- the sum of all
          refine tail_plain 27 (by kernel_rfl) (by kernel_rfl) ?_
          simp only [List.take_succ_cons, List.take_zero, List.drop_succ_cons, List.drop_zero]
          replace HP := Lib.hid (HP.out.set (t.length + q) (cc + x)).drew
          replace hbel := (hbel.setCell (p := ⟨w.heap.size, t.length + q, none⟩) (Nat.le_refl _) (.int .i64 (cc + x))).drew
          clear hc0' hc1 hc2 x1 x2
          generalize (W2.setCell ⟨w.heap.size, t.length + q, none⟩ (.int .i64 (cc + x))).drew = W3 at *
          have x1 := OwnI.cell HP.out (j := t.length + wid t 0) (by rw [List.length_set, List.length_set, HLL.out]; omega)
          have x2 := OwnI.frozen HP.out (t.length + wid t 0)
          rw [HR3.out] at x1
          obtain ⟨hc0', hc1, hc2⟩ := HTC.out W3 hbel
          repeat still_step
          refine wpStill_nil ?_
          have HP4 := Lib.hid (HP.out.set (t.length + wid t 0) (tt + x))
          have hbel4 := Lib.hid (hbel.setCell (p := ⟨w.heap.size, t.length + wid t 0, none⟩) (Nat.le_refl _) (.int .i64 (tt + x)))
          go_wp2_with fail
          go_roundw
          case rel => exact ⟨q + 1, by omega, by go_num, by rw [HST.out]; exact HP4.out, hbel4.out⟩
          case measure => simp [intOf]; omega
        · have HE : Hid (cellsTo t k ++ (List.range q).map (fun j => (k, j)) = cellsTo t (k + 1)) := by unfold Hid; rw [cellsTo_succ, show q = wid t k by rw [(H5.out k hlt).1]; omega]
          have hc0' := (hbel.cell (p := ⟨b, off, none⟩) (World.block_lt_of_cell? _ _ hc0)).trans hc0
          go_wp2_with fail
          go_roundw
          case rel => exact ⟨k + 1, by omega, by go_num, by rw [← HE.out]; exact HP.out, hbel⟩
          case measure => simp [intOf]; omega
    · have HE : Hid (sumsL t = accL t (cellsTo t k)) := by unfold Hid sumsL cellsN; rw [show k = t.length by omega]
      go_wp2_with fail
      go_ret
      exact ⟨_, _, rfl, by rw [HE.out]; exact HP.out, hbel⟩

end Go.Proofs.Ytigdgcpjkeaooaa
