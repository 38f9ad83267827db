/- Tables: cells, sums, roundings. Plain; no program in sight. -/
import Derived.Test.YtkfnoedklcdooaaExist
namespace Go.Proofs.Ytkfnoedklcdooaa

/-- a cell of a table -/
def cel (t : List (List Int)) (i j : Nat) : Int := (t[i]?.getD [])[j]?.getD 0
/-- the length of a row -/
def wid (t : List (List Int)) (i : Nat) : Nat := (t[i]?.getD []).length

/-- the table is valid -/
def tblOk (t : List (List Int)) : Prop :=
  1 ≤ t.length ∧ t.length ≤ 4 ∧ 1 ≤ wid t 0 ∧ wid t 0 ≤ 4 ∧ ∀ i, i < t.length → wid t i = wid t 0 ∧ ∀ j, j < wid t 0 → 0 ≤ cel t i j ∧ cel t i j ≤ 99
instance (t : List (List Int)) : Decidable (tblOk t) := by unfold tblOk; infer_instance

/-- the cells in order, row by row: those of the first k rows -/
def cellsTo (t : List (List Int)) (k : Nat) : List (Nat × Nat) := ((List.range k).map fun i => (List.range (wid t i)).map fun j => (i, j)).flatten
def cellsN (t : List (List Int)) : List (Nat × Nat) := cellsTo t t.length
theorem cellsTo_succ (t : List (List Int)) (k : Nat) : cellsTo t (k + 1) = cellsTo t k ++ (List.range (wid t k)).map fun j => (k, j) := by
  unfold cellsTo; rw [List.range_succ, List.map_append, List.flatten_append]; simp
theorem row_succ (k q : Nat) : (List.range (q + 1)).map (fun j => (k, j)) = (List.range q).map (fun j => (k, j)) ++ [(k, q)] := by
  rw [List.range_succ, List.map_append]; rfl

theorem cellsTo_len (t : List (List Int)) (k : Nat) : (cellsTo t (k + 1)).length = (cellsTo t k).length + wid t k := by rw [cellsTo_succ]; simp
theorem cellsTo_mono (t : List (List Int)) {k m : Nat} (h : k ≤ m) : (cellsTo t k).length ≤ (cellsTo t m).length := by
  induction m with
  | zero => obtain rfl : k = 0 := by omega
            exact Nat.le_refl _
  | succ m ih =>
    by_cases e : k = m + 1
    · subst e; exact Nat.le_refl _
    · have := ih (by omega)
      rw [cellsTo_len]; omega
theorem cells_lt (t : List (List Int)) {k q : Nat} (hk : k < t.length) (hq : q < wid t k) : (cellsTo t k).length + q < (cellsN t).length := by
  have := cellsTo_mono t (show k + 1 ≤ t.length by omega)
  rw [cellsTo_len] at this
  unfold cellsN
  omega

end Go.Proofs.Ytkfnoedklcdooaa
