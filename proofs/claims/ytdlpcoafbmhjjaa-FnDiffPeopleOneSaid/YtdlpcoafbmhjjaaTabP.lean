/- Tables: cells, sums, roundings. Plain; no program in sight. -/
import Derived.Test.YtdlpcoafbmhjjaaExist
namespace Go.Proofs.Ytdlpcoafbmhjjaa

/-- a cell of a table -/
def cel (t : List (List Int)) (i j : Nat) : Int := (t[i]?.getD [])[j]?.getD 0
/-- the length of a row -/
def wid (t : List (List Int)) (i : Nat) : Nat := (t[i]?.getD []).length

/-- the table is valid -/
def tblOk (t : List (List Int)) : Prop :=
  1 ≤ t.length ∧ t.length ≤ 4 ∧ 1 ≤ wid t 0 ∧ wid t 0 ≤ 4 ∧ ∀ i, i < t.length → wid t i = wid t 0 ∧ ∀ j, j < wid t 0 → 0 ≤ cel t i j ∧ cel t i j ≤ 99
instance (t : List (List Int)) : Decidable (tblOk t) := by unfold tblOk; infer_instance

/-- the cells in order, row by row: those of the first k rows -/
def cellsTo (t : List (List Int)) (k : Nat) : List (Nat × Nat) := ((List.range k).map fun i => (List.range (wid t i)).map fun j => (i, j)).flatten
def cellsN (t : List (List Int)) : List (Nat × Nat) := cellsTo t t.length
theorem cellsTo_succ (t : List (List Int)) (k : Nat) : cellsTo t (k + 1) = cellsTo t k ++ (List.range (wid t k)).map fun j => (k, j) := by
  unfold cellsTo; rw [List.range_succ, List.map_append, List.flatten_append]; simp
theorem row_succ (k q : Nat) : (List.range (q + 1)).map (fun j => (k, j)) = (List.range q).map (fun j => (k, j)) ++ [(k, q)] := by
  rw [List.range_succ, List.map_append]; rfl

theorem cellsTo_len (t : List (List Int)) (k : Nat) : (cellsTo t (k + 1)).length = (cellsTo t k).length + wid t k := by rw [cellsTo_succ]; simp
theorem cellsTo_mono (t : List (List Int)) {k m : Nat} (h : k ≤ m) : (cellsTo t k).length ≤ (cellsTo t m).length := by
  induction m with
  | zero => obtain rfl : k = 0 := by omega
            exact Nat.le_refl _
  | succ m ih =>
    by_cases e : k = m + 1
    · subst e; exact Nat.le_refl _
    · have := ih (by omega)
      rw [cellsTo_len]; omega
theorem cells_lt (t : List (List Int)) {k q : Nat} (hk : k < t.length) (hq : q < wid t k) : (cellsTo t k).length + q < (cellsN t).length := by
  have := cellsTo_mono t (show k + 1 ≤ t.length by omega)
  rw [cellsTo_len] at this
  unfold cellsN
  omega

/-- the sum of all cells -/
def totalT (t : List (List Int)) : Int := S t.length (fun i => S (wid t 0) (cel t i))

/-- what has been added up in row i, in column j, over some cells -/
def accR (t : List (List Int)) (l : List (Nat × Nat)) (i : Nat) : Int := (l.map fun p => if p.1 = i then cel t p.1 p.2 else 0).sum
def accC (t : List (List Int)) (l : List (Nat × Nat)) (j : Nat) : Int := (l.map fun p => if p.2 = j then cel t p.1 p.2 else 0).sum
theorem accR_snoc (t : List (List Int)) (l : List (Nat × Nat)) (p : Nat × Nat) (i : Nat) : accR t (l ++ [p]) i = accR t l i + if p.1 = i then cel t p.1 p.2 else 0 := by simp [accR]
theorem accC_snoc (t : List (List Int)) (l : List (Nat × Nat)) (p : Nat × Nat) (j : Nat) : accC t (l ++ [p]) j = accC t l j + if p.2 = j then cel t p.1 p.2 else 0 := by simp [accC]
theorem accR_app (t : List (List Int)) (l m : List (Nat × Nat)) (i : Nat) : accR t (l ++ m) i = accR t l i + accR t m i := by simp [accR]
theorem accC_app (t : List (List Int)) (l m : List (Nat × Nat)) (j : Nat) : accC t (l ++ m) j = accC t l j + accC t m j := by simp [accC]
theorem accR_row (t : List (List Int)) (k i q : Nat) : accR t ((List.range q).map fun j => (k, j)) i = if k = i then S q (cel t k) else 0 := by
  induction q with
  | zero => simp [accR, S]
  | succ q ih =>
    rw [row_succ, accR_snoc, ih]
    by_cases e : k = i <;> simp [e, S]
theorem accC_row (t : List (List Int)) (k j q : Nat) : accC t ((List.range q).map fun j => (k, j)) j = if j < q then cel t k j else 0 := by
  induction q with
  | zero => simp [accC]
  | succ q ih =>
    rw [row_succ, accC_snoc, ih]
    by_cases e : q = j
    · subst e; simp
    · by_cases e2 : j < q
      · simp [e, e2, show j < q + 1 by omega]
      · simp [e, e2, show ¬ j < q + 1 by omega]
theorem accR_to (t : List (List Int)) (k i : Nat) : accR t (cellsTo t k) i = if i < k then S (wid t i) (cel t i) else 0 := by
  induction k with
  | zero => simp [cellsTo, accR]
  | succ k ih =>
    rw [cellsTo_succ, accR_app, ih, accR_row]
    by_cases e : k = i
    · subst e; simp
    · by_cases e2 : i < k
      · simp [e, e2, show i < k + 1 by omega]
      · simp [e, e2, show ¬ i < k + 1 by omega]
theorem accC_to (t : List (List Int)) (k j : Nat) (h : ∀ i, i < k → j < wid t i) : accC t (cellsTo t k) j = S k (fun i => cel t i j) := by
  induction k with
  | zero => simp [cellsTo, accC, S]
  | succ k ih =>
    rw [cellsTo_succ, accC_app, ih (fun i hi => h i (by omega)), accC_row, if_pos (h k (by omega))]
    rfl
theorem accR_bd {t : List (List Int)} {l : List (Nat × Nat)} {i : Nat} (h : ∀ p ∈ l, 0 ≤ cel t p.1 p.2 ∧ cel t p.1 p.2 ≤ 1000) : 0 ≤ accR t l i ∧ accR t l i ≤ 1000 * l.length := by
  induction l with
  | nil => simp [accR]
  | cons a l ih =>
    have h1 := h a (by simp)
    have h2 := ih (fun p hp => h p (by simp [hp]))
    unfold accR at h2 ⊢
    simp only [List.map_cons, List.sum_cons, List.length_cons]
    split <;> omega
theorem accC_bd {t : List (List Int)} {l : List (Nat × Nat)} {j : Nat} (h : ∀ p ∈ l, 0 ≤ cel t p.1 p.2 ∧ cel t p.1 p.2 ≤ 1000) : 0 ≤ accC t l j ∧ accC t l j ≤ 1000 * l.length := by
  induction l with
  | nil => simp [accC]
  | cons a l ih =>
    have h1 := h a (by simp)
    have h2 := ih (fun p hp => h p (by simp [hp]))
    unfold accC at h2 ⊢
    simp only [List.map_cons, List.sum_cons, List.length_cons]
    split <;> omega
theorem cellsN_le {t : List (List Int)} (h1 : t.length ≤ 4) (h2 : ∀ i, i < t.length → wid t i ≤ 4) : (cellsN t).length ≤ 16 := by
  have : ∀ k, k ≤ t.length → (cellsTo t k).length ≤ 4 * k := by
    intro k
    induction k with
    | zero => intro _; simp [cellsTo]
    | succ k ih => intro hk; rw [cellsTo_len]; have := ih (by omega); have := h2 k (by omega); omega
  have := this t.length (Nat.le_refl _)
  unfold cellsN; omega

end Go.Proofs.Ytdlpcoafbmhjjaa
