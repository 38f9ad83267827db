/- Plain: the difference of two tables, its small cells. -/
import Derived.Test.YtdlpcoafbmhjjaaTotal
import Derived.Test.YtdlpcoafbmhjjaaRnds
namespace Go.Proofs.Ytdlpcoafbmhjjaa

/-- the first table minus the second one -/
def subT (a b : List (List Int)) : List (List Int) := mkT a.length (wid a 0) (fun i j => cel a i j - cel b i j)
/-- the difference can be told -/
def diffOk (a b : List (List Int)) : Prop := tblOk a ∧ tblOk b ∧ same a b ∧ tblOk (subT a b)
instance (a b : List (List Int)) : Decidable (diffOk a b) := by unfold diffOk; infer_instance
/-- a cell is small -/
def smallC (k z : Int) : Bool := decide (0 < z) && decide (z < k)
/-- the number of small cells -/
def riskN (d : List (List Int)) (k : Int) : Int := S d.length (fun i => S (wid d i) (fun j => if smallC k (cel d i j) then 1 else 0))
def diffR (a b : List (List Int)) (k : Int) : Int := if diffOk a b then riskN (subT a b) k else -1

/-- the cells l (as often as they stand there) have been taken away -/
def subTo (a b T : List (List Int)) (l : List (Nat × Nat)) : Prop := same a T ∧ ∀ i j, i < a.length → j < wid a i → cel T i j = cel a i j - (l.count (i, j) : Int) * cel b i j
theorem subTo_nil (a b : List (List Int)) : subTo a b a [] := ⟨⟨rfl, fun _ _ => rfl⟩, fun i j _ _ => by simp⟩
theorem subTo_snoc {a b T : List (List Int)} {l : List (Nat × Nat)} (h : subTo a b T l) {i j : Nat} (hi : i < a.length) (hj : j < wid a i) {z : Int} (hz : z = cel T i j - cel b i j) : subTo a b (setT T i j z) (l ++ [(i, j)]) := by
  subst hz
  obtain ⟨h1, h2⟩ := h
  refine ⟨⟨by rw [setT_len]; exact h1.1, fun k hk => by rw [setT_wid]; exact h1.2 k hk⟩, fun p q hp hq => ?_⟩
  rw [setT_cel (by rw [← h1.1]; exact hi) (by rw [← h1.2 i hi]; exact hj), List.count_append, List.count_singleton]
  by_cases e : p = i ∧ q = j
  · obtain ⟨rfl, rfl⟩ := e
    rw [if_pos ⟨rfl, rfl⟩, h2 p q hp hq]
    simp only [beq_self_eq_true, if_true, Int.natCast_add, Int.add_mul]
    simp
    omega
  · rw [if_neg e, h2 p q hp hq]
    have : ((i, j) == (p, q)) = false := by
      simp only [beq_eq_false_iff_ne, ne_eq, Prod.mk.injEq]
      intro h
      exact e ⟨h.1.symm, h.2.symm⟩
    rw [this]
    simp
theorem count_row (k i j : Nat) : ∀ q, ((List.range q).map (fun j => (k, j))).count (i, j) = if k = i ∧ j < q then 1 else 0
  | 0 => by simp
  | q + 1 => by
    rw [row_succ, List.count_append, count_row k i j q, List.count_singleton]
    by_cases e : k = i
    · by_cases e2 : q = j
      · subst e; subst e2; simp
      · have : ((k, q) == (i, j)) = false := by simp [e2]
        rw [this]
        by_cases h : j < q
        · simp [e, h, show j < q + 1 by omega]
        · simp [e, h, show ¬ j < q + 1 by omega]
    · have : ((k, q) == (i, j)) = false := by simp [e]
      rw [this]
      simp [e]
theorem count_cells (t : List (List Int)) (i j : Nat) (hj : j < wid t i) : ∀ k, (cellsTo t k).count (i, j) = if i < k then 1 else 0
  | 0 => by simp [cellsTo]
  | k + 1 => by
    rw [cellsTo_succ, List.count_append, count_cells t i j hj k, count_row]
    by_cases e : k = i
    · subst e; simp [hj]
    · by_cases h : i < k
      · simp [e, h, show i < k + 1 by omega]
      · simp [e, h, show ¬ i < k + 1 by omega]
theorem subT_same {a b : List (List Int)} (ha : tblOk a) : same a (subT a b) :=
  ⟨by rw [subT, mkT_len], fun i hi => by rw [subT, mkT_wid hi]; exact (ha.2.2.2.2 i hi).1⟩
theorem subTo_all {a b T : List (List Int)} (ha : tblOk a) (hs : same a b) (h : subTo a b T (cellsN b)) : T = subT a b := by
  obtain ⟨h1, h2⟩ := h
  have hs2 := subT_same (b := b) ha
  refine tab_ext ⟨by rw [← h1.1]; exact hs2.1, fun i hi => by rw [← h1.1] at hi; rw [← h1.2 i hi]; exact hs2.2 i hi⟩ (fun i j hi hj => ?_)
  rw [← h1.1] at hi
  rw [← h1.2 i hi] at hj
  rw [h2 i j hi hj, cellsN, count_cells b i j (by rw [← hs.2 i hi]; exact hj), if_pos (by rw [← hs.1]; exact hi), subT, mkT_cel hi (by rw [← (ha.2.2.2.2 i hi).1]; exact hj)]
  simp

theorem mul_bd {n : Nat} {x : Int} (hn : n ≤ 16) (h1 : 0 ≤ x) (h2 : x ≤ 99) : 0 ≤ (n : Int) * x ∧ (n : Int) * x ≤ 1584 := by
  have a1 : 0 ≤ (n : Int) * x := Int.mul_nonneg (by omega) h1
  have a2 : (n : Int) * x ≤ 16 * x := Int.mul_le_mul_of_nonneg_right (by omega) h1
  omega

theorem riskN_nonneg (d : List (List Int)) (k : Int) : 0 ≤ riskN d k :=
  S_nonneg (fun i _ => S_nonneg (fun j _ => by split <;> omega))
theorem riskN_zero {d : List (List Int)} {k : Int} (h : ∀ i j, smallC k (cel d i j) = false) : riskN d k = 0 := by
  unfold riskN
  rw [S_congr (g := fun _ => 0) (fun i _ => by rw [S_congr (g := fun _ => 0) (fun j _ => by rw [h i j]; rfl), S_zero]), S_zero]
theorem smallC_one (z : Int) : smallC 1 z = false := by
  unfold smallC
  by_cases h : 0 < z
  · simp; omega
  · simp [h]
theorem subT_self (a : List (List Int)) (i j : Nat) : cel (subT a a) i j = 0 := by
  by_cases hi : i < a.length
  · by_cases hj : j < wid a 0
    · rw [subT, mkT_cel hi hj]; omega
    · have hw : wid (subT a a) i = wid a 0 := mkT_wid hi
      unfold cel
      rw [List.getElem?_eq_none (show ((subT a a)[i]?.getD []).length ≤ j by unfold wid at hw hj; omega)]
      rfl
  · have hl : (subT a a).length = a.length := mkT_len _ _ _
    unfold cel
    rw [List.getElem?_eq_none (show (subT a a).length ≤ i by omega)]
    rfl
theorem subT_self_ok {a : List (List Int)} (h : tblOk a) : tblOk (subT a a) := by
  have hs := subT_same (b := a) h
  obtain ⟨h1, h2, h3, h4, h5⟩ := h
  have w0 : wid (subT a a) 0 = wid a 0 := (hs.2 0 (by omega)).symm
  refine ⟨by rw [← hs.1]; exact h1, by rw [← hs.1]; exact h2, by rw [w0]; exact h3, by rw [w0]; exact h4, fun i hi => ?_⟩
  rw [← hs.1] at hi
  refine ⟨by rw [w0, ← hs.2 i hi]; exact (h5 i hi).1, fun j _ => ?_⟩
  rw [subT_self]; omega
theorem diffR_self {a b : List (List Int)} (h : diffOk a b) (k : Int) : diffR a a k = 0 := by
  have : diffOk a a := ⟨h.1, h.1, ⟨rfl, fun _ _ => rfl⟩, subT_self_ok h.1⟩
  unfold diffR
  rw [if_pos this]
  exact riskN_zero (fun i j => by rw [subT_self]; rfl)
theorem diffR_one {a b : List (List Int)} (h : diffOk a b) : diffR a b 1 = 0 := by
  unfold diffR
  rw [if_pos h]
  exact riskN_zero (fun i j => smallC_one _)
theorem riskN_le {d : List (List Int)} (h : tblOk d) (k : Int) : riskN d k ≤ totalT d := by
  unfold riskN totalT
  refine S_mono (fun i hi => ?_)
  rw [(h.2.2.2.2 i hi).1]
  refine S_mono (fun j hj => ?_)
  have := (h.2.2.2.2 i hi).2 j hj
  split
  · rename_i e
    unfold smallC at e
    simp at e
    omega
  · omega
theorem diffR_neg {a b : List (List Int)} {k : Int} : diffR a b k < 0 ↔ ¬ diffOk a b := by
  unfold diffR
  by_cases h : diffOk a b
  · rw [if_pos h]
    have := riskN_nonneg (subT a b) k
    constructor
    · intro; omega
    · intro h2; exact absurd h h2
  · rw [if_neg h]
    exact ⟨fun _ => h, fun _ => by omega⟩

end Go.Proofs.Ytdlpcoafbmhjjaa
