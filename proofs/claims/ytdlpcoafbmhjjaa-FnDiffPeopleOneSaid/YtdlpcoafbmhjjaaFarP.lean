/- Distances of tables of small numbers: plain sums. -/
import Derived.Test.YtdlpcoafbmhjjaaFar
import Derived.Test.YtdlpcoafbmhjjaaDrawT
namespace Go.Proofs.Ytdlpcoafbmhjjaa
open Go.RowKit

/-- the absolute difference of two cells -/
def dif (a b : List (List Int)) (i j : Nat) : Int := max (cel a i j - cel b i j) (cel b i j - cel a i j)
/-- the distance -/
def farS (a b : List (List Int)) : Int := S a.length (fun i => S (wid a i) (dif a b i))
/-- small numbers in few rows -/
def smallT (a : List (List Int)) : Prop := a.length ≤ 4 ∧ ∀ i, i < a.length → wid a i ≤ 4 ∧ ∀ j, j < wid a i → -1000 ≤ cel a i j ∧ cel a i j ≤ 1000
theorem TblD.small {t : List (List Int)} (h : TblD t) : smallT t :=
  ⟨h.1, fun i hi => ⟨(h.2 i hi).2.1, fun j hj => by have := (h.2 i hi).2.2 j hj; omega⟩⟩
theorem tblOk.small {t : List (List Int)} (h : tblOk t) : smallT t := by
  obtain ⟨_, h2, _, h4, h5⟩ := h
  refine ⟨h2, fun i hi => ?_⟩
  obtain ⟨e, f⟩ := h5 i hi
  rw [e]
  exact ⟨h4, fun j hj => by have := f j hj; omega⟩

theorem absW_small {x y : Int} (hx : -1000 ≤ x ∧ x ≤ 1000) (hy : -1000 ≤ y ∧ y ≤ 1000) : absW x y = max (x - y) (y - x) := by
  unfold absW
  rw [IntWalk.wrap64_in (x - y) ⟨by omega, by omega⟩, IntWalk.wrap64_in (-(x - y)) ⟨by omega, by omega⟩]
  omega
theorem S_dif_bd {a b : List (List Int)} {i : Nat} : ∀ q, (∀ j, j < q → (-1000 ≤ cel a i j ∧ cel a i j ≤ 1000) ∧ (-1000 ≤ cel b i j ∧ cel b i j ≤ 1000)) → 0 ≤ S q (dif a b i) ∧ S q (dif a b i) ≤ q * 2000 := by
  intro q h
  refine ⟨S_nonneg (fun j hj => by unfold dif; omega), S_le (fun j hj => ?_)⟩
  have := h j hj
  unfold dif; omega

theorem farL_row {a b : List (List Int)} {k : Nat} (l : List (Nat × Nat)) (h0 : 0 ≤ farL a b l) (h1 : farL a b l ≤ 1000000) : ∀ q, q ≤ 4 → (∀ j, j < q → (-1000 ≤ cel a k j ∧ cel a k j ≤ 1000) ∧ (-1000 ≤ cel b k j ∧ cel b k j ≤ 1000)) →
    farL a b (l ++ (List.range q).map (fun j => (k, j))) = farL a b l + S q (dif a b k) := by
  intro q
  induction q with
  | zero => intro _ _; simp [S]
  | succ q ih =>
    intro hq h
    have e := ih (by omega) (fun j hj => h j (by omega))
    have hb := S_dif_bd (a := a) (b := b) (i := k) q (fun j hj => h j (by omega))
    have hz := h q (by omega)
    rw [row_succ, ← List.append_assoc, farL_snoc, e, absW_small hz.1 hz.2]
    simp only [S]
    have : max (cel a k q - cel b k q) (cel b k q - cel a k q) = dif a b k q := rfl
    rw [this]
    have hd : 0 ≤ dif a b k q ∧ dif a b k q ≤ 2000 := by unfold dif; omega
    rw [IntWalk.wrap64_in _ ⟨by omega, by omega⟩]
    omega

theorem farL_S {a b : List (List Int)} (ha : smallT a) (hb : smallT b) (hs : same a b) : ∀ k, k ≤ a.length → farL a b (cellsTo a k) = S k (fun i => S (wid a i) (dif a b i)) ∧ 0 ≤ farL a b (cellsTo a k) ∧ farL a b (cellsTo a k) ≤ k * 8000 := by
  intro k
  induction k with
  | zero => intro _; exact ⟨rfl, by simp [cellsTo, farL], by simp [cellsTo, farL]⟩
  | succ k ih =>
    intro hk
    obtain ⟨e, e0, e1⟩ := ih (by omega)
    have hc : ∀ j, j < wid a k → (-1000 ≤ cel a k j ∧ cel a k j ≤ 1000) ∧ (-1000 ≤ cel b k j ∧ cel b k j ≤ 1000) := fun j hj =>
      ⟨(ha.2 k (by omega)).2 j hj, (hb.2 k (by rw [← hs.1]; omega)).2 j (by rw [← hs.2 k (by omega)]; exact hj)⟩
    have hw := (ha.2 k (by omega)).1
    have hk4 := ha.1
    have hr := farL_row (a := a) (b := b) (k := k) (cellsTo a k) e0 (by omega) (wid a k) hw hc
    have hbd := S_dif_bd (a := a) (b := b) (i := k) (wid a k) hc
    rw [cellsTo_succ, hr, e]
    simp only [S]
    refine ⟨trivial, by omega, by omega⟩

theorem farOf_same {a b : List (List Int)} (ha : smallT a) (hb : smallT b) (hs : same a b) : farOf a b = farS a b ∧ 0 ≤ farS a b ∧ farS a b ≤ 32000 := by
  obtain ⟨e, e0, e1⟩ := farL_S ha hb hs a.length (Nat.le_refl _)
  have h4 := ha.1
  unfold farOf
  rw [if_pos hs]
  unfold cellsN farS
  rw [← e]
  exact ⟨rfl, e0, by omega⟩
theorem farOf_diff {a b : List (List Int)} (hs : ¬ same a b) : farOf a b = -1 := if_neg hs

/-- one cell more -/
theorem S2_one {h : Nat} {w : Nat → Nat} {i0 j0 : Nat} (hi : i0 < h) (hj : j0 < w i0) (c : Int) : S h (fun i => S (w i) (fun j => if i = i0 ∧ j = j0 then c else 0)) = c := by
  rw [S_congr (g := fun i => if i = i0 then c else 0) (fun i _ => ?_), S_one hi]
  by_cases e : i = i0
  · subst e
    rw [if_pos rfl, S_congr (g := fun j => if j = j0 then c else 0) (fun j _ => by by_cases e2 : j = j0 <;> simp [e2]), S_one hj]
  · rw [if_neg e, S_congr (g := fun _ => 0) (fun j _ => by rw [if_neg (fun h => e h.1)]), S_zero]

/-- a table with one number greater by one -/
theorem far_up {a : List (List Int)} {i : Nat} (hi : i < a.length) (hj : 0 < wid a i) : farS a (setT a i 0 (cel a i 0 + 1)) = 1 := by
  unfold farS
  refine Eq.trans ?_ (S2_one (w := wid a) hi hj 1)
  refine S_congr (fun k _ => S_congr (fun q _ => ?_))
  unfold dif
  rw [setT_cel hi hj]
  by_cases e : k = i ∧ q = 0
  · simp only [if_pos e]; rw [e.1, e.2]; omega
  · simp only [if_neg e]; omega
theorem far_up2 {a b : List (List Int)} {i : Nat} (hi : i < a.length) (hj : 0 < wid a i) : farS (setT a i 0 (cel a i 0 + 1)) b = farS a b + 1 ∨ farS (setT a i 0 (cel a i 0 + 1)) b = farS a b - 1 := by
  obtain ⟨c, hc⟩ : ∃ c, c = max (cel a i 0 + 1 - cel b i 0) (cel b i 0 - (cel a i 0 + 1)) - max (cel a i 0 - cel b i 0) (cel b i 0 - cel a i 0) := ⟨_, rfl⟩
  have : farS (setT a i 0 (cel a i 0 + 1)) b = farS a b + c := by
    unfold farS
    rw [← S2_one (w := wid a) hi hj c, ← S_add, setT_len]
    refine S_congr (fun k _ => ?_)
    rw [← S_add, setT_wid]
    refine S_congr (fun q _ => ?_)
    unfold dif
    rw [setT_cel hi hj]
    by_cases e : k = i ∧ q = 0
    · simp only [if_pos e]; rw [e.1, e.2, hc]; omega
    · simp only [if_neg e]; omega
  rw [this]
  omega
theorem same_set {a : List (List Int)} (i j : Nat) (x : Int) : same a (setT a i j x) := ⟨by rw [setT_len], fun k _ => by rw [setT_wid]⟩
theorem same_set2 {a b : List (List Int)} (h : same a b) (i j : Nat) (x : Int) : same (setT a i j x) b := ⟨by rw [setT_len]; exact h.1, fun k hk => by rw [setT_len] at hk; rw [setT_wid]; exact h.2 k hk⟩
theorem same_comm {a b : List (List Int)} (h : same a b) : same b a := ⟨h.1.symm, fun i hi => (h.2 i (by rw [h.1]; exact hi)).symm⟩
theorem small_set {a : List (List Int)} (h : smallT a) {i j : Nat} (hi : i < a.length) (hj : j < wid a i) {x : Int} (h1 : -1000 ≤ x) (h2 : x ≤ 1000) : smallT (setT a i j x) := by
  refine ⟨by rw [setT_len]; exact h.1, fun k hk => ?_⟩
  rw [setT_len] at hk
  rw [setT_wid]
  refine ⟨(h.2 k hk).1, fun q hq => ?_⟩
  rw [setT_cel hi hj]
  split
  · exact ⟨h1, h2⟩
  · exact (h.2 k hk).2 q hq
theorem smallT.lens {t : List (List Int)} (h : smallT t) : lensT t := by
  refine ⟨by have := h.1; omega, fun i => ?_⟩
  by_cases hi : i < t.length
  · have := (h.2 i hi).1; omega
  · unfold wid; rw [List.getElem?_eq_none (by omega)]; simp

end Go.Proofs.Ytdlpcoafbmhjjaa
