/- What a rounding of a table is; plain. -/
import Derived.Test.YtdlpcoafbmhjjaaTabP
import Derived.Test.YtdlpcoafbmhjjaaShape
namespace Go.Proofs.Ytdlpcoafbmhjjaa

/-- rounded down -/
def dn (b c : Int) : Int := c - c % b
/-- x is a rounding of the cell t -/
def cOk (b t x : Int) : Prop := x = dn b t ∨ (x = dn b t + b ∧ t ≠ dn b t)
instance (b t x : Int) : Decidable (cOk b t x) := by unfold cOk; infer_instance
/-- two sums are near -/
def nr (b x y : Int) : Prop := x - y < b ∧ y - x < b
instance (b x y : Int) : Decidable (nr b x y) := by unfold nr; infer_instance
/-- lists of sums are near -/
def nearL (a b : List Int) (base : Int) : Prop := ∀ k, k < a.length → nr base (a[k]?.getD 0) (b[k]?.getD 0)
instance (a b : List Int) (base : Int) : Decidable (nearL a b base) := by unfold nearL; infer_instance
def cellsFit (t x : List (List Int)) (b : Int) : Prop := ∀ i, i < t.length → ∀ j, j < wid t 0 → cOk b (cel t i j) (cel x i j)
instance (t x : List (List Int)) (b : Int) : Decidable (cellsFit t x b) := by unfold cellsFit; infer_instance
def sumsFit (t x : List (List Int)) (b : Int) : Prop :=
  (∀ i, i < t.length → nr b (S (wid t 0) (cel t i)) (S (wid t 0) (cel x i))) ∧ (∀ j, j < wid t 0 → nr b (S t.length (fun i => cel t i j)) (S t.length (fun i => cel x i j))) ∧ nr b (totalT t) (totalT x)
instance (t x : List (List Int)) (b : Int) : Decidable (sumsFit t x b) := by unfold sumsFit; infer_instance
/-- x is a rounding of the table t -/
def Fits (t x : List (List Int)) (b : Int) : Prop := tblOk t ∧ (2 ≤ b ∧ b ≤ 20) ∧ same t x ∧ cellsFit t x b ∧ sumsFit t x b
instance (t x : List (List Int)) (b : Int) : Decidable (Fits t x b) := by unfold Fits; infer_instance

theorem dn_bd {b c : Int} (hb : 2 ≤ b) (hc : 0 ≤ c) : 0 ≤ dn b c ∧ dn b c ≤ c ∧ c < dn b c + b := by
  unfold dn
  have h1 := Int.emod_nonneg c (show b ≠ 0 by omega)
  have h2 := Int.emod_lt_of_pos c (show 0 < b by omega)
  have h3 : 0 ≤ b * (c / b) := Int.mul_nonneg (by omega) (Int.ediv_nonneg hc (by omega))
  have h4 := Int.emod_add_mul_ediv c b
  omega
theorem cOk_bd {b t x : Int} (hb : 2 ≤ b) (hb2 : b ≤ 20) (h0 : 0 ≤ t) (h1 : t ≤ 99) (h : cOk b t x) : 0 ≤ x ∧ x ≤ 119 := by
  have := dn_bd hb h0
  rcases h with h | ⟨h, _⟩ <;> omega

end Go.Proofs.Ytdlpcoafbmhjjaa
