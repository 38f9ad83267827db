/- Plain functions that say what the rounding functions compute; no program in sight. -/
namespace Go.Proofs.Ytigdgcpjkeaooaa

/-- a number and a base are in range -/
def okR (x b : Int) : Prop := 0 ≤ x ∧ x ≤ 10000 ∧ 2 ≤ b ∧ b ≤ 20
instance (x b : Int) : Decidable (okR x b) := by unfold okR; infer_instance

/-- the greatest multiple of b up to x, or -1 -/
def rdn (x b : Int) : Int := if okR x b then x - x % b else -1
/-- the nearest multiple, or -1 -/
def rnr (x b : Int) : Int := if okR x b then (if b ≤ 2 * (x % b) then x - x % b + b else x - x % b) else -1
/-- rounded by a lot, or -1 -/
def rdw (x b l : Int) : Int := if okR x b ∧ 0 ≤ l ∧ l < b then (if l < x % b then x - x % b + b else x - x % b) else -1
/-- the least number that can be rounded to y, or -1 -/
def rlo (y b : Int) : Int := if okR y b ∧ y % b = 0 then max 0 (y - b + 1) else -1
/-- the greatest number that can be rounded to y, or -1 -/
def rhi (y b : Int) : Int := if okR y b ∧ y % b = 0 then min 10000 (y + b - 1) else -1

theorem rdn_in {x b : Int} (h : okR x b) : rdn x b = x - x % b := by unfold rdn; rw [if_pos h]
theorem rdn_out {x b : Int} (h : ¬ okR x b) : rdn x b = -1 := by unfold rdn; rw [if_neg h]
theorem rnr_out {x b : Int} (h : ¬ okR x b) : rnr x b = -1 := by unfold rnr; rw [if_neg h]
theorem rnr_up {x b : Int} (h : okR x b) (h2 : b ≤ 2 * (x % b)) : rnr x b = x - x % b + b := by unfold rnr; rw [if_pos h, if_pos h2]
theorem rnr_dn {x b : Int} (h : okR x b) (h2 : 2 * (x % b) < b) : rnr x b = x - x % b := by unfold rnr; rw [if_pos h, if_neg (by omega)]
theorem rdw_out {x b l : Int} (h : ¬ (okR x b ∧ 0 ≤ l ∧ l < b)) : rdw x b l = -1 := by unfold rdw; rw [if_neg h]
theorem rdw_up {x b l : Int} (h : okR x b ∧ 0 ≤ l ∧ l < b) (h2 : l < x % b) : rdw x b l = x - x % b + b := by unfold rdw; rw [if_pos h, if_pos h2]
theorem rdw_dn {x b l : Int} (h : okR x b ∧ 0 ≤ l ∧ l < b) (h2 : x % b ≤ l) : rdw x b l = x - x % b := by unfold rdw; rw [if_pos h, if_neg (by omega)]
theorem rlo_in {y b : Int} (h : okR y b) (h2 : y % b = 0) : rlo y b = max 0 (y - b + 1) := by unfold rlo; rw [if_pos ⟨h, h2⟩]
theorem rlo_out {y b : Int} (h : ¬ (okR y b ∧ y % b = 0)) : rlo y b = -1 := by unfold rlo; rw [if_neg h]
theorem rhi_in {y b : Int} (h : okR y b) (h2 : y % b = 0) : rhi y b = min 10000 (y + b - 1) := by unfold rhi; rw [if_pos ⟨h, h2⟩]
theorem rhi_out {y b : Int} (h : ¬ (okR y b ∧ y % b = 0)) : rhi y b = -1 := by unfold rhi; rw [if_neg h]

/-- the remainder's bounds -/
theorem mod_bd {x b : Int} (h : okR x b) : 0 ≤ x % b ∧ x % b < b ∧ x % b ≤ x := by
  obtain ⟨h1, _, h3, _⟩ := h
  refine ⟨Int.emod_nonneg _ (by omega), Int.emod_lt_of_pos _ (by omega), ?_⟩
  have := Int.emod_add_mul_ediv x b
  have h5 : 0 ≤ b * (x / b) := Int.mul_nonneg (by omega) (Int.ediv_nonneg h1 (by omega))
  omega

end Go.Proofs.Ytigdgcpjkeaooaa
