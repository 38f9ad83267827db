/- Plain facts on multiples and roundings; no program in sight. -/
import Derived.Test.YtomchjbgnccpnaaPlain
namespace Go.Proofs.Ytomchjbgnccpnaa

theorem mul_up {p b : Int} (h : p % b = 0) : (p + b) % b = 0 := by rw [Int.add_emod, h]; simp
theorem mul_dn {p b : Int} (h : p % b = 0) : (p - b) % b = 0 := by rw [Int.sub_emod, h]; simp
theorem mod_of {p r b : Int} (hp : p % b = 0) (h0 : 0 ≤ r) (h1 : r < b) : (p + r) % b = r := by
  rw [Int.add_emod, hp, Int.zero_add, Int.emod_emod, Int.emod_eq_of_lt h0 h1]
theorem mod_at {x p b : Int} (hp : p % b = 0) (h1 : p ≤ x) (h2 : x < p + b) : x % b = x - p := by
  have := mod_of (r := x - p) hp (by omega) (by omega)
  rwa [show p + (x - p) = x by omega] at this

theorem split_x {x b : Int} (h : okR x b) : ∃ p, p % b = 0 ∧ 0 ≤ p ∧ p ≤ x ∧ x < p + b := by
  obtain ⟨m1, m2, m3⟩ := mod_bd h
  refine ⟨x - x % b, ?_, by omega, by omega, by omega⟩
  rw [Int.sub_emod, Int.emod_emod]; simp

theorem rdn_of {x b p : Int} (h : okR x b) (hp : p % b = 0) (h1 : p ≤ x) (h2 : x < p + b) : rdn x b = p := by
  rw [rdn_in h, mod_at hp h1 h2]; omega
theorem rnr_of1 {x b p : Int} (h : okR x b) (hp : p % b = 0) (h1 : p ≤ x) (h2 : x < p + b) (h3 : 2 * (x - p) < b) : rnr x b = p := by
  have e := mod_at hp h1 h2
  rw [rnr_dn h (by omega), e]; omega
theorem rnr_of2 {x b p : Int} (h : okR x b) (hp : p % b = 0) (h1 : p ≤ x) (h2 : x < p + b) (h3 : b ≤ 2 * (x - p)) : rnr x b = p + b := by
  have e := mod_at hp h1 h2
  rw [rnr_up h (by omega), e]; omega
theorem rdw_of1 {x b p l : Int} (h : okR x b) (hp : p % b = 0) (h1 : p ≤ x) (h2 : x < p + b) (l0 : 0 ≤ l) (l1 : l < b) (h3 : x - p ≤ l) : rdw x b l = p := by
  have e := mod_at hp h1 h2
  rw [rdw_dn ⟨h, l0, l1⟩ (by omega), e]; omega
theorem rdw_of2 {x b p l : Int} (h : okR x b) (hp : p % b = 0) (h1 : p ≤ x) (h2 : x < p + b) (l0 : 0 ≤ l) (l1 : l < b) (h3 : l < x - p) : rdw x b l = p + b := by
  have e := mod_at hp h1 h2
  rw [rdw_up ⟨h, l0, l1⟩ (by omega), e]; omega

/-- two multiples of b that are next to x are one -/
theorem mul_one {x b p q : Int} (hp : p % b = 0) (hq : q % b = 0) (h1 : p ≤ x) (h2 : x < p + b) (h3 : q ≤ x) (h4 : x < q + b) : p = q := by
  have e1 := mod_at hp h1 h2
  have e2 := mod_at hq h3 h4
  omega

/-- the next number's multiple -/
theorem next_mul {x b p : Int} (hp : p % b = 0) (h1 : p ≤ x) (h2 : x < p + b) : ∃ p', p' % b = 0 ∧ p' ≤ x + 1 ∧ x + 1 < p' + b ∧ (p' = p ∨ p' = p + b ∧ x + 1 = p + b) := by
  by_cases h : x + 1 < p + b
  · exact ⟨p, hp, by omega, h, Or.inl rfl⟩
  · exact ⟨p + b, mul_up hp, by omega, by omega, Or.inr ⟨rfl, by omega⟩⟩

/-- a multiple of twice b is one of b -/
theorem mul_half {p b : Int} (h : p % (2 * b) = 0) : p % b = 0 := by
  have : p % (2 * b) % b = p % b := Int.emod_emod_of_dvd p ⟨2, by omega⟩
  rw [h] at this; simpa using this.symm

theorem rnr_bd (x b : Int) (h : okR x b) : 0 ≤ rnr x b ∧ rnr x b ≤ x + b := by
  obtain ⟨p, hp, p0, p1, p2⟩ := split_x h
  obtain ⟨k1, k2, k3, k4⟩ := id h
  by_cases hu : 2 * (x - p) < b
  · rw [rnr_of1 h hp p1 p2 hu]; omega
  · rw [rnr_of2 h hp p1 p2 (by omega)]; omega

/-- what FnNearRises asks of the numbers -/
theorem near_rises {x b : Int} (h : okR x b) : ∃ d d2 f, rnr x b = d ∧ rnr (x + 1) b = d2 ∧ rdn (x + b / 2) b = f ∧
    (x < 10000 → d ≤ d2) ∧ (x = 10000 → d2 = -1) ∧ (x + b / 2 ≤ 10000 → f = d ∨ b % 2 = 1) := by
  obtain ⟨p, hp, p0, p1, p2⟩ := split_x h
  obtain ⟨k1, k2, k3, k4⟩ := id h
  refine ⟨_, _, _, rfl, rfl, rfl, ?_, ?_, ?_⟩
  · intro hx
    have h2 : okR (x + 1) b := by unfold okR; omega
    by_cases hn : x + 1 < p + b
    · by_cases hu : 2 * (x - p) < b
      · rw [rnr_of1 h hp p1 p2 hu]
        by_cases hv : 2 * (x + 1 - p) < b
        · rw [rnr_of1 h2 hp (by omega) hn hv]; omega
        · rw [rnr_of2 h2 hp (by omega) hn (by omega)]; omega
      · rw [rnr_of2 h hp p1 p2 (by omega), rnr_of2 h2 hp (by omega) hn (by omega)]; omega
    · rw [rnr_of1 h2 (mul_up hp) (by omega) (by omega) (by omega)]
      by_cases hu : 2 * (x - p) < b
      · rw [rnr_of1 h hp p1 p2 hu]; omega
      · rw [rnr_of2 h hp p1 p2 (by omega)]; omega
  · intro hx
    exact rnr_out (by unfold okR; omega)
  · intro hx
    have h2 : okR (x + b / 2) b := by unfold okR; omega
    by_cases he : b % 2 = 1
    · exact Or.inr he
    · left
      by_cases hu : 2 * (x - p) < b
      · rw [rnr_of1 h hp p1 p2 hu, rdn_of h2 hp (by omega) (by omega)]
      · rw [rnr_of2 h hp p1 p2 (by omega), rdn_of h2 (mul_up hp) (by omega) (by omega)]

end Go.Proofs.Ytomchjbgnccpnaa
