/- Plain facts on what the laws' loops over lots compute; no program in sight. -/
import Derived.Test.YtomchjbgnccpnaaPlain2
namespace Go.Proofs.Ytomchjbgnccpnaa

/-- has one of the first k lots rounded x to y? -/
def fnd (x b y : Int) : Nat → Bool
  | 0 => false
  | k + 1 => fnd x b y k || (rdw x b k == y)
/-- how many of the first k lots round x up -/
def cnt (x b : Int) : Nat → Int
  | 0 => 0
  | k + 1 => cnt x b k + if x < rdw x b k then 1 else 0
/-- the sum of what the first k lots give -/
def smd (x b : Int) : Nat → Int
  | 0 => 0
  | k + 1 => smd x b k + rdw x b k

theorem fnd_true {x b y : Int} {k : Nat} (j : Nat) (hj : j < k) (h : rdw x b j = y) : fnd x b y k = true := by
  induction k with
  | zero => omega
  | succ k ih =>
    unfold fnd
    by_cases e : j = k
    · subst e; simp [h]
    · rw [ih (by omega)]; rfl
theorem fnd_false {x b y : Int} {k : Nat} (h : ∀ j : Nat, j < k → rdw x b j ≠ y) : fnd x b y k = false := by
  induction k with
  | zero => rfl
  | succ k ih =>
    unfold fnd
    rw [ih (fun j hj => h j (by omega))]
    simpa using h k (by omega)

theorem rdw_cases {x b p : Int} (h : okR x b) (hp : p % b = 0) (h1 : p ≤ x) (h2 : x < p + b) {l : Int} (l0 : 0 ≤ l) (l1 : l < b) :
    (x - p ≤ l ∧ rdw x b l = p) ∨ (l < x - p ∧ rdw x b l = p + b) := by
  by_cases hl : x - p ≤ l
  · exact Or.inl ⟨hl, rdw_of1 h hp h1 h2 l0 l1 hl⟩
  · exact Or.inr ⟨by omega, rdw_of2 h hp h1 h2 l0 l1 (by omega)⟩

theorem cnt_eq {x b p : Int} (h : okR x b) (hp : p % b = 0) (h1 : p ≤ x) (h2 : x < p + b) (k : Nat) (hk : (k : Int) ≤ b) : cnt x b k = min (k : Int) (x - p) := by
  induction k with
  | zero => unfold cnt; omega
  | succ k ih =>
    unfold cnt
    rw [ih (by omega)]
    rcases rdw_cases h hp h1 h2 (l := k) (by omega) (by omega) with ⟨a, e⟩ | ⟨a, e⟩
    · rw [e, if_neg (by omega)]; omega
    · rw [e, if_pos (by omega)]; omega
theorem cnt_bd (x b : Int) (k : Nat) : 0 ≤ cnt x b k ∧ cnt x b k ≤ k := by
  induction k with
  | zero => exact ⟨Int.le_refl _, Int.le_refl _⟩
  | succ k ih => unfold cnt; split <;> omega

theorem rdw_bd (x b l : Int) : -1 ≤ rdw x b l ∧ rdw x b l ≤ 10020 := by
  by_cases h : okR x b ∧ 0 ≤ l ∧ l < b
  · obtain ⟨p, hp, p0, p1, p2⟩ := split_x h.1
    obtain ⟨⟨k1, k2, k3, k4⟩, l0, l1⟩ := id h
    rcases rdw_cases h.1 hp p1 p2 l0 l1 with ⟨_, e⟩ | ⟨_, e⟩ <;> rw [e] <;> omega
  · rw [rdw_out h]; omega

theorem smd_eq {x b p : Int} (h : okR x b) (hp : p % b = 0) (h1 : p ≤ x) (h2 : x < p + b) (k : Nat) (hk : (k : Int) ≤ b) : smd x b k = k * p + min (k : Int) (x - p) * b := by
  induction k with
  | zero => unfold smd; rw [Int.min_eq_left (by omega)]; simp
  | succ k ih =>
    unfold smd
    rw [ih (by omega)]
    rcases rdw_cases h hp h1 h2 (l := k) (by omega) (by omega) with ⟨a, e⟩ | ⟨a, e⟩
    · rw [e, Int.min_eq_right (by omega), Int.min_eq_right (by omega), Int.natCast_succ, Int.add_mul]; omega
    · rw [e, Int.min_eq_left (by omega), Int.min_eq_left (by omega), Int.natCast_succ, Int.add_mul, Int.add_mul]; omega
theorem smd_bd (x b : Int) (k : Nat) : -(k : Int) ≤ smd x b k ∧ smd x b k ≤ k * 10020 := by
  induction k with
  | zero => exact ⟨Int.le_refl _, Int.le_refl _⟩
  | succ k ih => unfold smd; have := rdw_bd x b k; omega

theorem smd_all {x : Int} {b : Nat} (h : okR x b) : smd x b b = x * b := by
  obtain ⟨p, hp, p0, p1, p2⟩ := split_x h
  rw [smd_eq h hp p1 p2 b (Int.le_refl _), Int.min_eq_right (by omega), Int.sub_mul, Int.mul_comm (b : Int) p]; omega
theorem cnt_all {x : Int} {b : Nat} (h : okR x b) : cnt x b b = x % b := by
  obtain ⟨p, hp, p0, p1, p2⟩ := split_x h
  rw [cnt_eq h hp p1 p2 b (Int.le_refl _), mod_at hp p1 p2]; omega

/-- the nearest multiple is drawn by some lot -/
theorem near_drawn {x : Int} {b : Nat} (h : okR x b) : fnd x b (rnr x b) b = true := by
  obtain ⟨p, hp, p0, p1, p2⟩ := split_x h
  obtain ⟨k1, k2, k3, k4⟩ := id h
  by_cases hu : 2 * (x - p) < b
  · rw [rnr_of1 h hp p1 p2 hu]
    exact fnd_true (b - 1) (by omega) (rdw_of1 h hp p1 p2 (by omega) (by omega) (by omega))
  · rw [rnr_of2 h hp p1 p2 (by omega)]
    exact fnd_true 0 (by omega) (rdw_of2 h hp p1 p2 (by omega) (by omega) (by omega))

/-- a number from y - b + 1 to y + b - 1 can be rounded to the multiple y -/
theorem drawn_in {x y : Int} {b : Nat} (h : okR x b) (hy : y % b = 0) (h1 : y - b < x) (h2 : x < y + b) : fnd x b y b = true := by
  obtain ⟨k1, k2, k3, k4⟩ := id h
  by_cases hx : y ≤ x
  · exact fnd_true (b - 1) (by omega) (rdw_of1 h hy hx h2 (by omega) (by omega) (by omega))
  · have := rdw_of2 (l := 0) h (mul_dn hy) (by omega) (by omega) (by omega) (by omega) (by omega)
    exact fnd_true 0 (by omega) (by rw [show ((0 : Nat) : Int) = 0 from rfl, this]; omega)

/-- no other number can -/
theorem drawn_out {x y : Int} {b : Nat} (hy : y % b = 0) (hy0 : 0 ≤ y) (h : x ≤ y - b ∨ y + b ≤ x) : fnd x b y b = false := by
  apply fnd_false
  intro j hj e
  by_cases hk : okR x b
  · obtain ⟨p, hp, p0, p1, p2⟩ := split_x hk
    rcases rdw_cases hk hp p1 p2 (l := j) (by omega) (by omega) with ⟨a, e2⟩ | ⟨a, e2⟩
    · omega
    · rcases h with h | h
      · have : x = p := by
          have := mul_one (x := x) (mul_dn hy) hp (by omega) (by omega) p1 p2
          omega
        omega
      · omega
  · rw [rdw_out (fun k => hk k.1)] at e; omega

end Go.Proofs.Ytomchjbgnccpnaa
