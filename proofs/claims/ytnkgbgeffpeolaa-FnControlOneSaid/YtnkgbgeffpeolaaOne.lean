/- How many roundings one row has. Plain; no program in sight. -/
import Derived.Test.YtnkgbgeffpeolaaRndX
import Derived.Test.YtnkgbgeffpeolaaLawsM2
namespace Go.Proofs.Ytnkgbgeffpeolaa

theorem oddN_snoc1 (t : List (List Int)) (b : Int) : ∀ (n p : Nat), oddN t b (n + 1) p = oddN t b n p + if cel t ((p + n) / wid t 0) ((p + n) % wid t 0) = dn b (cel t ((p + n) / wid t 0) ((p + n) % wid t 0)) then 0 else 1
  | 0, p => by unfold oddN oddN; rw [Nat.add_zero]
  | n + 1, p => by
    have := oddN_snoc1 t b n (p + 1)
    rw [show p + 1 + n = p + (n + 1) by omega] at this
    rw [oddN, this, oddN]; omega
theorem oddN_row {t : List (List Int)} (b : Int) {q : Nat} (hq : q < wid t 0) : oddN t b (q + 1) 0 = oddN t b q 0 + if cel t 0 q = dn b (cel t 0 q) then 0 else 1 := by
  rw [oddN_snoc1, Nat.zero_add, Nat.div_eq_of_lt hq, Nat.mod_eq_of_lt hq]

/-- the number of ways: m cells may go up, j have gone up -/
def ways (good : Nat → Bool) : Nat → Nat → Nat
  | 0, j => if good j then 1 else 0
  | m + 1, j => ways good m j + ways good m (j + 1)
/-- how many of the first cells have gone up -/
def upN (t : List (List Int)) (b : Int) (x : List (List Int)) : Nat → Nat
  | 0 => 0
  | p + 1 => upN t b x p + if cel x (p / wid t 0) (p % wid t 0) = dn b (cel t (p / wid t 0) (p % wid t 0)) then 0 else 1
theorem upN_agr {t x y : List (List Int)} {b : Int} : ∀ {p : Nat}, agr (wid t 0) p x y → upN t b x p = upN t b y p
  | 0, _ => rfl
  | p + 1, h => by unfold upN; rw [upN_agr (h.less (Nat.le_succ p)), h p (by omega)]
/-- the sum of the remainders of the first row -/
def remS (t : List (List Int)) (b : Int) (q : Nat) : Int := S q (fun j => cel t 0 j % b)
def goodU (t : List (List Int)) (b : Int) (u : Nat) : Bool := decide (-b < remS t b (wid t 0) - b * u ∧ remS t b (wid t 0) - b * u < b)

theorem up_sum {t x : List (List Int)} {b : Int} (hok : okTo t b (wid t 0) x) : ∀ q, q ≤ wid t 0 → S q (cel x 0) = S q (fun j => dn b (cel t 0 j)) + b * (upN t b x q : Int)
  | 0, _ => by simp [S, upN]
  | q + 1, hq => by
    have ih := up_sum hok q (by omega)
    have e1 : q / wid t 0 = 0 := Nat.div_eq_of_lt (by omega)
    have e2 : q % wid t 0 = q := Nat.mod_eq_of_lt (by omega)
    have hc := hok q (by omega)
    rw [e1, e2] at hc
    simp only [S, upN, e1, e2]
    rw [ih]
    by_cases e : cel x 0 q = dn b (cel t 0 q)
    · rw [if_pos e, e]; simp; omega
    · rw [if_neg e]
      rcases hc with hc | ⟨hc, _⟩
      · exact absurd hc e
      · rw [hc, Int.natCast_add, Int.mul_add]; simp; omega
theorem one_fit {t x : List (List Int)} {b : Int} (h1 : t.length = 1) (ht : tblOk t) (hb : 2 ≤ b) (hs : same t x) (hok : okTo t b (wid t 0) x) : sumsFit t x b ↔ goodU t b (upN t b x (wid t 0)) = true := by
  have hw : wid x 0 = wid t 0 := (hs.2 0 (by omega)).symm
  have hx1 : x.length = 1 := by rw [← hs.1]; exact h1
  have hup := up_sum hok (wid t 0) (Nat.le_refl _)
  have hsum : S (wid t 0) (cel t 0) = S (wid t 0) (fun j => dn b (cel t 0 j)) + remS t b (wid t 0) := by
    unfold remS
    rw [← S_add]
    exact S_congr (fun j _ => by unfold dn; omega)
  have hrow : nr b (S (wid t 0) (cel t 0)) (S (wid t 0) (cel x 0)) ↔ goodU t b (upN t b x (wid t 0)) = true := by
    unfold nr goodU
    rw [hup, hsum, decide_eq_true_eq]
    generalize b * (upN t b x (wid t 0) : Int) = y
    omega
  constructor
  · intro h; exact hrow.1 (h.1 0 (by omega))
  · intro h
    have hr := hrow.2 h
    refine ⟨fun i hi => ?_, fun j hj => ?_, ?_⟩
    · obtain rfl : i = 0 := by omega
      exact hr
    · have e1 : j / wid t 0 = 0 := Nat.div_eq_of_lt hj
      have e2 : j % wid t 0 = j := Nat.mod_eq_of_lt hj
      have hc := hok j hj
      rw [e1, e2] at hc
      have hd := dn_bd hb ((ht.2.2.2.2 0 (by omega)).2 j hj).1
      rw [h1]
      unfold nr
      simp only [S]
      rcases hc with hc | ⟨hc, hne⟩
      · rw [hc]; omega
      · rw [hc]; omega
    · unfold totalT
      rw [h1, hx1, hw]
      unfold nr at hr ⊢
      simp only [S]
      omega
theorem one_len {t : List (List Int)} {b : Int} (h1 : t.length = 1) (ht : tblOk t) (hb : 2 ≤ b) : ∀ (n p : Nat) (x : List (List Int)), n + p = wid t 0 → same t x → okTo t b p x → (fillL t b n p x).length = ways (goodU t b) (oddN t b n p) (upN t b x p)
  | 0, p, x, hn, hx, hok => by
    obtain rfl : p = wid t 0 := by omega
    have := one_fit h1 ht hb hx hok
    unfold fillL oddN ways
    by_cases h : sumsFit t x b
    · rw [if_pos h, if_pos (this.1 h)]; rfl
    · rw [if_neg h, if_neg (fun h2 => h (this.2 h2))]; rfl
  | n + 1, p, x, hn, hx, hok => by
    have hp : p < t.length * wid t 0 := by rw [h1]; omega
    have hcell := ht.rect
    have ev : ∀ v, cOk b (cel t (p / wid t 0) (p % wid t 0)) v → (fillL t b n (p + 1) (setT x (p / wid t 0) (p % wid t 0) v)).length = ways (goodU t b) (oddN t b n (p + 1)) (upN t b x p + if v = dn b (cel t (p / wid t 0) (p % wid t 0)) then 0 else 1) := by
      intro v hv
      rw [one_len h1 ht hb n (p + 1) _ (by omega) (sameT_set hx _ _ _) (okTo_set hcell hx hp hok hv)]
      congr 1
      rw [upN, ← upN_agr (agr_set_self hcell hx hp v), set_at hcell hx hp]
    unfold fillL oddN
    rw [List.length_append, ev _ (.inl rfl), if_pos rfl, Nat.add_zero]
    by_cases e : cel t (p / wid t 0) (p % wid t 0) = dn b (cel t (p / wid t 0) (p % wid t 0))
    · rw [if_pos e, if_pos e]; rfl
    · rw [if_neg e, if_neg e, ev _ (.inr ⟨rfl, e⟩), if_neg (by omega)]; rfl

/-- what the law reckons -/
def aL (n : Int) : Nat → Int
  | 0 => 1
  | i + 1 => (aL n i * (n - i)).tdiv (i + 1)
def oneR (n k : Nat) (d : Bool) : Int := if d then aL n k + (aL n k * ((n : Int) - k)).tdiv (k + 1) else aL n k
theorem ways_bin : ∀ n, n < 5 → ∀ k, k < 5 → k ≤ n → ∀ d : Bool, (k < n ∨ d = false) → (ways (fun u => decide (u = k) || (d && decide (u = k + 1))) n 0 : Int) = oneR n k d := by decide
theorem ways_congr {f g : Nat → Bool} : ∀ (m j : Nat), (∀ u, j ≤ u → u ≤ j + m → f u = g u) → ways f m j = ways g m j
  | 0, j, h => by unfold ways; rw [h j (Nat.le_refl _) (by omega)]
  | m + 1, j, h => by unfold ways; rw [ways_congr m j (fun u h1 h2 => h u h1 (by omega)), ways_congr m (j + 1) (fun u h1 h2 => h u (by omega) (by omega))]
theorem remS_bd {t : List (List Int)} {b : Int} (hb : 2 ≤ b) : ∀ q : Nat, q ≤ wid t 0 → 0 ≤ remS t b q ∧ remS t b q ≤ (b - 1) * (oddN t b q 0 : Int) ∧ (oddN t b q 0 = 0 → remS t b q = 0)
  | 0, _ => by simp [remS, S, oddN]
  | q + 1, hq => by
    obtain ⟨h1, h2, h3⟩ := remS_bd (t := t) hb q (by omega)
    have ho := oddN_row (t := t) b (q := q) hq
    have hm1 := Int.emod_nonneg (cel t 0 q) (show b ≠ 0 by omega)
    have hm2 := Int.emod_lt_of_pos (cel t 0 q) (show 0 < b by omega)
    have hs : remS t b (q + 1) = remS t b q + cel t 0 q % b := rfl
    rw [hs, ho]
    by_cases e : cel t 0 q = dn b (cel t 0 q)
    · have e0 : cel t 0 q % b = 0 := by unfold dn at e; omega
      rw [if_pos e, e0, Nat.add_zero]
      exact ⟨by omega, by omega, fun h => by rw [h3 h]; omega⟩
    · rw [if_neg e]
      refine ⟨by omega, ?_, fun h => by omega⟩
      rw [Int.natCast_add, Int.mul_add]; simp; omega
theorem one_cnt {t : List (List Int)} {b : Int} (h1 : t.length = 1) (ht : tblOk t) (hb : 2 ≤ b) {n k : Nat} (hn : oddN t b (wid t 0) 0 = n) (hk : remS t b (wid t 0) / b = (k : Int)) :
    (cntR t b : Int) = oneR n k (decide (remS t b (wid t 0) % b ≠ 0)) ∧ n < 5 ∧ k ≤ n := by
  have hl := one_len h1 ht hb (wid t 0) 0 t (by omega) (same_refl t) (okTo_zero t b)
  have hR := remS_bd (t := t) hb (wid t 0) (Nat.le_refl _)
  have hn4 : n ≤ 4 := by
    have := oddN_le t b (wid t 0) 0
    have := ht.2.2.2.1
    omega
  rw [hn] at hl hR
  obtain ⟨R, hRe⟩ : ∃ R, remS t b (wid t 0) = R := ⟨_, rfl⟩
  have hgood : ∀ u, goodU t b u = (decide (u = k) || (decide (R % b ≠ 0) && decide (u = k + 1))) := by
    intro u
    unfold goodU
    rw [hRe] at hk ⊢
    have e1 := Int.emod_add_mul_ediv R b
    have e2 := Int.emod_nonneg R (show b ≠ 0 by omega)
    have e3 := Int.emod_lt_of_pos R (show 0 < b by omega)
    rw [hk] at e1
    rw [Bool.eq_iff_iff]
    simp only [Bool.or_eq_true, Bool.and_eq_true, decide_eq_true_eq]
    constructor
    · rintro ⟨g1, g2⟩
      have a1 : b * ((u : Int) - k) < b + R % b := by rw [Int.mul_sub]; omega
      have a2 : R % b - b < b * ((u : Int) - k) := by rw [Int.mul_sub]; omega
      by_cases c1 : (u : Int) - k ≤ -1
      · exfalso
        have : b * ((u : Int) - k) ≤ b * (-1) := Int.mul_le_mul_of_nonneg_left c1 (by omega)
        omega
      · by_cases c2 : (2 : Int) ≤ (u : Int) - k
        · exfalso
          have : b * 2 ≤ b * ((u : Int) - k) := Int.mul_le_mul_of_nonneg_left c2 (by omega)
          omega
        · have : (u : Int) - k = 0 ∨ (u : Int) - k = 1 := by omega
          rcases this with h | h
          · left; omega
          · right
            rw [h] at a1
            exact ⟨by omega, by omega⟩
    · rintro (rfl | ⟨h, rfl⟩)
      · omega
      · rw [Int.natCast_add, Int.mul_add]; simp; omega
  rw [hRe] at hR hk
  have hkn : k ≤ n ∧ (k < n ∨ decide (R % b ≠ 0) = false) := by
    have e1 := Int.emod_add_mul_ediv R b
    have e2 := Int.emod_nonneg R (show b ≠ 0 by omega)
    rw [hk] at e1
    have hkR : b * (k : Int) ≤ (b - 1) * (n : Int) := by omega
    have hle : k ≤ n := by
      by_cases c : k ≤ n
      · exact c
      · exfalso
        have : b * ((n : Int) + 1) ≤ b * (k : Int) := Int.mul_le_mul_of_nonneg_left (by omega) (by omega)
        rw [Int.mul_add] at this
        rw [Int.sub_mul] at hkR
        omega
    refine ⟨hle, ?_⟩
    by_cases c : k < n
    · exact .inl c
    · right
      have : k = n := by omega
      subst this
      rw [Int.sub_mul] at hR
      simp
      omega
  refine ⟨?_, by omega, hkn.1⟩
  have hcn : cntR t b = ways (goodU t b) n (upN t b t 0) := by
    rw [← hl]; unfold cntR roundL; rw [h1, Nat.one_mul]
  rw [hcn, show upN t b t 0 = 0 from rfl, ways_congr n 0 (fun u _ _ => hgood u), hRe]
  exact ways_bin n (by omega) k (by omega) hkn.1 _ hkn.2

end Go.Proofs.Ytnkgbgeffpeolaa
