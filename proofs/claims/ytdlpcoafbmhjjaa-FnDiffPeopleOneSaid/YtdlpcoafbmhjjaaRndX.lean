/- Every small table has a rounding; which tables have equally many. Plain; no program in sight. -/
import Derived.Test.YtdlpcoafbmhjjaaRnds
namespace Go.Proofs.Ytdlpcoafbmhjjaa

/-- the differences d of cells add up to less than b in every row, in every column and all together -/
def dFit (h w : Nat) (b : Int) (d : Nat → Nat → Int) : Prop :=
  (∀ i, i < h → -b < S w (d i) ∧ S w (d i) < b) ∧ (∀ j, j < w → -b < S h (fun i => d i j) ∧ S h (fun i => d i j) < b) ∧ -b < S h (fun i => S w (d i)) ∧ S h (fun i => S w (d i)) < b
theorem dFit_congr {h w : Nat} {b : Int} {d e : Nat → Nat → Int} (he : ∀ i, i < h → ∀ j, j < w → d i j = e i j) (hd : dFit h w b d) : dFit h w b e := by
  obtain ⟨h1, h2, h3⟩ := hd
  have r : ∀ i, i < h → S w (d i) = S w (e i) := fun i hi => S_congr (he i hi)
  refine ⟨fun i hi => by rw [← r i hi]; exact h1 i hi, fun j hj => ?_, ?_⟩
  · rw [← S_congr (f := fun i => d i j) (fun i hi => he i hi j hj)]; exact h2 j hj
  · rw [← S_congr (f := fun i => S w (d i)) (fun i hi => r i hi)]; exact h3
theorem S_neg (n : Nat) (f : Nat → Int) : S n (fun i => -f i) = -S n f := by
  have := S_mul n (-1) f
  rw [← S_congr (f := fun i => -1 * f i) (fun i _ => by omega), this]; omega
theorem dFit_neg {h w : Nat} {b : Int} {d : Nat → Nat → Int} (hd : dFit h w b d) : dFit h w b (fun i j => -d i j) := by
  obtain ⟨h1, h2, h3⟩ := hd
  refine ⟨fun i hi => ?_, fun j hj => ?_, ?_⟩
  · have := h1 i hi; rw [S_neg w (d i)]; omega
  · have := h2 j hj; rw [S_neg h (fun i => d i j)]; omega
  · rw [S_congr (f := fun i => S w fun j => -d i j) (g := fun i => -S w (d i)) (fun i _ => S_neg w (d i)), S_neg h (fun i => S w (d i))]; omega
theorem dFit_swap {h w : Nat} {b : Int} {d : Nat → Nat → Int} (hd : dFit h w b d) : dFit w h b (fun j i => d i j) := by
  obtain ⟨h1, h2, h3⟩ := hd
  exact ⟨h2, h1, by rw [S_swap w h (fun j i => d i j)]; exact h3⟩

theorem nr_iff (b x y : Int) : nr b x y ↔ -b < x - y ∧ x - y < b := by unfold nr; omega
theorem fits_d {t y : List (List Int)} {b : Int} (h : Fits t y b) : dFit t.length (wid t 0) b (fun i j => cel t i j - cel y i j) := by
  obtain ⟨ht, _, hs, _, h1, h2, h3⟩ := h
  have hw : wid y 0 = wid t 0 := (hs.2 0 (by have := ht.1; omega)).symm
  refine ⟨fun i hi => ?_, fun j hj => ?_, ?_⟩
  · rw [S_sub, ← nr_iff]; exact h1 i hi
  · rw [S_sub t.length (fun i => cel t i j) (fun i => cel y i j), ← nr_iff]; exact h2 j hj
  · unfold totalT at h3
    rw [← hs.1, hw] at h3
    rw [S_congr (g := fun i => S (wid t 0) (cel t i) - S (wid t 0) (cel y i)) (fun i _ => S_sub _ _ _), S_sub, ← nr_iff]; exact h3
theorem fits_mk {t y : List (List Int)} {b : Int} (ht : tblOk t) (hb : 2 ≤ b ∧ b ≤ 20) (hs : same t y) (hc : cellsFit t y b) (hd : dFit t.length (wid t 0) b (fun i j => cel t i j - cel y i j)) : Fits t y b := by
  have hw : wid y 0 = wid t 0 := (hs.2 0 (by have := ht.1; omega)).symm
  obtain ⟨h1, h2, h3⟩ := hd
  refine ⟨ht, hb, hs, hc, fun i hi => ?_, fun j hj => ?_, ?_⟩
  · have := h1 i hi; rw [S_sub, ← nr_iff] at this; exact this
  · have := h2 j hj; rw [S_sub t.length (fun i => cel t i j) (fun i => cel y i j), ← nr_iff] at this; exact this
  · unfold totalT
    rw [← hs.1, hw]
    rw [S_congr (g := fun i => S (wid t 0) (cel t i) - S (wid t 0) (cel y i)) (fun i _ => S_sub _ _ _), S_sub, ← nr_iff] at h3; exact h3

theorem same_mk {t : List (List Int)} (ht : tblOk t) (f : Nat → Nat → Int) : same t (mkT t.length (wid t 0) f) := ⟨(mkT_len _ _ _).symm, fun i hi => by rw [mkT_wid hi]; exact (ht.2.2.2.2 i hi).1⟩

/-- every small table has a rounding -/
theorem round_exists {t : List (List Int)} {b : Int} (ht : tblOk t) (hb : 2 ≤ b) (hb2 : b ≤ 20) : ∃ y, Fits t y b := by
  obtain ⟨u, h1, h2, h3, h4⟩ := ups t.length (wid t 0) b (by omega) (fun i j => cel t i j % b) (fun i j _ _ => ⟨Int.emod_nonneg _ (by omega), Int.emod_lt_of_pos _ (by omega)⟩)
  have hd : dFit t.length (wid t 0) b (fun i j => cel t i j % b - u i j) := by
    refine ⟨fun i hi => ?_, fun j hj => ?_, ?_⟩
    · have := h2 i hi; rw [S_sub]; omega
    · have := h3 j hj; rw [S_sub t.length (fun i => cel t i j % b) (fun i => u i j)]; omega
    · rw [S_congr (g := fun i => S (wid t 0) (fun j => cel t i j % b) - S (wid t 0) (u i)) (fun i _ => S_sub _ _ _), S_sub]; omega
  refine ⟨mkT t.length (wid t 0) (fun i j => dn b (cel t i j) + u i j), fits_mk ht ⟨hb, hb2⟩ (same_mk ht _) (fun i hi j hj => ?_) (dFit_congr (fun i hi j hj => ?_) hd)⟩
  · rw [mkT_cel hi hj]
    obtain ⟨a, c⟩ := h1 i j hi hj
    unfold cOk
    rcases a with a | a
    · left; omega
    · right
      refine ⟨by omega, fun e => ?_⟩
      have : cel t i j % b = 0 := by unfold dn at e; omega
      have := c this
      omega
  · rw [mkT_cel hi hj]; unfold dn; omega
theorem cnt_pos {t : List (List Int)} {b : Int} (ht : tblOk t) (hb : 2 ≤ b) (hb2 : b ≤ 20) : 1 ≤ cntR t b := by
  obtain ⟨y, hy⟩ := round_exists ht hb hb2
  exact List.length_pos_of_mem ((round_mem ht hb hb2).2 hy)

/-- the number of cells that are no multiples -/
def oddN (t : List (List Int)) (b : Int) : Nat → Nat → Nat
  | 0, _ => 0
  | n + 1, p => oddN t b n (p + 1) + if cel t (p / wid t 0) (p % wid t 0) = dn b (cel t (p / wid t 0) (p % wid t 0)) then 0 else 1
theorem fill_le (t : List (List Int)) (b : Int) : ∀ (n p : Nat) (x : List (List Int)), (fillL t b n p x).length ≤ 2 ^ oddN t b n p
  | 0, p, x => by unfold fillL oddN; split <;> simp
  | n + 1, p, x => by
    unfold fillL oddN
    rw [List.length_append]
    have h1 := fill_le t b n (p + 1) (setT x (p / wid t 0) (p % wid t 0) (dn b (cel t (p / wid t 0) (p % wid t 0))))
    have h2 := fill_le t b n (p + 1) (setT x (p / wid t 0) (p % wid t 0) (dn b (cel t (p / wid t 0) (p % wid t 0)) + b))
    split
    · simp only [List.length_nil, Nat.add_zero]; exact h1
    · rw [Nat.pow_succ]; omega

/-! ### turned -/
def turnT (t : List (List Int)) : List (List Int) := mkT (wid t 0) t.length (fun i j => cel t j i)
theorem turn_ok {t : List (List Int)} (ht : tblOk t) : tblOk (turnT t) := by
  obtain ⟨h1, h2, h3, h4, h5⟩ := ht
  have w0 : wid (turnT t) 0 = t.length := mkT_wid (by omega)
  refine ⟨by rw [turnT, mkT_len]; exact h3, by rw [turnT, mkT_len]; exact h4, by rw [w0]; exact h1, by rw [w0]; exact h2, fun i hi => ?_⟩
  rw [turnT, mkT_len] at hi
  rw [w0]
  refine ⟨mkT_wid hi, fun j hj => ?_⟩
  rw [turnT, mkT_cel hi hj]; exact (h5 j hj).2 i hi
theorem turn_fits {t y : List (List Int)} {b : Int} (h : Fits t y b) : Fits (turnT t) (turnT y) b := by
  have hd := fits_d h
  obtain ⟨ht, hb, hs, hc, _⟩ := h
  have hw : wid y 0 = wid t 0 := (hs.2 0 (by have := ht.1; omega)).symm
  have e1 : (turnT t).length = wid t 0 := mkT_len _ _ _
  have e2 : wid (turnT t) 0 = t.length := mkT_wid (by have := ht.2.2.1; omega)
  have ey : turnT y = mkT (wid t 0) t.length (fun i j => cel y j i) := by unfold turnT; rw [hw, hs.1]
  refine fits_mk (turn_ok ht) hb ⟨by rw [e1, ey, mkT_len], fun i hi => ?_⟩ (fun i hi j hj => ?_) ?_
  · rw [e1] at hi; rw [ey, mkT_wid hi]; exact mkT_wid hi
  · rw [e1] at hi; rw [e2] at hj
    rw [ey, mkT_cel hi hj, turnT, mkT_cel hi hj]; exact hc j hj i hi
  · rw [e1, e2]
    refine dFit_congr (fun i hi j hj => ?_) (dFit_swap hd)
    rw [ey, mkT_cel hi hj, turnT, mkT_cel hi hj]
theorem turn_turn {t y : List (List Int)} (ht : tblOk t) (hs : same t y) : turnT (turnT y) = y := by
  have hw : wid y 0 = wid t 0 := (hs.2 0 (by have := ht.1; omega)).symm
  have hl : 1 ≤ y.length := by rw [← hs.1]; exact ht.1
  have e1 : (turnT y).length = wid y 0 := mkT_len _ _ _
  have e2 : wid (turnT y) 0 = y.length := mkT_wid (by rw [hw]; have := ht.2.2.1; omega)
  have eq : ∀ i, i < y.length → wid y i = wid y 0 := fun i hi => by
    rw [← hs.1] at hi
    rw [← hs.2 i hi, hw]; exact (ht.2.2.2.2 i hi).1
  have e3 : turnT (turnT y) = mkT y.length (wid y 0) (fun i j => cel (turnT y) j i) := by
    show mkT (wid (turnT y) 0) (turnT y).length _ = _
    rw [e1, e2]
  rw [e3]
  refine tab_ext ⟨mkT_len _ _ _, fun i hi => ?_⟩ (fun i j hi hj => ?_)
  · rw [mkT_len] at hi; rw [mkT_wid hi, eq i hi]
  · rw [mkT_len] at hi
    rw [mkT_wid hi] at hj
    rw [mkT_cel hi hj, turnT, mkT_cel hj hi]
theorem turn_inj {t y z : List (List Int)} {b : Int} (hy : Fits t y b) (hz : Fits t z b) (h : turnT y = turnT z) : y = z := by
  rw [← turn_turn hy.1 hy.2.2.1, h, turn_turn hz.1 hz.2.2.1]
theorem cnt_turn {t : List (List Int)} {b : Int} (ht : tblOk t) (hb : 2 ≤ b) (hb2 : b ≤ 20) : cntR (turnT t) b = cntR t b := by
  have hr := turn_turn ht (same_refl t)
  refine Nat.le_antisymm (cnt_le (turn_ok ht) ht hb hb2 turnT (fun y hy => ?_) (fun y z => turn_inj)) (cnt_le ht (turn_ok ht) hb hb2 turnT (fun y => turn_fits) (fun y z => turn_inj))
  have := turn_fits hy
  rwa [hr] at this

/-! ### another table, its cells reached by a map of each cell's rounding -/
theorem cnt_same {t t' : List (List Int)} {b : Int} (ht : tblOk t) (ht' : tblOk t') (hb : 2 ≤ b) (hb2 : b ≤ 20) (hs : same t t') (g g' : Nat → Nat → Int → Int)
    (h1 : ∀ i, i < t.length → ∀ j, j < wid t 0 → ∀ y, cOk b (cel t i j) y → cOk b (cel t' i j) (g i j y) ∧ (∀ z, cOk b (cel t i j) z → g i j y = g i j z → y = z))
    (h2 : ∀ i, i < t.length → ∀ j, j < wid t 0 → ∀ y, cOk b (cel t' i j) y → cOk b (cel t i j) (g' i j y) ∧ (∀ z, cOk b (cel t' i j) z → g' i j y = g' i j z → y = z))
    (σ : Int) (hσ : σ = 1 ∨ σ = -1) (d1 : ∀ i, i < t.length → ∀ j, j < wid t 0 → ∀ y, cOk b (cel t i j) y → cel t' i j - g i j y = σ * (cel t i j - y))
    (d2 : ∀ i, i < t.length → ∀ j, j < wid t 0 → ∀ y, cOk b (cel t' i j) y → cel t i j - g' i j y = σ * (cel t' i j - y)) : cntR t b = cntR t' b := by
  have hw : wid t' 0 = wid t 0 := (hs.2 0 (by have := ht.1; omega)).symm
  have key : ∀ {p p' : List (List Int)} (hp : tblOk p) (hp' : tblOk p') (hps : same p p') (g : Nat → Nat → Int → Int) 
      (h1 : ∀ i, i < p.length → ∀ j, j < wid p 0 → ∀ y, cOk b (cel p i j) y → cOk b (cel p' i j) (g i j y) ∧ (∀ z, cOk b (cel p i j) z → g i j y = g i j z → y = z))
      (d1 : ∀ i, i < p.length → ∀ j, j < wid p 0 → ∀ y, cOk b (cel p i j) y → cel p' i j - g i j y = σ * (cel p i j - y)), cntR p b ≤ cntR p' b := by
    intro p p' hp hp' hps g h1 d1
    have hw : wid p' 0 = wid p 0 := (hps.2 0 (by have := hp.1; omega)).symm
    refine cnt_le hp hp' hb hb2 (fun y => mkT p.length (wid p 0) (fun i j => g i j (cel y i j))) (fun y hy => ?_) (fun y z hy hz e => ?_)
    · have hd := fits_d hy
      obtain ⟨_, _, _, hc, _⟩ := hy
      refine fits_mk hp' ⟨hb, hb2⟩ ⟨by rw [mkT_len]; exact hps.1.symm, fun i hi => by rw [← hps.1] at hi; rw [mkT_wid hi, ← hps.2 i hi]; exact (hp.2.2.2.2 i hi).1⟩ (fun i hi j hj => ?_) ?_
      · rw [← hps.1] at hi; rw [hw] at hj
        rw [mkT_cel hi hj]; exact (h1 i hi j hj _ (hc i hi j hj)).1
      · rw [← hps.1, hw]
        have hd2 : dFit p.length (wid p 0) b (fun i j => σ * (cel p i j - cel y i j)) := by
          rcases hσ with rfl | rfl
          · exact dFit_congr (fun _ _ _ _ => by omega) hd
          · exact dFit_congr (fun _ _ _ _ => by omega) (dFit_neg hd)
        refine dFit_congr (fun i hi j hj => ?_) hd2
        rw [mkT_cel hi hj, d1 i hi j hj _ (hc i hi j hj)]
    · obtain ⟨_, _, hsy, hcy, _⟩ := hy
      obtain ⟨_, _, hsz, hcz, _⟩ := hz
      refine tab_ext ⟨hsy.1.symm.trans hsz.1, fun i hi => by rw [← hsy.1] at hi; exact (hsy.2 i hi).symm.trans (hsz.2 i hi)⟩ (fun i j hi hj => ?_)
      rw [← hsy.1] at hi
      rw [← hsy.2 i hi, (hp.2.2.2.2 i hi).1] at hj
      refine (h1 i hi j hj _ (hcy i hi j hj)).2 _ (hcz i hi j hj) ?_
      have := congrArg (fun t => cel t i j) e
      rwa [mkT_cel hi hj, mkT_cel hi hj] at this
  refine Nat.le_antisymm (key ht ht' hs g h1 d1) (key ht' ht ⟨hs.1.symm, fun i hi => (hs.2 i (by rw [hs.1]; exact hi)).symm⟩ g' ?_ ?_)
  · intro i hi j hj; rw [← hs.1] at hi; rw [hw] at hj; exact h2 i hi j hj
  · intro i hi j hj; rw [← hs.1] at hi; rw [hw] at hj; exact d2 i hi j hj

/-- what is rounded up can be rounded down -/
def reflC (b c : Int) : Int := if c = dn b c then c else dn b c + (b - (c - dn b c))
theorem dn_refl {b c : Int} (hb : 2 ≤ b) (hc : 0 ≤ c) : dn b (reflC b c) = dn b c ∧ (reflC b c = dn b (reflC b c) ↔ c = dn b c) := by
  have h := dn_bd hb hc
  unfold reflC
  split
  · rename_i e
    exact ⟨rfl, Iff.rfl⟩
  · rename_i e
    have h1 : dn b (dn b c + (b - (c - dn b c))) = dn b c := by
      have e1 : dn b c = b * (c / b) := by unfold dn; have := Int.emod_add_mul_ediv c b; omega
      have e2 : (dn b c + (b - (c - dn b c))) % b = b - (c - dn b c) := by
        rw [e1, Int.add_comm, Int.add_mul_emod_self_left, ← e1]
        exact Int.emod_eq_of_lt (by omega) (by omega)
      unfold dn at e2 ⊢
      rw [e2]; omega
    rw [h1]
    exact ⟨rfl, by omega⟩
theorem cnt_other {t t' : List (List Int)} {b : Int} (ht : tblOk t) (ht' : tblOk t') (hb : 2 ≤ b) (hb2 : b ≤ 20) (hs : same t t') (hc : ∀ i, i < t.length → ∀ j, j < wid t 0 → cel t' i j = reflC b (cel t i j)) : cntR t b = cntR t' b := by
  have A : ∀ c y, 0 ≤ c → (cOk b c y → cOk b (reflC b c) (if c = dn b c then y else 2 * dn b c + b - y)) ∧ (cOk b (reflC b c) y → cOk b c (if c = dn b c then y else 2 * dn b c + b - y)) := by
    intro c y h0
    obtain ⟨a1, a2⟩ := dn_refl hb h0
    unfold cOk
    rw [a1]
    rw [a1] at a2
    by_cases e : c = dn b c
    · have e2 := a2.2 e
      rw [if_pos e]
      omega
    · have e2 : ¬ reflC b c = dn b c := fun h => e (a2.1 h)
      rw [if_neg e]
      omega
  have D : ∀ c y, 0 ≤ c → (cOk b c y → reflC b c - (if c = dn b c then y else 2 * dn b c + b - y) = -1 * (c - y)) ∧ (cOk b (reflC b c) y → c - (if c = dn b c then y else 2 * dn b c + b - y) = -1 * (reflC b c - y)) := by
    intro c y h0
    obtain ⟨a1, a2⟩ := dn_refl hb h0
    have e0 : reflC b c = if c = dn b c then c else dn b c + (b - (c - dn b c)) := rfl
    unfold cOk
    rw [a1]
    by_cases e : c = dn b c
    · rw [if_pos e] at e0 ⊢
      omega
    · rw [if_neg e] at e0 ⊢
      omega
  have h0 : ∀ i, i < t.length → ∀ j, j < wid t 0 → 0 ≤ cel t i j := fun i hi j hj => ((ht.2.2.2.2 i hi).2 j hj).1
  refine cnt_same ht ht' hb hb2 hs (fun i j y => if cel t i j = dn b (cel t i j) then y else 2 * dn b (cel t i j) + b - y) (fun i j y => if cel t i j = dn b (cel t i j) then y else 2 * dn b (cel t i j) + b - y) ?_ ?_ (-1) (.inr rfl) ?_ ?_
  · intro i hi j hj y hy
    rw [hc i hi j hj]
    refine ⟨(A _ y (h0 i hi j hj)).1 hy, fun z _ e => ?_⟩
    split at e <;> omega
  · intro i hi j hj y hy
    rw [hc i hi j hj] at hy
    refine ⟨(A _ y (h0 i hi j hj)).2 hy, fun z _ e => ?_⟩
    split at e <;> omega
  · intro i hi j hj y hy
    rw [hc i hi j hj]
    exact (D _ y (h0 i hi j hj)).1 hy
  · intro i hi j hj y hy
    rw [hc i hi j hj] at hy ⊢
    exact (D _ y (h0 i hi j hj)).2 hy

/-- multiples are added -/
theorem dn_add {b c : Int} : dn b (c + b) = dn b c + b := by
  unfold dn; rw [Int.add_emod_right]; omega
theorem cnt_shift {t t' : List (List Int)} {b : Int} (ht : tblOk t) (ht' : tblOk t') (hb : 2 ≤ b) (hb2 : b ≤ 20) (hs : same t t') (p q : Nat)
    (hc : ∀ i, i < t.length → ∀ j, j < wid t 0 → cel t' i j = if i = p ∧ j = q then cel t i j + b else cel t i j) : cntR t b = cntR t' b := by
  refine cnt_same ht ht' hb hb2 hs (fun i j y => if i = p ∧ j = q then y + b else y) (fun i j y => if i = p ∧ j = q then y - b else y) ?_ ?_ 1 (.inl rfl) ?_ ?_
  · intro i hi j hj y hy
    rw [hc i hi j hj]
    unfold cOk at hy ⊢
    split
    · rw [dn_add]; exact ⟨by omega, fun z _ e => by omega⟩
    · exact ⟨hy, fun z _ e => e⟩
  · intro i hi j hj y hy
    rw [hc i hi j hj] at hy
    unfold cOk at hy ⊢
    split
    · rename_i e
      rw [if_pos e, dn_add] at hy; exact ⟨by omega, fun z _ e => by omega⟩
    · rename_i e
      rw [if_neg e] at hy; exact ⟨hy, fun z _ e => e⟩
  · intro i hi j hj y hy
    rw [hc i hi j hj]
    split <;> omega
  · intro i hi j hj y hy
    rw [hc i hi j hj]
    split <;> omega

/-! ### rows in another order -/
theorem S_last (n : Nat) (f : Nat → Int) : S (n + 1) (fun i => if i = 0 then f n else f (i - 1)) = S (n + 1) f := by
  have h : ∀ m, S (m + 1) (fun i => if i = 0 then f n else f (i - 1)) = f n + S m f := by
    intro m
    induction m with
    | zero => simp [S]
    | succ m ih =>
      show S (m + 1) _ + _ = _
      rw [ih]; simp only [S]; rw [if_neg (by omega)]; simp; omega
  rw [h n]; show f n + S n f = S n f + f n; omega
/-- the last row first -/
def lastT (t : List (List Int)) : List (List Int) := (t[t.length - 1]?.getD []) :: t.take (t.length - 1)
theorem last_len {t : List (List Int)} (h : 1 ≤ t.length) : (lastT t).length = t.length := by simp [lastT]; omega
theorem last_row {t : List (List Int)} {i : Nat} (hi : i < t.length) : (lastT t)[i]?.getD [] = if i = 0 then t[t.length - 1]?.getD [] else t[i - 1]?.getD [] := by
  cases i with
  | zero => simp [lastT]
  | succ i => simp only [lastT, List.getElem?_cons_succ, List.getElem?_take]; rw [if_pos (by omega)]; simp
theorem last_cel {t : List (List Int)} {i : Nat} (hi : i < t.length) (j : Nat) : cel (lastT t) i j = if i = 0 then cel t (t.length - 1) j else cel t (i - 1) j := by
  unfold cel; rw [last_row hi]; split <;> rfl
theorem last_wid {t : List (List Int)} {i : Nat} (hi : i < t.length) : wid (lastT t) i = if i = 0 then wid t (t.length - 1) else wid t (i - 1) := by
  unfold wid; rw [last_row hi]; split <;> rfl
theorem last_wid0 {t : List (List Int)} (ht : tblOk t) {i : Nat} (hi : i < t.length) : wid (lastT t) i = wid t 0 := by
  rw [last_wid hi]
  split
  · exact (ht.2.2.2.2 _ (by omega)).1
  · exact (ht.2.2.2.2 _ (by omega)).1
theorem last_ok {t : List (List Int)} (ht : tblOk t) : tblOk (lastT t) := by
  have h1 := ht.1
  have hl := last_len h1
  have hw := last_wid0 ht (i := 0) (by omega)
  refine ⟨by rw [hl]; exact h1, by rw [hl]; exact ht.2.1, by rw [hw]; exact ht.2.2.1, by rw [hw]; exact ht.2.2.2.1, fun i hi => ?_⟩
  rw [hl] at hi
  rw [hw]
  refine ⟨last_wid0 ht hi, fun j hj => ?_⟩
  rw [last_cel hi]
  split
  · exact (ht.2.2.2.2 _ (by omega)).2 j hj
  · exact (ht.2.2.2.2 _ (by omega)).2 j hj
theorem dFit_last {h w : Nat} {b : Int} {d : Nat → Nat → Int} (hd : dFit (h + 1) w b d) : dFit (h + 1) w b (fun i => if i = 0 then d h else d (i - 1)) := by
  obtain ⟨h1, h2, h3⟩ := hd
  refine ⟨fun i hi => ?_, fun j hj => ?_, ?_⟩
  · simp only
    split
    · exact h1 h (by omega)
    · exact h1 (i - 1) (by omega)
  · have := S_last h (fun i => d i j)
    rw [S_congr (f := fun i => (if i = 0 then d h else d (i - 1)) j) (g := fun i => if i = 0 then d h j else d (i - 1) j) (fun i _ => by split <;> rfl), this]
    exact h2 j hj
  · have := S_last h (fun i => S w (d i))
    rw [S_congr (f := fun i => S w (if i = 0 then d h else d (i - 1))) (g := fun i => if i = 0 then S w (d h) else S w (d (i - 1))) (fun i _ => by split <;> rfl), this]
    exact h3
theorem last_fits {t y : List (List Int)} {b : Int} (h : Fits t y b) : Fits (lastT t) (lastT y) b := by
  have hd := fits_d h
  obtain ⟨ht, hb, hs, hc, _⟩ := h
  have h1 := ht.1
  have hl := last_len h1
  have hy1 : 1 ≤ y.length := by rw [← hs.1]; exact h1
  have hly := last_len hy1
  refine fits_mk (last_ok ht) hb ⟨by rw [hl, hly]; exact hs.1, fun i hi => ?_⟩ (fun i hi j hj => ?_) ?_
  · rw [hl] at hi
    rw [last_wid hi, last_wid (by rw [← hs.1]; exact hi), ← hs.1]
    split
    · exact hs.2 _ (by omega)
    · exact hs.2 _ (by omega)
  · rw [hl] at hi
    rw [last_wid0 ht (by omega)] at hj
    rw [last_cel hi, last_cel (by rw [← hs.1]; exact hi), ← hs.1]
    split
    · exact hc _ (by omega) j hj
    · exact hc _ (by omega) j hj
  · rw [hl, last_wid0 ht (by omega)]
    obtain ⟨h, e⟩ : ∃ h, t.length = h + 1 := ⟨t.length - 1, by omega⟩
    rw [e] at hd ⊢
    refine dFit_congr (fun i hi j hj => ?_) (dFit_last hd)
    rw [last_cel (by omega), last_cel (by rw [← hs.1]; omega), ← hs.1, e]
    simp only [Nat.add_sub_cancel]
    split <;> rfl
theorem last_inj {t y z : List (List Int)} {b : Int} (hy : Fits t y b) (hz : Fits t z b) (h : lastT y = lastT z) : y = z := by
  obtain ⟨ht, _, hsy, _⟩ := hy
  obtain ⟨_, _, hsz, _⟩ := hz
  have e : y.length = z.length := hsy.1.symm.trans hsz.1
  have h1 : 1 ≤ y.length := by rw [← hsy.1]; exact ht.1
  refine List.ext_getElem? (fun i => ?_)
  by_cases hi : i < y.length
  · have hrow : y[i]?.getD [] = z[i]?.getD [] := by
      by_cases el : i = y.length - 1
      · have a := last_row (t := y) (i := 0) (by omega)
        have b := last_row (t := z) (i := 0) (by omega)
        rw [h, b] at a
        simp only [if_true] at a
        rw [el, ← a, e]
      · have a := last_row (t := y) (i := i + 1) (by omega)
        have b := last_row (t := z) (i := i + 1) (by omega)
        rw [h, b] at a
        simp only [Nat.add_sub_cancel] at a
        simpa using a.symm
    rw [List.getElem?_eq_getElem hi, List.getElem?_eq_getElem (by omega)] at hrow ⊢
    simpa using hrow
  · rw [List.getElem?_eq_none (by omega), List.getElem?_eq_none (by omega)]
/-- turned h times it is as before: so the numbers are equal -/
theorem cnt_last_le {t : List (List Int)} {b : Int} (ht : tblOk t) (hb : 2 ≤ b) (hb2 : b ≤ 20) : cntR t b ≤ cntR (lastT t) b :=
  cnt_le ht (last_ok ht) hb hb2 lastT (fun _ => last_fits) (fun _ _ => last_inj)
def lastN : Nat → List (List Int) → List (List Int)
  | 0, t => t
  | n + 1, t => lastT (lastN n t)
theorem lastT_snoc (l : List (List Int)) (a : List Int) : lastT (l ++ [a]) = a :: l := by simp [lastT]
theorem lastN_app : ∀ (m l : List (List Int)), lastN m.length (l ++ m) = m ++ l
  | [], l => by simp [lastN]
  | a :: m, l => by
    have := lastN_app m (l ++ [a])
    rw [List.append_assoc] at this
    simp only [List.length_cons, lastN]
    rw [show l ++ a :: m = l ++ ([a] ++ m) from rfl, this, ← List.append_assoc, lastT_snoc, List.cons_append]
theorem lastN_cyc {t : List (List Int)} : lastN t.length t = t := by
  have := lastN_app t []
  simpa using this
theorem lastN_ok {t : List (List Int)} (ht : tblOk t) : ∀ n, tblOk (lastN n t)
  | 0 => ht
  | n + 1 => last_ok (lastN_ok ht n)
theorem lastN_le {t : List (List Int)} {b : Int} (ht : tblOk t) (hb : 2 ≤ b) (hb2 : b ≤ 20) : ∀ n, cntR (lastT t) b ≤ cntR (lastN (n + 1) t) b
  | 0 => Nat.le_refl _
  | n + 1 => Nat.le_trans (lastN_le ht hb hb2 n) (cnt_last_le (lastN_ok ht (n + 1)) hb hb2)
theorem cnt_last {t : List (List Int)} {b : Int} (ht : tblOk t) (hb : 2 ≤ b) (hb2 : b ≤ 20) : cntR (lastT t) b = cntR t b := by
  refine Nat.le_antisymm ?_ (cnt_last_le ht hb hb2)
  have h1 := ht.1
  obtain ⟨h, e⟩ : ∃ h, t.length = h + 1 := ⟨t.length - 1, by omega⟩
  have := lastN_le ht hb hb2 h
  rw [← e, lastN_cyc] at this
  exact this

end Go.Proofs.Ytdlpcoafbmhjjaa
