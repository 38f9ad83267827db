/- Every small table has a rounding: an integer matrix whose rows and columns add up to multiples of b can be rounded to 0 and b. Plain; no program in sight. -/
namespace Go.Proofs.Ytdlpcoafbmhjjaa

/-- the sum of the first n values -/
def S : Nat → (Nat → Int) → Int
  | 0, _ => 0
  | n + 1, f => S n f + f n

theorem S_congr {n : Nat} {f g : Nat → Int} (h : ∀ i, i < n → f i = g i) : S n f = S n g := by
  induction n with
  | zero => rfl
  | succ n ih => simp only [S]; rw [ih (fun i hi => h i (by omega)), h n (by omega)]
theorem S_add (n : Nat) (f g : Nat → Int) : S n (fun i => f i + g i) = S n f + S n g := by
  induction n with
  | zero => rfl
  | succ n ih => simp only [S]; rw [ih]; omega
theorem S_sub (n : Nat) (f g : Nat → Int) : S n (fun i => f i - g i) = S n f - S n g := by
  induction n with
  | zero => rfl
  | succ n ih => simp only [S]; rw [ih]; omega
theorem S_zero (n : Nat) : S n (fun _ => 0) = 0 := by
  induction n with
  | zero => rfl
  | succ n ih => simp only [S]; rw [ih]; rfl
theorem S_mul (n : Nat) (c : Int) (f : Nat → Int) : S n (fun i => c * f i) = c * S n f := by
  induction n with
  | zero => simp [S]
  | succ n ih => simp only [S]; rw [ih, Int.mul_add]
theorem S_swap (n m : Nat) (f : Nat → Nat → Int) : S n (fun i => S m (f i)) = S m (fun j => S n (fun i => f i j)) := by
  induction n with
  | zero => simp only [S]; rw [S_zero]
  | succ n ih => simp only [S]; rw [ih, S_add]
theorem S_nonneg {n : Nat} {f : Nat → Int} (h : ∀ i, i < n → 0 ≤ f i) : 0 ≤ S n f := by
  induction n with
  | zero => exact Int.le_refl _
  | succ n ih =>
    have := ih (fun i hi => h i (by omega))
    have := h n (by omega)
    simp only [S]; omega
theorem S_le {n : Nat} {f : Nat → Int} {c : Int} (h : ∀ i, i < n → f i ≤ c) : S n f ≤ n * c := by
  induction n with
  | zero => simp [S]
  | succ n ih =>
    have := ih (fun i hi => h i (by omega))
    have := h n (by omega)
    simp only [S]
    have e : ((n + 1 : Nat) : Int) * c = n * c + c := by push_cast; rw [Int.add_mul]; omega
    omega
theorem S_ge_one {n : Nat} {f : Nat → Int} (h : ∀ i, i < n → 0 ≤ f i) {k : Nat} (hk : k < n) : f k ≤ S n f := by
  induction n with
  | zero => omega
  | succ n ih =>
    have h0 := S_nonneg (fun i hi => h i (by omega) : ∀ i, i < n → 0 ≤ f i)
    have hn := h n (by omega)
    simp only [S]
    by_cases e : k = n
    · subst e; omega
    · have := ih (fun i hi => h i (by omega)) (by omega)
      omega
/-- the sum over one index alone -/
theorem S_one {n k : Nat} (hk : k < n) (c : Int) : S n (fun i => if i = k then c else 0) = c := by
  induction n with
  | zero => omega
  | succ n ih =>
    simp only [S]
    by_cases e : k = n
    · subst e
      rw [S_congr (g := fun _ => 0) (fun i hi => by rw [if_neg (by omega)]), S_zero, if_pos rfl]; omega
    · rw [ih (by omega), if_neg (by omega)]; omega

/-- of n + 1 numbers below n two are equal -/
theorem php : ∀ (n : Nat) (f : Nat → Nat), (∀ i, i ≤ n → f i < n) → ∃ i j, i < j ∧ j ≤ n ∧ f i = f j := by
  intro n
  induction n with
  | zero => intro f h; exact absurd (h 0 (Nat.le_refl _)) (by omega)
  | succ n ih =>
    intro f h
    by_cases he : ∃ i, i ≤ n ∧ f i = f (n + 1)
    · obtain ⟨i, hi, e⟩ := he
      exact ⟨i, n + 1, by omega, Nat.le_refl _, e⟩
    · have hne : ∀ i, i ≤ n → f i ≠ f (n + 1) := fun i hi e => he ⟨i, hi, e⟩
      obtain ⟨i, j, hij, hj, e⟩ := ih (fun i => if f i = n then f (n + 1) else f i) (fun i hi => by
        have h1 := h i (by omega)
        have h2 := h (n + 1) (Nat.le_refl _)
        have h3 := hne i hi
        by_cases c : f i = n
        · simp only [if_pos c]; omega
        · simp only [if_neg c]; omega)
      refine ⟨i, j, hij, by omega, ?_⟩
      have n1 := hne i (by omega)
      have n2 := hne j (by omega)
      by_cases ci : f i = n
      · by_cases cj : f j = n
        · omega
        · simp only [if_pos ci, if_neg cj] at e; exact absurd e.symm n2
      · by_cases cj : f j = n
        · simp only [if_neg ci, if_pos cj] at e; exact absurd e n1
        · simp only [if_neg ci, if_neg cj] at e; exact e

/-- the first repeat: r a = r b, the values before b all different -/
theorem first_repeat (n : Nat) (r : Nat → Nat) (h : ∀ i, r i < n) : ∃ a b, a < b ∧ r a = r b ∧ ∀ i j, i < b → j < b → r i = r j → i = j := by
  obtain ⟨i, j, hij, _, e⟩ := php n r (fun i _ => h i)
  have : ∀ m, (∃ a b, a < b ∧ b ≤ m ∧ r a = r b) → ∃ a b, a < b ∧ r a = r b ∧ ∀ i j, i < b → j < b → r i = r j → i = j := by
    intro m
    induction m with
    | zero => rintro ⟨a, b, h1, h2, _⟩; omega
    | succ m ih =>
      rintro ⟨a, b, h1, h2, h3⟩
      by_cases c : ∃ a b, a < b ∧ b ≤ m ∧ r a = r b
      · exact ih c
      · refine ⟨a, b, h1, h3, fun i j hi hj e => ?_⟩
        have hb : b = m + 1 := by
          by_cases hb : b = m + 1
          · exact hb
          · exact absurd ⟨a, b, h1, by omega, h3⟩ c
        subst hb
        by_cases l : i < j
        · exact absurd ⟨i, j, l, by omega, e⟩ c
        · by_cases g : j < i
          · exact absurd ⟨j, i, g, by omega, e.symm⟩ c
          · omega
  exact this j ⟨i, j, hij, Nat.le_refl _, e⟩

/-- one, or none -/
def one (p : Prop) [Decidable p] : Int := if p then 1 else 0

/-- in a pattern whose rows and columns have no lone cell there is a closed walk: numbers -1, 0, 1 on the pattern, not all 0, that add up to 0 in each row and column -/
theorem cycle (n m : Nat) (F : Nat → Nat → Prop)
    (hr : ∀ i j, i < n → j < m → F i j → ∃ j', j' < m ∧ j' ≠ j ∧ F i j') (hc : ∀ i j, i < n → j < m → F i j → ∃ i', i' < n ∧ i' ≠ i ∧ F i' j)
    (i0 j0 : Nat) (hi0 : i0 < n) (hj0 : j0 < m) (h0 : F i0 j0) :
    ∃ D : Nat → Nat → Int, (∀ i j, -1 ≤ D i j ∧ D i j ≤ 1) ∧ (∀ i j, D i j ≠ 0 → i < n ∧ j < m ∧ F i j) ∧ (∀ i, i < n → S m (D i) = 0) ∧ (∀ j, j < m → S n (fun i => D i j) = 0) ∧ ∃ i j, i < n ∧ j < m ∧ D i j ≠ 0 := by
  -- the walk: (row, column) on the pattern; the next row in the column, the next column in that row
  have step : ∀ p : { p : Nat × Nat // p.1 < n ∧ p.2 < m ∧ F p.1 p.2 }, ∃ q : { p : Nat × Nat // p.1 < n ∧ p.2 < m ∧ F p.1 p.2 }, q.1.1 ≠ p.1.1 ∧ q.1.2 ≠ p.1.2 ∧ F q.1.1 p.1.2 := by
    rintro ⟨⟨i, j⟩, hi, hj, hf⟩
    obtain ⟨i', hi', ne, hf'⟩ := hc i j hi hj hf
    obtain ⟨j', hj', ne', hf''⟩ := hr i' j hi' hj hf'
    exact ⟨⟨(i', j'), hi', hj', hf''⟩, ne, ne', hf'⟩
  let nx : { p : Nat × Nat // p.1 < n ∧ p.2 < m ∧ F p.1 p.2 } → { p : Nat × Nat // p.1 < n ∧ p.2 < m ∧ F p.1 p.2 } := fun p => (step p).choose
  have hnx : ∀ p, (nx p).1.1 ≠ p.1.1 ∧ (nx p).1.2 ≠ p.1.2 ∧ F (nx p).1.1 p.1.2 := fun p => (step p).choose_spec
  let wk : Nat → { p : Nat × Nat // p.1 < n ∧ p.2 < m ∧ F p.1 p.2 } := fun k => Nat.rec ⟨(i0, j0), hi0, hj0, h0⟩ (fun _ p => nx p) k
  have hwk : ∀ k, wk (k + 1) = nx (wk k) := fun k => rfl
  obtain ⟨r, hrr⟩ : ∃ r : Nat → Nat, ∀ k, r k = (wk k).1.1 := ⟨fun k => (wk k).1.1, fun _ => rfl⟩
  obtain ⟨c, hcc⟩ : ∃ c : Nat → Nat, ∀ k, c k = (wk k).1.2 := ⟨fun k => (wk k).1.2, fun _ => rfl⟩
  have f1 : ∀ k, r k < n := fun k => by rw [hrr]; exact (wk k).2.1
  have f2 : ∀ k, c k < m := fun k => by rw [hcc]; exact (wk k).2.2.1
  have f3 : ∀ k, F (r k) (c k) := fun k => by rw [hrr, hcc]; exact (wk k).2.2.2
  have f4 : ∀ k, r (k + 1) ≠ r k := fun k => by rw [hrr, hrr, hwk]; exact (hnx (wk k)).1
  have f5 : ∀ k, c (k + 1) ≠ c k := fun k => by rw [hcc, hcc, hwk]; exact (hnx (wk k)).2.1
  have f6 : ∀ k, F (r (k + 1)) (c k) := fun k => by rw [hrr, hcc, hwk]; exact (hnx (wk k)).2.2
  clear_value wk nx
  clear hwk hnx hrr hcc wk nx step
  obtain ⟨a, b, hab, hrab, hinj⟩ := first_repeat n r f1
  -- the length of the walk
  have hab2 : a + 2 ≤ b := by
    by_cases e : b = a + 1
    · subst e; exact absurd hrab.symm (f4 a)
    · omega
  let L := b - a
  let R : Nat → Nat := fun k => r (a + k)
  let C : Nat → Nat := fun k => c (a + k)
  have hinj' : ∀ k l, k < L → l < L → R k = R l → k = l := fun k l hk hl e => by
    have := hinj (a + k) (a + l) (by omega) (by omega) e
    omega
  have hend : R L = R 0 := by show r (a + (b - a)) = r (a + 0); rw [show a + (b - a) = b by omega, Nat.add_zero]; exact hrab.symm
  have hinj2 : ∀ k l, k < L → l < L → R (k + 1) = R (l + 1) → k = l := fun k l hk hl e => by
    by_cases ek : k + 1 = L
    · by_cases el : l + 1 = L
      · omega
      · rw [ek, hend] at e
        have := hinj' 0 (l + 1) (by omega) (by omega) e
        omega
    · by_cases el : l + 1 = L
      · rw [el, hend] at e
        have := hinj' (k + 1) 0 (by omega) (by omega) e
        omega
      · have := hinj' (k + 1) (l + 1) (by omega) (by omega) e
        omega
  have L2 : 2 ≤ L := by show 2 ≤ b - a; omega
  have g1 : ∀ k, R k < n := fun k => f1 _
  have g2 : ∀ k, C k < m := fun k => f2 _
  have g3 : ∀ k, F (R k) (C k) := fun k => f3 _
  have g5 : ∀ k, C (k + 1) ≠ C k := fun k => f5 (a + k)
  have g6 : ∀ k, F (R (k + 1)) (C k) := fun k => f6 (a + k)
  clear_value L R C
  clear f1 f2 f3 f4 f5 f6 hab hrab hinj hab2
  -- counts of at most one
  have cnt : ∀ (K : Nat) (P : Nat → Prop) [DecidablePred P], (∀ k l, k < K → l < K → P k → P l → k = l) → 0 ≤ S K (fun k => one (P k)) ∧ S K (fun k => one (P k)) ≤ 1 := by
    intro K
    induction K with
    | zero => intro P _ _; exact ⟨Int.le_refl _, by simp [S]⟩
    | succ K ih =>
      intro P _ hp
      have := ih P (fun k l hk hl => hp k l (by omega) (by omega))
      simp only [S]
      by_cases e : P K
      · have z : S K (fun k => one (P k)) = 0 := by
          rw [S_congr (g := fun _ => 0) (fun k hk => by unfold one; rw [if_neg]; intro pk; have := hp k K (by omega) (by omega) pk e; omega), S_zero]
        rw [z]; unfold one; rw [if_pos e]; omega
      · unfold one at this ⊢; rw [if_neg e]; omega
  have cpos : ∀ (K : Nat) (P : Nat → Prop) [DecidablePred P], S K (fun k => one (P k)) ≠ 0 → ∃ k, k < K ∧ P k := by
    intro K
    induction K with
    | zero => intro P _ h; exact absurd rfl h
    | succ K ih =>
      intro P _ h
      by_cases e : P K
      · exact ⟨K, by omega, e⟩
      · simp only [S] at h
        have : one (P K) = 0 := by unfold one; rw [if_neg e]
        rw [this] at h
        obtain ⟨k, hk, hp⟩ := ih P (by omega)
        exact ⟨k, by omega, hp⟩
  let A : Nat → Nat → Int := fun i j => S L (fun k => one (R k = i ∧ C k = j))
  let B : Nat → Nat → Int := fun i j => S L (fun k => one (R (k + 1) = i ∧ C k = j))
  have hA : ∀ i j, 0 ≤ A i j ∧ A i j ≤ 1 := fun i j => cnt L _ (fun k l hk hl pk pl => hinj' k l hk hl (by rw [pk.1, pl.1]))
  have hB : ∀ i j, 0 ≤ B i j ∧ B i j ≤ 1 := fun i j => cnt L _ (fun k l hk hl pk pl => hinj2 k l hk hl (by rw [pk.1, pl.1]))
  have rowA : ∀ i, i < n → S m (A i) = S L (fun k => one (R k = i)) := by
    intro i _
    show S m (fun j => S L (fun k => one (R k = i ∧ C k = j))) = _
    rw [S_swap]
    refine S_congr (fun k hk => ?_)
    rw [S_congr (g := fun j => if j = C k then one (R k = i) else 0) (fun j hj => ?_), S_one (g2 k)]
    unfold one
    by_cases e : j = C k
    · subst e; by_cases e2 : R k = i <;> simp [e2]
    · rw [if_neg e, if_neg (fun h => e h.2.symm)]
  have rowB : ∀ i, i < n → S m (B i) = S L (fun k => one (R (k + 1) = i)) := by
    intro i _
    show S m (fun j => S L (fun k => one (R (k + 1) = i ∧ C k = j))) = _
    rw [S_swap]
    refine S_congr (fun k hk => ?_)
    rw [S_congr (g := fun j => if j = C k then one (R (k + 1) = i) else 0) (fun j hj => ?_), S_one (g2 k)]
    unfold one
    by_cases e : j = C k
    · subst e; by_cases e2 : R (k + 1) = i <;> simp [e2]
    · rw [if_neg e, if_neg (fun h => e h.2.symm)]
  have colA : ∀ j, S n (fun i => A i j) = S L (fun k => one (C k = j)) := by
    intro j
    show S n (fun i => S L (fun k => one (R k = i ∧ C k = j))) = _
    rw [S_swap]
    refine S_congr (fun k hk => ?_)
    rw [S_congr (g := fun i => if i = R k then one (C k = j) else 0) (fun i hi => ?_), S_one (g1 k)]
    unfold one
    by_cases e : i = R k
    · subst e; by_cases e2 : C k = j <;> simp [e2]
    · rw [if_neg e, if_neg (fun h => e h.1.symm)]
  have colB : ∀ j, S n (fun i => B i j) = S L (fun k => one (C k = j)) := by
    intro j
    show S n (fun i => S L (fun k => one (R (k + 1) = i ∧ C k = j))) = _
    rw [S_swap]
    refine S_congr (fun k hk => ?_)
    rw [S_congr (g := fun i => if i = R (k + 1) then one (C k = j) else 0) (fun i hi => ?_), S_one (g1 (k + 1))]
    unfold one
    by_cases e : i = R (k + 1)
    · subst e; by_cases e2 : C k = j <;> simp [e2]
    · rw [if_neg e, if_neg (fun h => e h.1.symm)]
  -- a sum that moves on by one
  have shift : ∀ (K : Nat) (f : Nat → Int), S K (fun k => f (k + 1)) + f 0 = S K f + f K := by
    intro K f
    induction K with
    | zero => simp [S]
    | succ K ih => simp only [S]; omega
  refine ⟨fun i j => A i j - B i j, fun i j => by have := hA i j; have := hB i j; show -1 ≤ A i j - B i j ∧ A i j - B i j ≤ 1; omega, ?_, ?_, ?_, ?_⟩
  · intro i j hne
    by_cases e : A i j = 0
    · have : B i j ≠ 0 := fun e2 => hne (by show A i j - B i j = 0; omega)
      obtain ⟨k, hk, e1, e2⟩ := cpos L _ this
      rw [← e1, ← e2]; exact ⟨g1 _, g2 _, g6 k⟩
    · obtain ⟨k, hk, e1, e2⟩ := cpos L _ e
      rw [← e1, ← e2]; exact ⟨g1 _, g2 _, g3 k⟩
  · intro i hi
    show S m (fun j => A i j - B i j) = 0
    rw [S_sub]
    have e1 := rowA i hi
    have e2 := rowB i hi
    have e3 := shift L (fun k => one (R k = i))
    have e4 : one (R L = i) = one (R 0 = i) := by rw [hend]
    have e5 : S m (fun j => A i j) = S m (A i) := rfl
    have e6 : S m (fun j => B i j) = S m (B i) := rfl
    omega
  · intro j _
    show S n (fun i => A i j - B i j) = 0
    rw [S_sub, colA, colB]; omega
  · refine ⟨R 1, C 1, g1 1, g2 1, ?_⟩
    show A (R 1) (C 1) - B (R 1) (C 1) ≠ 0
    have a1 : 1 ≤ A (R 1) (C 1) := by
      have := S_ge_one (n := L) (f := fun k => one (R k = R 1 ∧ C k = C 1)) (fun k _ => by unfold one; split <;> omega) (k := 1) (by omega)
      have e : one (R 1 = R 1 ∧ C 1 = C 1) = 1 := by unfold one; rw [if_pos ⟨rfl, rfl⟩]
      have t2 : one (R 1 = R 1 ∧ C 1 = C 1) ≤ A (R 1) (C 1) := this
      rw [e] at t2; exact t2
    have b0 : B (R 1) (C 1) = 0 := by
      by_cases e : B (R 1) (C 1) = 0
      · exact e
      · obtain ⟨k, hk, e1, e2⟩ := cpos L _ e
        have : k = 0 := hinj2 k 0 hk (by omega) e1
        subst this
        exact absurd e2.symm (g5 0)
    omega

theorem sq_nonneg (x : Int) : 0 ≤ x * x := by
  by_cases h : 0 ≤ x
  · exact Int.mul_nonneg h h
  · have := Int.mul_nonneg (show 0 ≤ -x by omega) (show 0 ≤ -x by omega)
    rwa [Int.neg_mul_neg] at this

/-- the sum of squares -/
def Q (n m : Nat) (A : Nat → Nat → Int) : Int := S n (fun i => S m (fun j => A i j * A i j))

theorem Q_par (n m : Nat) (A D : Nat → Nat → Int) : Q n m (fun i j => A i j + D i j) + Q n m (fun i j => A i j - D i j) = 2 * Q n m A + 2 * Q n m D := by
  unfold Q
  rw [← S_add, ← S_mul, ← S_mul, ← S_add]
  refine S_congr (fun i _ => ?_)
  rw [← S_add, ← S_mul, ← S_mul, ← S_add]
  refine S_congr (fun j _ => ?_)
  simp only [Int.add_mul, Int.mul_add, Int.sub_mul, Int.mul_sub]
  have := Int.mul_comm (A i j) (D i j)
  omega

/-- an integer matrix with entries 0 .. b, its rows and columns multiples of b, is rounded to 0 and b, all sums kept -/
theorem rounding (n m : Nat) (b : Int) (hb : 0 < b) : ∀ (g : Nat) (A : Nat → Nat → Int), (n : Int) * ((m : Int) * (b * b)) - Q n m A ≤ g →
    (∀ i j, i < n → j < m → 0 ≤ A i j ∧ A i j ≤ b) → (∀ i, i < n → S m (A i) % b = 0) → (∀ j, j < m → S n (fun i => A i j) % b = 0) →
    ∃ B : Nat → Nat → Int, (∀ i j, i < n → j < m → (B i j = 0 ∨ B i j = b) ∧ (A i j = 0 → B i j = 0) ∧ (A i j = b → B i j = b)) ∧ (∀ i, i < n → S m (B i) = S m (A i)) ∧ (∀ j, j < m → S n (fun i => B i j) = S n (fun i => A i j)) := by
  have lone : ∀ (K : Nat) (f : Nat → Int) (j : Nat), j < K → (∀ k, k < K → k ≠ j → f k = 0 ∨ f k = b) → S K f % b = 0 → f j % b = 0 := by
    intro K f j hj hall hs
    have : ∀ K', K' ≤ K → (S K' f - (if j < K' then f j else 0)) % b = 0 := by
      intro K'
      induction K' with
      | zero => intro _; simp [S]
      | succ K' ih =>
        intro hK
        have h1 := ih (by omega)
        simp only [S]
        by_cases e : j = K'
        · subst e
          rw [if_neg (by omega)] at h1
          rw [if_pos (by omega)]
          have : S j f + f j - f j = S j f - 0 := by omega
          rw [this]; exact h1
        · by_cases l : j < K'
          · rw [if_pos l] at h1
            rw [if_pos (by omega)]
            rcases hall K' (by omega) (by omega) with e1 | e1
            · rw [e1]; have : S K' f + 0 - f j = S K' f - f j := by omega
              rw [this]; exact h1
            · rw [e1]; have : S K' f + b - f j = S K' f - f j + b := by omega
              rw [this, Int.add_emod_right]; exact h1
          · rw [if_neg l] at h1
            rw [if_neg (by omega)]
            rcases hall K' (by omega) (by omega) with e1 | e1
            · rw [e1]; have : S K' f + 0 - 0 = S K' f - 0 := by omega
              rw [this]; exact h1
            · rw [e1]; have : S K' f + b - 0 = S K' f - 0 + b := by omega
              rw [this, Int.add_emod_right]; exact h1
    have h1 := this K (Nat.le_refl _)
    rw [if_pos hj] at h1
    have h2 : f j = S K f - (S K f - f j) := by omega
    rw [h2]
    have d1 := Int.dvd_of_emod_eq_zero hs
    have d2 := Int.dvd_of_emod_eq_zero h1
    exact Int.emod_eq_zero_of_dvd (Int.dvd_sub d1 d2)
  have frac : ∀ x : Int, 0 ≤ x → x ≤ b → ¬ (x = 0 ∨ x = b) → ¬ x % b = 0 := by
    intro x h0 h1 h2 h3
    rw [Int.emod_eq_of_lt h0 (by omega)] at h3
    omega
  intro g
  induction g with
  | zero =>
    intro A hg hA hr hc
    -- no entry lies strictly between: the sum of squares is greatest
    by_cases hf : ∃ i j, i < n ∧ j < m ∧ ¬ (A i j = 0 ∨ A i j = b)
    · exfalso
      obtain ⟨i, j, hi, hj, hne⟩ := hf
      have h1 : ∀ i, i < n → ∀ j, j < m → A i j * A i j ≤ b * b := fun i hi j hj => Int.mul_le_mul (hA i j hi hj).2 (hA i j hi hj).2 (hA i j hi hj).1 (by omega)
      have hlt : A i j * A i j < b * b := by
        have h0 := (hA i j hi hj).1
        have h2 := (hA i j hi hj).2
        have : A i j ≤ b - 1 := by omega
        have e1 : A i j * A i j ≤ (b - 1) * b := Int.mul_le_mul this h2 h0 (by omega)
        have e2 : (b - 1) * b = b * b - b := by rw [Int.sub_mul]; omega
        omega
      have : Q n m A < (n : Int) * ((m : Int) * (b * b)) := by
        have hrow : ∀ i', i' < n → S m (fun j => A i' j * A i' j) ≤ (m : Int) * (b * b) := fun i' hi' => S_le (fun j' hj' => h1 i' hi' j' hj')
        have hrow2 : S m (fun j => A i j * A i j) < (m : Int) * (b * b) := by
          have e := S_ge_one (n := m) (f := fun j' => b * b - A i j' * A i j') (fun j' hj' => by have := h1 i hi j' hj'; omega) hj
          rw [S_sub] at e
          have e2 : S m (fun _ => b * b) ≤ (m : Int) * (b * b) := S_le (fun _ _ => Int.le_refl _)
          omega
        unfold Q
        have e := S_ge_one (n := n) (f := fun i' => (m : Int) * (b * b) - S m (fun j => A i' j * A i' j)) (fun i' hi' => by have := hrow i' hi'; omega) hi
        rw [S_sub] at e
        have e2 : S n (fun _ => (m : Int) * (b * b)) ≤ (n : Int) * ((m : Int) * (b * b)) := S_le (fun _ _ => Int.le_refl _)
        omega
      simp at hg
      omega
    · refine ⟨A, fun i j hi hj => ⟨?_, fun e => e, fun e => e⟩, fun _ _ => rfl, fun _ _ => rfl⟩
      by_cases e : A i j = 0 ∨ A i j = b
      · exact e
      · exact absurd ⟨i, j, hi, hj, e⟩ hf
  | succ g ih =>
    intro A hg hA hr hc
    by_cases hf : ∃ i j, i < n ∧ j < m ∧ ¬ (A i j = 0 ∨ A i j = b)
    · obtain ⟨i0, j0, hi0, hj0, hne0⟩ := hf
      obtain ⟨D, d1, d2, d3, d4, i1, j1, hi1, hj1, hd1⟩ := cycle n m (fun i j => ¬ (A i j = 0 ∨ A i j = b))
        (fun i j hi hj hfr => by
          by_cases he : ∃ j', j' < m ∧ j' ≠ j ∧ ¬ (A i j' = 0 ∨ A i j' = b)
          · exact he
          · exfalso
            refine frac _ (hA i j hi hj).1 (hA i j hi hj).2 hfr (lone m (A i) j hj (fun k hk hkj => ?_) (hr i hi))
            by_cases e : A i k = 0 ∨ A i k = b
            · exact e
            · exact absurd ⟨k, hk, hkj, e⟩ he)
        (fun i j hi hj hfr => by
          by_cases he : ∃ i', i' < n ∧ i' ≠ i ∧ ¬ (A i' j = 0 ∨ A i' j = b)
          · exact he
          · exfalso
            refine frac _ (hA i j hi hj).1 (hA i j hi hj).2 hfr (lone n (fun i => A i j) i hi (fun k hk hki => ?_) (hc j hj))
            by_cases e : A k j = 0 ∨ A k j = b
            · exact e
            · exact absurd ⟨k, hk, hki, e⟩ he)
        i0 j0 hi0 hj0 hne0
      have hQD : 1 ≤ Q n m D := by
        unfold Q
        have e1 := S_ge_one (n := m) (f := fun j => D i1 j * D i1 j) (fun j _ => sq_nonneg _) hj1
        have e2 := S_ge_one (n := n) (f := fun i => S m (fun j => D i j * D i j)) (fun i _ => S_nonneg (fun j _ => sq_nonneg _)) hi1
        have := d1 i1 j1
        have e3 : D i1 j1 = 1 ∨ D i1 j1 = -1 := by omega
        have e4 : D i1 j1 * D i1 j1 = 1 := by rcases e3 with e | e <;> rw [e] <;> rfl
        omega
      have hpar := Q_par n m A D
      have fin : ∀ E : Nat → Nat → Int, (∀ i j, -1 ≤ E i j ∧ E i j ≤ 1) → (∀ i j, E i j ≠ 0 → i < n ∧ j < m ∧ ¬ (A i j = 0 ∨ A i j = b)) → (∀ i, i < n → S m (E i) = 0) → (∀ j, j < m → S n (fun i => E i j) = 0) →
          Q n m A < Q n m (fun i j => A i j + E i j) →
          ∃ B : Nat → Nat → Int, (∀ i j, i < n → j < m → (B i j = 0 ∨ B i j = b) ∧ (A i j = 0 → B i j = 0) ∧ (A i j = b → B i j = b)) ∧ (∀ i, i < n → S m (B i) = S m (A i)) ∧ (∀ j, j < m → S n (fun i => B i j) = S n (fun i => A i j)) := by
        intro E e1 e2 e3 e4 hq
        have sr : ∀ i, i < n → S m (fun j => A i j + E i j) = S m (A i) := fun i hi => by
          rw [S_add]; have h1 := e3 i hi; have h2 : S m (fun j => E i j) = S m (E i) := rfl; have h3 : S m (fun j => A i j) = S m (A i) := rfl; omega
        have sc : ∀ j, j < m → S n (fun i => A i j + E i j) = S n (fun i => A i j) := fun j hj => by
          rw [S_add]; have h1 := e4 j hj; omega
        obtain ⟨B, b1, b2, b3⟩ := ih (fun i j => A i j + E i j) (by omega)
          (fun i j hi hj => by
            have ha := hA i j hi hj
            have he := e1 i j
            by_cases z : E i j = 0
            · simp only [z]; omega
            · have := (e2 i j z).2.2
              omega)
          (fun i hi => by rw [sr i hi]; exact hr i hi) (fun j hj => by rw [sc j hj]; exact hc j hj)
        refine ⟨B, fun i j hi hj => ?_, fun i hi => (b2 i hi).trans (sr i hi), fun j hj => (b3 j hj).trans (sc j hj)⟩
        obtain ⟨c1, c2, c3⟩ := b1 i j hi hj
        refine ⟨c1, fun e => ?_, fun e => ?_⟩
        · by_cases z : E i j = 0
          · exact c2 (by rw [z, e]; rfl)
          · exact absurd (.inl e) (e2 i j z).2.2
        · by_cases z : E i j = 0
          · exact c3 (by rw [z, e]; omega)
          · exact absurd (.inr e) (e2 i j z).2.2
      by_cases hq : Q n m A < Q n m (fun i j => A i j + D i j)
      · exact fin D d1 d2 d3 d4 hq
      · have neg : ∀ (K : Nat) (f : Nat → Int), S K (fun k => - f k) = - S K f := by
          intro K f
          induction K with
          | zero => rfl
          | succ K ih => simp only [S]; rw [ih]; omega
        refine fin (fun i j => - D i j) (fun i j => by have := d1 i j; show -1 ≤ - D i j ∧ - D i j ≤ 1; omega) (fun i j h => d2 i j (fun e => h (by show - D i j = 0; omega))) (fun i hi => ?_) (fun j hj => ?_) ?_
        · show S m (fun j => - D i j) = 0
          rw [neg]; have := d3 i hi; have h2 : S m (fun j => D i j) = S m (D i) := rfl; omega
        · show S n (fun i => - D i j) = 0
          rw [neg]; have := d4 j hj; omega
        · have : Q n m (fun i j => A i j + - D i j) = Q n m (fun i j => A i j - D i j) := rfl
          show _ < Q n m (fun i j => A i j + - D i j)
          rw [this]; omega
    · refine ⟨A, fun i j hi hj => ⟨?_, fun e => e, fun e => e⟩, fun _ _ => rfl, fun _ _ => rfl⟩
      by_cases e : A i j = 0 ∨ A i j = b
      · exact e
      · exact absurd ⟨i, j, hi, hj, e⟩ hf

theorem S_mod (n : Nat) (b : Int) (f : Nat → Int) : b ∣ S n (fun j => f j % b) - S n f := by
  induction n with
  | zero => simp [S]
  | succ n ih =>
    simp only [S]
    have h1 : b ∣ f n % b - f n := by
      have := Int.emod_add_mul_ediv (f n) b
      exact ⟨-(f n / b), by rw [Int.mul_neg]; omega⟩
    have h2 : S n (fun j => f j % b) + f n % b - (S n f + f n) = (S n (fun j => f j % b) - S n f) + (f n % b - f n) := by omega
    rw [h2]; exact Int.dvd_add ih h1
theorem neg_mod (x b : Int) : (x + (-x) % b) % b = 0 := by
  apply Int.emod_eq_zero_of_dvd
  have := Int.emod_add_mul_ediv (-x) b
  exact ⟨-((-x) / b), by rw [Int.mul_neg]; omega⟩

/-- remainders r can be rounded: up (b) or down (0), a remainder of 0 down, so that every row, every column and all together come near -/
theorem ups (h w : Nat) (b : Int) (hb : 0 < b) (r : Nat → Nat → Int) (hr : ∀ i j, i < h → j < w → 0 ≤ r i j ∧ r i j < b) :
    ∃ u : Nat → Nat → Int, (∀ i j, i < h → j < w → (u i j = 0 ∨ u i j = b) ∧ (r i j = 0 → u i j = 0)) ∧
      (∀ i, i < h → -b < S w (u i) - S w (r i) ∧ S w (u i) - S w (r i) < b) ∧
      (∀ j, j < w → -b < S h (fun i => u i j) - S h (fun i => r i j) ∧ S h (fun i => u i j) - S h (fun i => r i j) < b) ∧
      -b < S h (fun i => S w (u i)) - S h (fun i => S w (r i)) ∧ S h (fun i => S w (u i)) - S h (fun i => S w (r i)) < b := by
  obtain ⟨T, hT⟩ : ∃ T, T = S h (fun i => S w (r i)) := ⟨_, rfl⟩
  obtain ⟨A, hA⟩ : ∃ A : Nat → Nat → Int, A = fun i j => if i < h then (if j < w then r i j else (-(S w (r i))) % b) else (if j < w then (-(S h (fun i => r i j))) % b else T % b) := ⟨_, rfl⟩
  have a1 : ∀ i j, i < h → j < w → A i j = r i j := fun i j hi hj => by rw [hA]; simp only [if_pos hi, if_pos hj]
  have a2 : ∀ i, i < h → A i w = (-(S w (r i))) % b := fun i hi => by rw [hA]; simp only [if_pos hi, if_neg (Nat.lt_irrefl w)]
  have a3 : ∀ j, j < w → A h j = (-(S h (fun i => r i j))) % b := fun j hj => by rw [hA]; simp only [if_neg (Nat.lt_irrefl h), if_pos hj]
  have a4 : A h w = T % b := by rw [hA]; simp only [if_neg (Nat.lt_irrefl h), if_neg (Nat.lt_irrefl w)]
  clear hA
  have m1 : ∀ x : Int, 0 ≤ x % b ∧ x % b < b := fun x => ⟨Int.emod_nonneg _ (by omega), Int.emod_lt_of_pos _ hb⟩
  have hbd : ∀ i j, i < h + 1 → j < w + 1 → 0 ≤ A i j ∧ A i j < b := by
    intro i j hi hj
    by_cases ei : i < h
    · by_cases ej : j < w
      · rw [a1 i j ei ej]; exact hr i j ei ej
      · obtain rfl : j = w := by omega
        rw [a2 i ei]; exact m1 _
    · obtain rfl : i = h := by omega
      by_cases ej : j < w
      · rw [a3 j ej]; exact m1 _
      · obtain rfl : j = w := by omega
        rw [a4]; exact m1 _
  have row1 : ∀ i, i < h → S (w + 1) (A i) = S w (r i) + A i w := fun i hi => by
    show S w (A i) + A i w = _
    rw [S_congr (fun j hj => a1 i j hi hj)]
  have col1 : ∀ j, j < w → S (h + 1) (fun i => A i j) = S h (fun i => r i j) + A h j := fun j hj => by
    show S h (fun i => A i j) + A h j = _
    rw [S_congr (fun i hi => a1 i j hi hj)]
  have hrow : ∀ i, i < h + 1 → S (w + 1) (A i) % b = 0 := by
    intro i hi
    by_cases ei : i < h
    · rw [row1 i ei, a2 i ei]; exact neg_mod _ _
    · obtain rfl : i = h := by omega
      show (S w (A i) + A i w) % b = 0
      rw [S_congr (fun j hj => a3 j hj), a4]
      have d1 := S_mod w b (fun j => -(S i (fun k => r k j)))
      have e1 : S w (fun j => -(S i (fun k => r k j))) = -T := by
        rw [hT, S_swap]
        have : ∀ (K : Nat) (f : Nat → Int), S K (fun k => - f k) = - S K f := by
          intro K f
          induction K with
          | zero => rfl
          | succ K ih => simp only [S]; rw [ih]; omega
        rw [this]
      rw [e1] at d1
      have d2 : b ∣ T % b - T := by
        have := Int.emod_add_mul_ediv T b
        exact ⟨-(T / b), by rw [Int.mul_neg]; omega⟩
      apply Int.emod_eq_zero_of_dvd
      have e2 : S w (fun j => (-(S i (fun k => r k j))) % b) + T % b = (S w (fun j => (-(S i (fun k => r k j))) % b) - -T) + (T % b - T) := by omega
      rw [e2]; exact Int.dvd_add d1 d2
  have hcol : ∀ j, j < w + 1 → S (h + 1) (fun i => A i j) % b = 0 := by
    intro j hj
    by_cases ej : j < w
    · rw [col1 j ej, a3 j ej]; exact neg_mod _ _
    · obtain rfl : j = w := by omega
      show (S h (fun i => A i j) + A h j) % b = 0
      rw [S_congr (fun i hi => a2 i hi), a4]
      have d1 := S_mod h b (fun i => -(S j (r i)))
      have e1 : S h (fun i => -(S j (r i))) = -T := by
        rw [hT]
        have : ∀ (K : Nat) (f : Nat → Int), S K (fun k => - f k) = - S K f := by
          intro K f
          induction K with
          | zero => rfl
          | succ K ih => simp only [S]; rw [ih]; omega
        rw [this]
      rw [e1] at d1
      have d2 : b ∣ T % b - T := by
        have := Int.emod_add_mul_ediv T b
        exact ⟨-(T / b), by rw [Int.mul_neg]; omega⟩
      apply Int.emod_eq_zero_of_dvd
      have e2 : S h (fun i => (-(S j (r i))) % b) + T % b = (S h (fun i => (-(S j (r i))) % b) - -T) + (T % b - T) := by omega
      rw [e2]; exact Int.dvd_add d1 d2
  obtain ⟨B, b1, b2, b3⟩ := rounding (h + 1) (w + 1) b hb (((h + 1 : Nat) : Int) * (((w + 1 : Nat) : Int) * (b * b)) - Q (h + 1) (w + 1) A).toNat A (by omega)
    (fun i j hi hj => by have := hbd i j hi hj; omega) hrow hcol
  have near : ∀ i j, i < h + 1 → j < w + 1 → -b < A i j - B i j ∧ A i j - B i j < b := by
    intro i j hi hj
    have h1 := hbd i j hi hj
    obtain ⟨c1, c2, _⟩ := b1 i j hi hj
    by_cases e : A i j = 0
    · rw [c2 e, e]; omega
    · rcases c1 with c1 | c1 <;> rw [c1] <;> omega
  have rowd : ∀ i, i < h → S w (B i) - S w (r i) = A i w - B i w := fun i hi => by
    have e1 := b2 i (by omega)
    rw [row1 i hi] at e1
    have e2 : S (w + 1) (B i) = S w (B i) + B i w := rfl
    omega
  refine ⟨B, fun i j hi hj => ?_, fun i hi => ?_, fun j hj => ?_, ?_⟩
  · obtain ⟨c1, c2, _⟩ := b1 i j (by omega) (by omega)
    rw [a1 i j hi hj] at c2
    exact ⟨c1, c2⟩
  · rw [rowd i hi]; exact near i w (by omega) (by omega)
  · have e1 := b3 j (by omega)
    rw [col1 j hj] at e1
    have e2 : S (h + 1) (fun i => B i j) = S h (fun i => B i j) + B h j := rfl
    have := near h j (by omega) (by omega)
    omega
  · rw [← S_sub, S_congr (fun i hi => rowd i hi), S_sub]
    have e1 := b3 w (by omega)
    have e2 : S (h + 1) (fun i => B i w) = S h (fun i => B i w) + B h w := rfl
    have e3 : S (h + 1) (fun i => A i w) = S h (fun i => A i w) + A h w := rfl
    have := near h w (by omega) (by omega)
    omega

end Go.Proofs.Ytdlpcoafbmhjjaa
