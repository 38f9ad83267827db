/- The roundings of a table, in order; how many there are. Plain; no program in sight. -/
import Derived.Test.YtdlpcoafbmhjjaaFitP
import Derived.Test.YtdlpcoafbmhjjaaDrawT
import Derived.Test.YtdlpcoafbmhjjaaTotal
namespace Go.Proofs.Ytdlpcoafbmhjjaa

/-- a table of h rows and w columns -/
def mkT (h w : Nat) (f : Nat → Nat → Int) : List (List Int) := (List.range h).map fun i => (List.range w).map (f i)
theorem mkT_len (h w : Nat) (f : Nat → Nat → Int) : (mkT h w f).length = h := by simp [mkT]
theorem mkT_wid {h w : Nat} {f : Nat → Nat → Int} {i : Nat} (hi : i < h) : wid (mkT h w f) i = w := by simp [mkT, wid, hi]
theorem mkT_cel {h w : Nat} {f : Nat → Nat → Int} {i j : Nat} (hi : i < h) (hj : j < w) : cel (mkT h w f) i j = f i j := by simp [mkT, cel, hi, hj]

/-- the first p cells, row by row, agree -/
def agr (w p : Nat) (x y : List (List Int)) : Prop := ∀ q, q < p → cel x (q / w) (q % w) = cel y (q / w) (q % w)
theorem agr_refl (w p : Nat) (x : List (List Int)) : agr w p x x := fun _ _ => rfl
theorem agr.trans {w p : Nat} {x y z : List (List Int)} (h : agr w p x y) (k : agr w p y z) : agr w p x z := fun q hq => (h q hq).trans (k q hq)
theorem agr.symm {w p : Nat} {x y : List (List Int)} (h : agr w p x y) : agr w p y x := fun q hq => (h q hq).symm
theorem agr.less {w p p' : Nat} {x y : List (List Int)} (h : agr w p x y) (hp : p' ≤ p) : agr w p' x y := fun q hq => h q (by omega)

theorem same_refl (x : List (List Int)) : same x x := ⟨rfl, fun _ _ => rfl⟩
theorem sameT_set {t x : List (List Int)} (h : same t x) (i j : Nat) (v : Int) : same t (setT x i j v) := ⟨by rw [setT_len]; exact h.1, fun k hk => by rw [setT_wid]; exact h.2 k hk⟩

/-- all rows have the first one's length -/
def rect (t : List (List Int)) : Prop := 1 ≤ wid t 0 ∧ ∀ i, i < t.length → wid t i = wid t 0
theorem tblOk.rect {t : List (List Int)} (h : tblOk t) : rect t := ⟨h.2.2.1, fun i hi => (h.2.2.2.2 i hi).1⟩
theorem div_bd {h w q : Nat} (_ : 1 ≤ w) (hq : q < h * w) : q / w < h ∧ q % w < w := ⟨Nat.div_lt_of_lt_mul (by rw [Nat.mul_comm]; exact hq), Nat.mod_lt _ (by omega)⟩
theorem at_cell {h w i j : Nat} (hi : i < h) (hj : j < w) : ∃ q, q < h * w ∧ q / w = i ∧ q % w = j := by
  refine ⟨i * w + j, ?_, ?_, ?_⟩
  · have := Nat.mul_le_mul_right w (show i + 1 ≤ h from hi)
    rw [Nat.succ_mul] at this
    omega
  · rw [Nat.add_comm, Nat.add_mul_div_right _ _ (by omega), Nat.div_eq_of_lt hj, Nat.zero_add]
  · rw [Nat.add_comm, Nat.add_mul_mod_self_right, Nat.mod_eq_of_lt hj]
theorem cell_inj {w q p : Nat} (h1 : q / w = p / w) (h2 : q % w = p % w) : q = p := by
  have a := Nat.div_add_mod q w
  have b := Nat.div_add_mod p w
  rw [h1, h2] at a
  omega
theorem same_cell {t x : List (List Int)} (hr : rect t) (hs : same t x) {q : Nat} (hq : q < t.length * wid t 0) : q / wid t 0 < x.length ∧ q % wid t 0 < wid x (q / wid t 0) := by
  obtain ⟨a, b⟩ := div_bd hr.1 hq
  exact ⟨by rw [← hs.1]; exact a, by rw [← hs.2 _ a, hr.2 _ a]; exact b⟩
theorem agr_all {t x y : List (List Int)} (hr : rect t) (hx : same t x) (hy : same t y) (h : agr (wid t 0) (t.length * wid t 0) x y) : x = y := by
  have hs : same x y := ⟨hx.1.symm.trans hy.1, fun i hi => by rw [← hx.1] at hi; exact (hx.2 i hi).symm.trans (hy.2 i hi)⟩
  refine tab_ext hs (fun i j hi hj => ?_)
  rw [← hx.1] at hi
  rw [← hx.2 i hi, hr.2 i hi] at hj
  obtain ⟨q, hq, rfl, rfl⟩ := at_cell hi hj
  exact h q hq
theorem agr_set {t x y : List (List Int)} (hr : rect t) (hx : same t x) (hy : same t y) {p : Nat} (hp : p < t.length * wid t 0) (h : agr (wid t 0) p x y) (v : Int) :
    agr (wid t 0) (p + 1) (setT x (p / wid t 0) (p % wid t 0) v) (setT y (p / wid t 0) (p % wid t 0) v) := by
  intro q hq
  obtain ⟨a, b⟩ := same_cell hr hx hp
  obtain ⟨c, d⟩ := same_cell hr hy hp
  rw [setT_cel a b, setT_cel c d]
  split
  · rfl
  · rename_i hne
    refine h q ?_
    have : q ≠ p := fun e => hne (by rw [e]; exact ⟨rfl, rfl⟩)
    omega
theorem agr_set_self {t x : List (List Int)} (hr : rect t) (hx : same t x) {p : Nat} (hp : p < t.length * wid t 0) (v : Int) : agr (wid t 0) p x (setT x (p / wid t 0) (p % wid t 0) v) := by
  intro q hq
  obtain ⟨a, b⟩ := same_cell hr hx hp
  rw [setT_cel a b, if_neg (fun e => by have := cell_inj e.1 e.2; omega)]
theorem set_at {t x : List (List Int)} (hr : rect t) (hx : same t x) {p : Nat} (hp : p < t.length * wid t 0) (v : Int) : cel (setT x (p / wid t 0) (p % wid t 0) v) (p / wid t 0) (p % wid t 0) = v := by
  obtain ⟨a, b⟩ := same_cell hr hx hp
  rw [setT_cel a b, if_pos ⟨rfl, rfl⟩]

/-- the roundings of t whose first p cells are those of x, in order; n cells are left -/
def fillL (t : List (List Int)) (b : Int) : Nat → Nat → List (List Int) → List (List (List Int))
  | 0, _, x => if sumsFit t x b then [x] else []
  | n + 1, p, x => fillL t b n (p + 1) (setT x (p / wid t 0) (p % wid t 0) (dn b (cel t (p / wid t 0) (p % wid t 0)))) ++
      if cel t (p / wid t 0) (p % wid t 0) = dn b (cel t (p / wid t 0) (p % wid t 0)) then [] else fillL t b n (p + 1) (setT x (p / wid t 0) (p % wid t 0) (dn b (cel t (p / wid t 0) (p % wid t 0)) + b))

theorem fill_agr {t : List (List Int)} (b : Int) (hr : rect t) : ∀ (n p : Nat) (x y : List (List Int)), n + p = t.length * wid t 0 → same t x → same t y → agr (wid t 0) p x y → fillL t b n p x = fillL t b n p y
  | 0, p, x, y, hn, hx, hy, h => by
    obtain rfl : x = y := agr_all hr hx hy (h.less (by omega))
    rfl
  | n + 1, p, x, y, hn, hx, hy, h => by
    have hp : p < t.length * wid t 0 := by omega
    unfold fillL
    rw [fill_agr b hr n (p + 1) _ _ (by omega) (sameT_set hx _ _ _) (sameT_set hy _ _ _) (agr_set hr hx hy hp h _), fill_agr b hr n (p + 1) _ _ (by omega) (sameT_set hx _ _ _) (sameT_set hy _ _ _) (agr_set hr hx hy hp h _)]

theorem fill_mem {t : List (List Int)} {b : Int} (hr : rect t) (hb : 2 ≤ b) : ∀ (n p : Nat) (x y : List (List Int)), n + p = t.length * wid t 0 → same t x →
    (y ∈ fillL t b n p x ↔ same t y ∧ agr (wid t 0) p x y ∧ (∀ q, p ≤ q → q < t.length * wid t 0 → cOk b (cel t (q / wid t 0) (q % wid t 0)) (cel y (q / wid t 0) (q % wid t 0))) ∧ sumsFit t y b)
  | 0, p, x, y, hn, hx => by
    unfold fillL
    constructor
    · intro h
      split at h
      · rename_i hs
        obtain rfl : y = x := by simpa using h
        exact ⟨hx, agr_refl _ _ _, fun q h1 h2 => by omega, hs⟩
      · simp at h
    · rintro ⟨h1, h2, _, h4⟩
      obtain rfl : x = y := agr_all hr hx h1 (h2.less (by omega))
      rw [if_pos h4]; simp
  | n + 1, p, x, y, hn, hx => by
    have hp : p < t.length * wid t 0 := by omega
    have key : ∀ v, (agr (wid t 0) (p + 1) (setT x (p / wid t 0) (p % wid t 0) v) y ↔ agr (wid t 0) p x y ∧ cel y (p / wid t 0) (p % wid t 0) = v) := by
      intro v
      constructor
      · intro h
        refine ⟨(agr_set_self hr hx hp v).trans (h.less (by omega)), ?_⟩
        rw [← h p (by omega), set_at hr hx hp]
      · rintro ⟨h1, h2⟩ q hq
        by_cases e : q = p
        · subst e; rw [set_at hr hx hp, h2]
        · rw [← agr_set_self hr hx hp v q (by omega)]; exact h1 q (by omega)
    unfold fillL
    rw [List.mem_append, fill_mem hr hb n (p + 1) _ y (by omega) (sameT_set hx _ _ _), key]
    have stp : (∀ q, p ≤ q → q < t.length * wid t 0 → cOk b (cel t (q / wid t 0) (q % wid t 0)) (cel y (q / wid t 0) (q % wid t 0))) ↔
        cOk b (cel t (p / wid t 0) (p % wid t 0)) (cel y (p / wid t 0) (p % wid t 0)) ∧ (∀ q, p + 1 ≤ q → q < t.length * wid t 0 → cOk b (cel t (q / wid t 0) (q % wid t 0)) (cel y (q / wid t 0) (q % wid t 0))) := by
      constructor
      · intro h; exact ⟨h p (Nat.le_refl _) hp, fun q h1 h2 => h q (by omega) h2⟩
      · rintro ⟨h1, h2⟩ q h3 h4
        by_cases e : q = p
        · subst e; exact h1
        · exact h2 q (by omega) h4
    rw [stp]
    by_cases e : cel t (p / wid t 0) (p % wid t 0) = dn b (cel t (p / wid t 0) (p % wid t 0))
    · rw [if_pos e]
      unfold cOk
      constructor
      · rintro (⟨h1, ⟨h2, h3⟩, h4, h5⟩ | h)
        · exact ⟨h1, h2, ⟨.inl h3, h4⟩, h5⟩
        · simp at h
      · rintro ⟨h1, h2, ⟨h3 | ⟨_, h3⟩, h4⟩, h5⟩
        · exact .inl ⟨h1, ⟨h2, h3⟩, h4, h5⟩
        · exact absurd e h3
    · rw [if_neg e, fill_mem hr hb n (p + 1) _ y (by omega) (sameT_set hx _ _ _), key]
      unfold cOk
      constructor
      · rintro (⟨h1, ⟨h2, h3⟩, h4, h5⟩ | ⟨h1, ⟨h2, h3⟩, h4, h5⟩)
        · exact ⟨h1, h2, ⟨.inl h3, h4⟩, h5⟩
        · exact ⟨h1, h2, ⟨.inr ⟨h3, e⟩, h4⟩, h5⟩
      · rintro ⟨h1, h2, ⟨h3 | ⟨h3, _⟩, h4⟩, h5⟩
        · exact .inl ⟨h1, ⟨h2, h3⟩, h4, h5⟩
        · exact .inr ⟨h1, ⟨h2, h3⟩, h4, h5⟩

theorem fill_nodup {t : List (List Int)} {b : Int} (hr : rect t) (hb : 2 ≤ b) : ∀ (n p : Nat) (x : List (List Int)), n + p = t.length * wid t 0 → same t x → (fillL t b n p x).Nodup
  | 0, p, x, hn, hx => by
    unfold fillL; split <;> simp
  | n + 1, p, x, hn, hx => by
    have hp : p < t.length * wid t 0 := by omega
    unfold fillL
    refine List.nodup_append.2 ⟨fill_nodup hr hb n (p + 1) _ (by omega) (sameT_set hx _ _ _), ?_, ?_⟩
    · split
      · simp
      · exact fill_nodup hr hb n (p + 1) _ (by omega) (sameT_set hx _ _ _)
    · intro y hy z hz e
      subst e
      have h1 := ((fill_mem hr hb n (p + 1) _ y (by omega) (sameT_set hx _ _ _)).1 hy).2.1 p (by omega)
      rw [set_at hr hx hp] at h1
      split at hz
      · simp at hz
      · have h2 := ((fill_mem hr hb n (p + 1) _ y (by omega) (sameT_set hx _ _ _)).1 hz).2.1 p (by omega)
        rw [set_at hr hx hp] at h2
        omega

/-- all roundings of t, in order -/
def roundL (t : List (List Int)) (b : Int) : List (List (List Int)) := fillL t b (t.length * wid t 0) 0 t
theorem round_mem {t y : List (List Int)} {b : Int} (ht : tblOk t) (hb : 2 ≤ b) (hb2 : b ≤ 20) : y ∈ roundL t b ↔ Fits t y b := by
  unfold roundL
  rw [fill_mem ht.rect hb _ 0 t y (by omega) (same_refl t)]
  constructor
  · rintro ⟨h1, _, h3, h4⟩
    refine ⟨ht, ⟨hb, hb2⟩, h1, fun i hi j hj => ?_, h4⟩
    obtain ⟨q, hq, rfl, rfl⟩ := at_cell hi hj
    exact h3 q (Nat.zero_le _) hq
  · rintro ⟨_, _, h1, h3, h4⟩
    exact ⟨h1, fun q hq => by omega, fun q _ hq => by obtain ⟨a, b⟩ := div_bd ht.rect.1 hq; exact h3 _ a _ b, h4⟩
theorem round_nodup {t : List (List Int)} {b : Int} (ht : tblOk t) (hb : 2 ≤ b) : (roundL t b).Nodup := fill_nodup ht.rect hb _ 0 t (by omega) (same_refl t)

/-- how many roundings there are -/
def cntR (t : List (List Int)) (b : Int) : Nat := (roundL t b).length

theorem len_le {α : Type} [BEq α] [LawfulBEq α] : ∀ (l m : List α), l.Nodup → (∀ x ∈ l, x ∈ m) → l.length ≤ m.length
  | [], _, _, _ => Nat.zero_le _
  | a :: l, m, hn, h => by
    have ha := h a (by simp)
    obtain ⟨hal, hl⟩ := List.nodup_cons.1 hn
    have h2 := len_le l (m.erase a) hl (fun x hx => by
      have hxa : x ≠ a := fun e => hal (e ▸ hx)
      exact (List.mem_erase_of_ne hxa).2 (h x (by simp [hx])))
    rw [List.length_erase_of_mem ha] at h2
    have : 0 < m.length := List.length_pos_of_mem ha
    simp only [List.length_cons]; omega
theorem nodup_map {α β : Type} {f : α → β} : ∀ {l : List α}, l.Nodup → (∀ x ∈ l, ∀ y ∈ l, f x = f y → x = y) → (l.map f).Nodup
  | [], _, _ => by simp
  | a :: l, hn, h => by
    obtain ⟨hal, hl⟩ := List.nodup_cons.1 hn
    rw [List.map_cons, List.nodup_cons]
    refine ⟨fun hm => ?_, nodup_map hl (fun x hx y hy => h x (by simp [hx]) y (by simp [hy]))⟩
    obtain ⟨y, hy, e⟩ := List.mem_map.1 hm
    have := h y (by simp [hy]) a (by simp) e
    exact hal (this ▸ hy)
theorem cnt_le {t t' : List (List Int)} {b : Int} (ht : tblOk t) (ht' : tblOk t') (hb : 2 ≤ b) (hb2 : b ≤ 20) (f : List (List Int) → List (List Int)) (hf : ∀ y, Fits t y b → Fits t' (f y) b)
    (hi : ∀ y z, Fits t y b → Fits t z b → f y = f z → y = z) : cntR t b ≤ cntR t' b := by
  unfold cntR
  rw [← List.length_map (f := f)]
  refine len_le _ _ (nodup_map (round_nodup ht hb) (fun x hx y hy => hi x y ((round_mem ht hb hb2).1 hx) ((round_mem ht hb hb2).1 hy))) (fun x hx => ?_)
  obtain ⟨y, hy, rfl⟩ := List.mem_map.1 hx
  exact (round_mem ht' hb hb2).2 (hf y ((round_mem ht hb hb2).1 hy))

end Go.Proofs.Ytdlpcoafbmhjjaa
