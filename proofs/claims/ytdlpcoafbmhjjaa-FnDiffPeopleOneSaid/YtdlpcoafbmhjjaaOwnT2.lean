/- Tables of the call's own: how they are written and grow. -/
import Derived.Test.YtdlpcoafbmhjjaaIntss
namespace Go.Proofs.Ytdlpcoafbmhjjaa
open Go.RowKit

/-- the blocks of a table -/
def blksU (v : Value) (us : List Value) (k : Nat) : Prop := v.ownBlock = some k ∨ ∃ i, i < us.length ∧ (us[i]?.getD (.slice none 0 0)).ownBlock = some k

theorem OwnU.blk {w : World} {base : Nat} {v : Value} {t : List (List Int)} {us : List Value} (h : OwnU w base v t us) {k : Nat} (hk : blksU v us k) : base ≤ k ∧ k < w.heap.size := by
  rcases hk with hk | ⟨i, hi, hk⟩
  · exact h.outer.lt k hk
  · exact (h.rows i (by rw [← h.len]; exact hi)).1.lt k hk

theorem OwnI.keptB {w w' : World} {base : Nat} {v : Value} {zs : List Int} {row : Option Nat} (h : OwnI w base v zs) (hg : w.grownBy w' row) (hr : v.ownBlock ≠ row) : OwnI w' base v zs :=
  ⟨h.1.kept hg (.inr hr), h.2⟩
theorem OwnI.mono {w : World} {base base' : Nat} {v : Value} {zs : List Int} (h : OwnI w base v zs) (hb : base' ≤ base) : OwnI w base' v zs := ⟨h.1.mono hb, h.2⟩
theorem OwnI.set {w : World} {base g n cap : Nat} {zs : List Int} (h : OwnI w base (.slice (some ⟨g, 0, none⟩) n cap) zs) (j : Nat) (x : Int) :
    OwnI (w.setCell ⟨g, j, none⟩ (.int .i64 x)) base (.slice (some ⟨g, 0, none⟩) n cap) (zs.set j x) := by
  have hn : n = zs.length := by obtain ⟨_, _, e, _⟩ := h.form; cases e; rfl
  subst hn
  have := (h.1.stored j (.int .i64 x)).1
  refine ⟨?_, by simp⟩
  rw [List.length_set, List.map_set]
  exact this
theorem OwnI.cell {w : World} {base g n cap : Nat} {zs : List Int} (h : OwnI w base (.slice (some ⟨g, 0, none⟩) n cap) zs) {j : Nat} (hj : j < zs.length) :
    w.cell? ⟨g, j, none⟩ = some (.int .i64 (zs[j]?.getD 0)) := by
  have hn : n = zs.length := by obtain ⟨_, _, e, _⟩ := h.form; cases e; rfl
  subst hn
  rw [h.1.cellAt j (by omega), List.getElem?_map, List.getElem?_eq_getElem hj]
  rfl
theorem OwnI.frozen {w : World} {base g n cap : Nat} {zs : List Int} (h : OwnI w base (.slice (some ⟨g, 0, none⟩) n cap) zs) (j : Nat) : w.frozen? ⟨g, j, none⟩ = false := by
  have hn : n = zs.length := by obtain ⟨_, _, e, _⟩ := h.form; cases e; rfl
  subst hn
  exact h.1.frozenAt j
theorem OwnI.made (w : World) (base n : Nat) (hb : base ≤ w.heap.size) (hn : n ≤ maxLen) :
    OwnI (w.alloc (.cells (madeCells #[.int .i64 0] n) 3)) base (.slice (some ⟨w.heap.size, 0, none⟩) n n) (List.replicate n 0) := by
  refine ⟨?_, by simp⟩
  have := World.ownsRow_lit (e := 3) (size := 1) (base := base) w (madeCells #[.int .i64 0] n) n hb hn (by simp [madeCells])
  rw [toList_madeCells_one] at this
  simpa using this

/-- other blocks are written, memory is made -/
theorem OwnU.keptB {w w' : World} {base : Nat} {v : Value} {t : List (List Int)} {us : List Value} {row : Option Nat} (h : OwnU w base v t us) (hg : w.grownBy w' row) (hr : ∀ k, row = some k → ¬ blksU v us k) : OwnU w' base v t us := by
  refine ⟨h.len, h.outer.kept hg ?_, h.nonnil, fun i hi => (h.rows i hi).keptB hg ?_, h.apart, h.beside⟩
  · obtain ⟨g, cap, rfl, hb, _⟩ := h.form
    right
    intro e
    exact hr g e.symm (.inl rfl)
  · obtain ⟨gi, ci, e, _⟩ := (h.rows i hi).form
    intro e2
    exact hr gi (by rw [← e2, e]; rfl) (.inr ⟨i, by rw [h.len]; exact hi, by rw [e]; rfl⟩)
theorem OwnU.alloc {w : World} {base : Nat} {v : Value} {t : List (List Int)} {us : List Value} (h : OwnU w base v t us) (o : Obj) : OwnU (w.alloc o) base v t us :=
  h.keptB (World.grownBy_alloc w o none) (by simp)
theorem OwnU.drewN {w : World} {base : Nat} {v : Value} {t : List (List Int)} {us : List Value} (h : OwnU w base v t us) (n : Nat) : OwnU (w.drewN n) base v t us :=
  h.keptB (row := none) (grow_drewN (grow_refl _ _) n) (by simp)
theorem OwnU.below {w w' : World} {base : Nat} {v : Value} {t : List (List Int)} {us : List Value} (h : OwnU w base v t us) (hb : Below w.heap.size w w') : OwnU w' base v t us :=
  h.keptB (row := none) ⟨hb.os, hb.tape, hb.output, hb.size, fun k hk _ => hb.block k hk⟩ (by simp)
theorem OwnU.mono {w : World} {base base' : Nat} {v : Value} {t : List (List Int)} {us : List Value} (h : OwnU w base v t us) (hb : base' ≤ base) : OwnU w base' v t us :=
  ⟨h.len, h.outer.mono hb, h.nonnil, fun i hi => (h.rows i hi).mono hb, h.apart, h.beside⟩

theorem getD_set {t : List (List Int)} {i k : Nat} {r : List Int} (hi : i < t.length) : (t.set i r)[k]?.getD [] = if k = i then r else t[k]?.getD [] := by
  rw [List.getElem?_set]
  by_cases e : i = k
  · subst e; simp [hi]
  · rw [if_neg e, if_neg (fun h => e h.symm)]

/-- a cell is written -/
theorem OwnU.set {w : World} {base : Nat} {v : Value} {t : List (List Int)} {us : List Value} (h : OwnU w base v t us) {i : Nat} (hi : i < t.length) {gi n ci : Nat} (hu : us[i]? = some (.slice (some ⟨gi, 0, none⟩) n ci)) (j : Nat) (x : Int) :
    OwnU (w.setCell ⟨gi, j, none⟩ (.int .i64 x)) base v (t.set i ((t[i]?.getD []).set j x)) us := by
  have hg : w.grownBy (w.setCell ⟨gi, j, none⟩ (.int .i64 x)) (some gi) := grow_set (grow_refl _ _) _ _
  have hui : us[i]?.getD (.slice none 0 0) = .slice (some ⟨gi, 0, none⟩) n ci := by rw [hu]; rfl
  refine ⟨by rw [List.length_set]; exact h.len, ?_, h.nonnil, fun k hk => ?_, ?_, ?_⟩
  · rw [List.length_set]
    refine h.outer.kept hg (.inr ?_)
    have := h.beside i hi
    rw [hui] at this
    exact fun e => this e.symm
  · rw [List.length_set] at hk
    rw [getD_set hi]
    by_cases e : k = i
    · subst e
      rw [if_pos rfl, hui]
      have := h.rows k hk
      rw [hui] at this
      exact this.set j x
    · rw [if_neg e]
      refine (h.rows k hk).keptB hg (fun e2 => e (h.apart k i hk hi ?_))
      rw [hui]; exact e2
  · intro a b; rw [List.length_set]; exact h.apart a b
  · intro a; rw [List.length_set]; exact h.beside a

/-- a cell may be read and written -/
theorem OwnU.at {w : World} {base : Nat} {v : Value} {t : List (List Int)} {us : List Value} (h : OwnU w base v t us) {i : Nat} (hi : i < t.length) {gi n ci : Nat} (hu : us[i]? = some (.slice (some ⟨gi, 0, none⟩) n ci)) {j : Nat} (hj : j < (t[i]?.getD []).length) :
    w.cell? ⟨gi, j, none⟩ = some (.int .i64 ((t[i]?.getD [])[j]?.getD 0)) ∧ w.frozen? ⟨gi, j, none⟩ = false := by
  have := h.rows i hi
  rw [hu] at this
  exact ⟨OwnI.cell this hj, OwnI.frozen this j⟩

/-- one row more -/
theorem OwnU.push {w w' : World} {base : Nat} {v v' : Value} {t : List (List Int)} {us : List Value} {u : Value} {r : List Int} (h : OwnU w base v t us) (hu : OwnI w base u r) (hf : ∀ k, u.ownBlock = some k → ¬ blksU v us k)
    (ho : w'.ownsRow base 42 1 v' (t.length + 1) (us ++ [u])) (hg : w.grownBy w' v.ownBlock) (hn : ¬ v' = .slice none 0 0) (hat : v'.ownBlock = v.ownBlock ∨ ∃ k, v'.ownBlock = some k ∧ w.heap.size ≤ k) :
    OwnU w' base v' (t ++ [r]) (us ++ [u]) := by
  have hvk : ∀ k, v.ownBlock = some k → blksU v us k := fun k e => .inl e
  have hrow : ∀ i, i < t.length → (us[i]?.getD (.slice none 0 0)).ownBlock ≠ v.ownBlock := h.beside
  have hub : u.ownBlock ≠ v.ownBlock := by
    obtain ⟨g, cap, rfl, _⟩ := h.form
    intro e
    exact hf g e (.inl rfl)
  have hlt : ∀ i, i < t.length → (us ++ [u])[i]?.getD (.slice none 0 0) = us[i]?.getD (.slice none 0 0) := fun i hi => by
    rw [List.getElem?_append_left (by rw [h.len]; exact hi)]
  have hlast : (us ++ [u])[t.length]?.getD (.slice none 0 0) = u := by rw [← h.len]; simp
  have hrl : ∀ i, i < t.length → (t ++ [r])[i]?.getD [] = t[i]?.getD [] := fun i hi => by rw [List.getElem?_append_left hi]
  have hb1 : ∀ i, i < t.length → ∃ k, (us[i]?.getD (.slice none 0 0)).ownBlock = some k ∧ k < w.heap.size := fun i hi => by
    obtain ⟨gi, ci, e, _, hl, _⟩ := (h.rows i hi).form
    exact ⟨gi, by rw [e]; rfl, hl⟩
  have hb2 : ∃ k, u.ownBlock = some k ∧ k < w.heap.size := by
    obtain ⟨gi, ci, e, _, hl, _⟩ := hu.form
    exact ⟨gi, by rw [e]; rfl, hl⟩
  refine ⟨by simp [h.len], by simpa using ho, hn, fun i hi => ?_, ?_, fun i hi => ?_⟩
  · simp at hi
    by_cases e : i = t.length
    · subst e
      rw [hlast]
      simp only [List.getElem?_append_right (Nat.le_refl _), Nat.sub_self, List.getElem?_cons_zero, Option.getD_some]
      exact hu.keptB hg hub
    · rw [hlt i (by omega), hrl i (by omega)]
      exact (h.rows i (by omega)).keptB hg (hrow i (by omega))
  · intro i j hi hj
    simp at hi hj
    by_cases ei : i = t.length
    · by_cases ej : j = t.length
      · intro _; omega
      · subst ei
        rw [hlast, hlt j (by omega)]
        intro e
        obtain ⟨k, hk, _⟩ := hb2
        exact absurd (.inr ⟨j, by rw [h.len]; omega, by rw [← e]; exact hk⟩) (hf k hk)
    · by_cases ej : j = t.length
      · subst ej
        rw [hlast, hlt i (by omega)]
        intro e
        obtain ⟨k, hk, _⟩ := hb2
        exact absurd (.inr ⟨i, by rw [h.len]; omega, by rw [e]; exact hk⟩) (hf k hk)
      · rw [hlt i (by omega), hlt j (by omega)]
        exact h.apart i j (by omega) (by omega)
  · simp at hi
    rcases hat with hat | ⟨k, hat, hk⟩
    · rw [hat]
      by_cases e : i = t.length
      · subst e; rw [hlast]; exact hub
      · rw [hlt i (by omega)]; exact hrow i (by omega)
    · rw [hat]
      by_cases e : i = t.length
      · subst e; rw [hlast]
        obtain ⟨k2, e2, l2⟩ := hb2
        rw [e2]; simp; omega
      · rw [hlt i (by omega)]
        obtain ⟨k2, e2, l2⟩ := hb1 i (by omega)
        rw [e2]; simp; omega

theorem blksU_push {v v' : Value} {us : List Value} {u : Value} {k : Nat} (h : blksU v' (us ++ [u]) k) : v'.ownBlock = some k ∨ u.ownBlock = some k ∨ blksU v us k := by
  rcases h with h | ⟨i, hi, h⟩
  · exact .inl h
  · rw [getD_push] at h
    by_cases e : i = us.length
    · rw [if_pos e] at h; exact .inr (.inl h)
    · rw [if_neg e] at h
      simp at hi
      exact .inr (.inr (.inr ⟨i, by omega, h⟩))

/-- a row is replaced by another, that lies in its block or in a new one -/
theorem OwnU.setRow {w w' : World} {base g n cap : Nat} {t : List (List Int)} {us : List Value} {u : Value} {r : List Int} (h : OwnU w base (.slice (some ⟨g, 0, none⟩) n cap) t us) {i : Nat} (hi : i < t.length)
    (hw : w.grownBy w' (us[i]?.getD (.slice none 0 0)).ownBlock) (hu : OwnI w' base u r) (hat : u.ownBlock = (us[i]?.getD (.slice none 0 0)).ownBlock ∨ ∃ k, u.ownBlock = some k ∧ w.heap.size ≤ k) :
    OwnU (w'.setCell ⟨g, i, none⟩ u) base (.slice (some ⟨g, 0, none⟩) n cap) (t.set i r) (us.set i u) := by
  have hn : n = t.length := by obtain ⟨_, _, e, _⟩ := h.form; cases e; rfl
  subst hn
  have hui : i < us.length := by rw [h.len]; exact hi
  have hg : w'.grownBy (w'.setCell ⟨g, i, none⟩ u) (some g) := grow_set (grow_refl _ _) _ _
  have hgd : ∀ k, (us.set i u)[k]?.getD (.slice none 0 0) = if k = i then u else us[k]?.getD (.slice none 0 0) := by
    intro k
    rw [List.getElem?_set]
    by_cases e : i = k
    · subst e; simp [hui]
    · rw [if_neg e, if_neg (fun h => e h.symm)]
  obtain ⟨gu, cu, eu, _, hlu, _⟩ := hu.form
  have hub : u.ownBlock = some gu := by rw [eu]; rfl
  have hblk : ∀ j, j < t.length → ∃ k, (us[j]?.getD (.slice none 0 0)).ownBlock = some k ∧ k < w.heap.size := fun j hj => by
    obtain ⟨gi, ci, e, _, hl, _⟩ := (h.rows j hj).form
    exact ⟨gi, by rw [e]; rfl, hl⟩
  have hgl : g < w.heap.size := by obtain ⟨_, _, e, _, hl, _⟩ := h.form; cases e; exact hl
  have hne : gu ≠ g ∧ ∀ j, j < t.length → j ≠ i → (us[j]?.getD (.slice none 0 0)).ownBlock ≠ some gu := by
    rcases hat with e | ⟨k, e, hk⟩
    · refine ⟨fun e2 => ?_, fun j hj hji e2 => hji (h.apart j i hj hi (by rw [e2, ← e, hub]))⟩
      have := h.beside i hi
      rw [← e, hub, e2] at this
      exact this rfl
    · rw [hub] at e; cases e
      refine ⟨by omega, fun j hj _ e2 => ?_⟩
      obtain ⟨k, e3, hl⟩ := hblk j hj
      rw [e3] at e2; cases e2; omega
  refine ⟨by simp [h.len], ?_, h.nonnil, fun k hk => ?_, ?_, ?_⟩
  · rw [List.length_set]
    exact ((h.outer.kept hw (.inr (fun e => h.beside i hi e.symm))).stored i u).1
  · rw [List.length_set] at hk
    rw [getD_set hi, hgd]
    by_cases e : k = i
    · rw [if_pos e, if_pos e]
      exact hu.keptB hg (by rw [hub]; simp; exact hne.1)
    · rw [if_neg e, if_neg e]
      exact ((h.rows k hk).keptB hw (fun e2 => e (h.apart k i hk hi e2))).keptB hg (h.beside k hk)
  · intro a b; rw [List.length_set, hgd, hgd]
    intro ha hb
    by_cases ea : a = i
    · by_cases eb : b = i
      · intro _; omega
      · rw [if_pos ea, if_neg eb, hub]
        intro e
        exact absurd e.symm (hne.2 b hb eb)
    · by_cases eb : b = i
      · rw [if_neg ea, if_pos eb, hub]
        intro e
        exact absurd e (hne.2 a ha ea)
      · rw [if_neg ea, if_neg eb]
        exact h.apart a b ha hb
  · intro a ha
    rw [List.length_set] at ha
    rw [hgd]
    by_cases ea : a = i
    · rw [if_pos ea, hub]; simp [Value.ownBlock]; exact hne.1
    · rw [if_neg ea]; exact h.beside a ha

/-- a literal of one row -/
theorem OwnU.one {w : World} {base b : Nat} {u : Value} {r : List Int} (hu : OwnI w base u r) (hb : base ≤ w.heap.size) (e : w.heap.size = b) :
    OwnU (w.alloc (.cells #[u] 42)) base (.slice (some ⟨b, 0, none⟩) 1 1) [r] [u] := by
  subst e
  have := World.ownsRow_lit (e := 42) (size := 1) (base := base) w #[u] 1 hb (by unfold maxLen; omega) rfl
  obtain ⟨gu, cu, eu, _, hlu, _⟩ := hu.form
  refine ⟨rfl, this, by simp, fun i hi => ?_, fun i j hi hj _ => ?_, fun i hi => ?_⟩
  · simp at hi; subst hi; exact hu.alloc _
  · simp at hi hj; omega
  · simp at hi; subst hi; subst eu; simp [Value.ownBlock]; omega
/-- an empty literal -/
theorem OwnU.empty (w : World) (base : Nat) (hb : base ≤ w.heap.size) : OwnU (w.alloc (.cells #[] 42)) base (.slice (some ⟨w.heap.size, 0, none⟩) 0 0) [] [] :=
  ⟨rfl, World.ownsRow_made w #[] 0 hb (Nat.zero_le _) rfl, by simp, fun i hi => by simp at hi, fun i j hi => by simp at hi, fun i hi => by simp at hi⟩

end Go.Proofs.Ytdlpcoafbmhjjaa
