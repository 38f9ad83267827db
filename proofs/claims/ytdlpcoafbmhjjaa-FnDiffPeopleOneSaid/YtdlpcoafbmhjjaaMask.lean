/- Masks of the call's own: rows of flags. -/
import Derived.Test.YtdlpcoafbmhjjaaOwnT2
import Derived.Deep.RegionLaw
namespace Go.Proofs.Ytdlpcoafbmhjjaa
open Go.RowKit

theorem Try.info_bool : (Try.prog.info? 4).map (fun i => (i.zero, i.size, i.bytes)) = some (some (.bool false), 1, 1) := by kernel_rfl
theorem Try.info_brow : (Try.prog.info? 71).map (fun i => (i.zero, i.size, i.bytes)) = some (some (.slice none 0 0), 1, 24) := by kernel_rfl

/-- the mask of the call's own holds the rows m; us: the rows' values, which may be nil -/
structure OwnB (w : World) (base g n cap : Nat) (m : List (List Bool)) (us : List Value) : Prop where
  lenU : us.length = n
  lenM : m.length = n
  outer : w.ownsRow base 71 1 (.slice (some ⟨g, 0, none⟩) n cap) n us
  rows : ∀ i, i < n → w.ownsRow base 4 1 (us[i]?.getD (.slice none 0 0)) (m[i]?.getD []).length ((m[i]?.getD []).map Value.bool)
  apart : ∀ i j, i < n → j < n → ∀ k, (us[i]?.getD (.slice none 0 0)).ownBlock = some k → (us[j]?.getD (.slice none 0 0)).ownBlock = some k → i = j
  beside : ∀ i, i < n → (us[i]?.getD (.slice none 0 0)).ownBlock ≠ some g

/-- the blocks of a mask -/
def blksB (g : Nat) (us : List Value) (k : Nat) : Prop := k = g ∨ ∃ i, i < us.length ∧ (us[i]?.getD (.slice none 0 0)).ownBlock = some k
theorem OwnB.blk {w : World} {base g n cap : Nat} {m : List (List Bool)} {us : List Value} (h : OwnB w base g n cap m us) {k : Nat} (hk : blksB g us k) : base ≤ k ∧ k < w.heap.size := by
  rcases hk with rfl | ⟨i, hi, hk⟩
  · exact h.outer.lt k rfl
  · exact (h.rows i (by rw [← h.lenU]; exact hi)).lt k hk
theorem OwnB.keptB {w w' : World} {base g n cap : Nat} {m : List (List Bool)} {us : List Value} {row : Option Nat} (h : OwnB w base g n cap m us) (hg : w.grownBy w' row) (hr : ∀ k, row = some k → ¬ blksB g us k) : OwnB w' base g n cap m us := by
  refine ⟨h.lenU, h.lenM, h.outer.kept hg (.inr fun e => hr g e.symm (.inl rfl)), fun i hi => ?_, h.apart, h.beside⟩
  refine (h.rows i hi).kept hg ?_
  cases e : (us[i]?.getD (.slice none 0 0)).ownBlock with
  | none => exact .inl rfl
  | some k => exact .inr fun e2 => hr k e2.symm (.inr ⟨i, by rw [h.lenU]; exact hi, e⟩)
theorem OwnB.alloc {w : World} {base g n cap : Nat} {m : List (List Bool)} {us : List Value} (h : OwnB w base g n cap m us) (o : Obj) : OwnB (w.alloc o) base g n cap m us :=
  h.keptB (World.grownBy_alloc w o none) (by simp)
theorem OwnB.drewN {w : World} {base g n cap : Nat} {m : List (List Bool)} {us : List Value} (h : OwnB w base g n cap m us) (k : Nat) : OwnB (w.drewN k) base g n cap m us :=
  h.keptB (row := none) (grow_drewN (grow_refl _ _) k) (by simp)
theorem OwnB.mono {w : World} {base base' g n cap : Nat} {m : List (List Bool)} {us : List Value} (h : OwnB w base g n cap m us) (hb : base' ≤ base) : OwnB w base' g n cap m us :=
  ⟨h.lenU, h.lenM, h.outer.mono hb, fun i hi => (h.rows i hi).mono hb, h.apart, h.beside⟩
theorem OwnB.cell {w : World} {base g n cap : Nat} {m : List (List Bool)} {us : List Value} (h : OwnB w base g n cap m us) {i : Nat} (hi : i < n) : w.cell? ⟨g, i, none⟩ = some (us[i]?.getD (.slice none 0 0)) := by
  rw [h.outer.cellAt i (by omega), List.getElem?_eq_getElem (by rw [h.lenU]; exact hi)]; rfl
theorem OwnB.frozen {w : World} {base g n cap : Nat} {m : List (List Bool)} {us : List Value} (h : OwnB w base g n cap m us) (i : Nat) : w.frozen? ⟨g, i, none⟩ = false := h.outer.frozenAt i
/-- a row's form -/
theorem OwnB.row {w : World} {base g n cap : Nat} {m : List (List Bool)} {us : List Value} (h : OwnB w base g n cap m us) {i : Nat} (hi : i < n) :
    ∃ ai ci, us[i]?.getD (.slice none 0 0) = .slice ai (m[i]?.getD []).length ci ∧ ∀ j, j < (m[i]?.getD []).length → ∃ b, ai = some ⟨b, 0, none⟩ ∧ w.cell? ⟨b, j, none⟩ = some (.bool ((m[i]?.getD [])[j]?.getD false)) := by
  have hr := h.rows i hi
  rcases hr.2 with ⟨e, h0⟩ | ⟨b, ci, cur, e, _⟩
  · exact ⟨none, 0, by rw [e, h0], fun j hj => by omega⟩
  · refine ⟨_, ci, e, fun j hj => ⟨b, rfl, ?_⟩⟩
    rw [e] at hr
    rw [hr.cellAt j (by omega), List.getElem?_map, List.getElem?_eq_getElem hj]
    rfl

theorem getD_setB {us : List Value} {i k : Nat} {u : Value} (hi : i < us.length) : (us.set i u)[k]?.getD (.slice none 0 0) = if k = i then u else us[k]?.getD (.slice none 0 0) := by
  rw [List.getElem?_set]
  by_cases e : i = k
  · subst e; simp [hi]
  · rw [if_neg e, if_neg (fun h => e h.symm)]
theorem getD_setM {m : List (List Bool)} {i k : Nat} {r : List Bool} (hi : i < m.length) : (m.set i r)[k]?.getD [] = if k = i then r else m[k]?.getD [] := by
  rw [List.getElem?_set]
  by_cases e : i = k
  · subst e; simp [hi]
  · rw [if_neg e, if_neg (fun h => e h.symm)]

/-- a row is replaced by another, that lies in its block or in a new one -/
theorem OwnB.setRow {w w' : World} {base g n cap : Nat} {m : List (List Bool)} {us : List Value} {u : Value} {r : List Bool} (h : OwnB w base g n cap m us) {i : Nat} (hi : i < n)
    (hw : w.grownBy w' (us[i]?.getD (.slice none 0 0)).ownBlock) (hu : w'.ownsRow base 4 1 u r.length (r.map Value.bool)) (hat : u.ownBlock = (us[i]?.getD (.slice none 0 0)).ownBlock ∨ ∃ k, u.ownBlock = some k ∧ w.heap.size ≤ k) :
    OwnB (w'.setCell ⟨g, i, none⟩ u) base g n cap (m.set i r) (us.set i u) := by
  have hlu := h.lenU
  have hlm := h.lenM
  have hg : w'.grownBy (w'.setCell ⟨g, i, none⟩ u) (some g) := grow_set (grow_refl _ _) _ _
  have hgl : g < w.heap.size := (h.outer.lt g rfl).2
  have hub : ∀ k, u.ownBlock = some k → k ≠ g ∧ ∀ j, j < n → j ≠ i → (us[j]?.getD (.slice none 0 0)).ownBlock ≠ some k := by
    intro k hk
    rcases hat with e | ⟨k', e, hk'⟩
    · refine ⟨fun e2 => h.beside i hi (by rw [← e, hk, e2]), fun j hj hji e2 => hji (h.apart j i hj hi k e2 (by rw [← e]; exact hk))⟩
    · rw [hk] at e; cases e
      exact ⟨by omega, fun j hj _ e2 => by have := ((h.rows j hj).lt k e2).2; omega⟩
  refine ⟨by simp [hlu], by simp [hlm], ((h.outer.kept hw (.inr fun e => h.beside i hi e.symm)).stored i u).1, fun k hk => ?_, fun a b ha hb k => ?_, fun a ha => ?_⟩
  · rw [getD_setM (by omega), getD_setB (by omega)]
    by_cases e : k = i
    · rw [if_pos e, if_pos e]
      refine hu.kept hg ?_
      cases e2 : u.ownBlock with
      | none => exact .inl rfl
      | some q => exact .inr fun e3 => (hub q e2).1 (by cases e3; rfl)
    · rw [if_neg e, if_neg e]
      refine ((h.rows k hk).kept hw ?_).kept hg (.inr (h.beside k hk))
      cases e2 : (us[k]?.getD (.slice none 0 0)).ownBlock with
      | none => exact .inl rfl
      | some q => exact .inr fun e3 => e (h.apart k i hk hi q e2 e3.symm)
  · rw [getD_setB (by omega), getD_setB (by omega)]
    by_cases ea : a = i
    · by_cases eb : b = i
      · intro _ _; omega
      · rw [if_pos ea, if_neg eb]
        intro h1 h2
        exact absurd h2 ((hub k h1).2 b hb eb)
    · by_cases eb : b = i
      · rw [if_neg ea, if_pos eb]
        intro h1 h2
        exact absurd h1 ((hub k h2).2 a ha ea)
      · rw [if_neg ea, if_neg eb]
        exact h.apart a b ha hb k
  · rw [getD_setB (by omega)]
    by_cases ea : a = i
    · rw [if_pos ea]; intro e; exact (hub g e).1 rfl
    · rw [if_neg ea]; exact h.beside a ha

/-- one row more -/
theorem OwnB.push {w w' : World} {base g n cap : Nat} {v' : Value} {m : List (List Bool)} {us : List Value} {u : Value} {r : List Bool} (h : OwnB w base g n cap m us) (hu : w.ownsRow base 4 1 u r.length (r.map Value.bool)) (hf : ∀ k, u.ownBlock = some k → ¬ blksB g us k)
    (ho : w'.ownsRow base 71 1 v' (n + 1) (us ++ [u])) (hg : w.grownBy w' (some g)) (hn : ¬ v' = .slice none 0 0) (hat : v'.ownBlock = some g ∨ ∃ k, v'.ownBlock = some k ∧ w.heap.size ≤ k) :
    ∃ g' cap', v' = .slice (some ⟨g', 0, none⟩) (n + 1) cap' ∧ n + 1 ≤ cap' ∧ OwnB w' base g' (n + 1) cap' (m ++ [r]) (us ++ [u]) := by
  have hlu := h.lenU
  have hlm := h.lenM
  rcases ho.2 with ⟨e, _⟩ | ⟨g', cap', cur, rfl, hb, hh, hc, _⟩
  · exact absurd e hn
  have hug : u.ownBlock ≠ some g := fun e => hf g e (.inl rfl)
  have hlt : ∀ i, i < n → (us ++ [u])[i]?.getD (.slice none 0 0) = us[i]?.getD (.slice none 0 0) ∧ (m ++ [r])[i]?.getD [] = m[i]?.getD [] := fun i hi =>
    ⟨by rw [List.getElem?_append_left (by omega)], by rw [List.getElem?_append_left (by omega)]⟩
  have hlast : (us ++ [u])[n]?.getD (.slice none 0 0) = u ∧ (m ++ [r])[n]?.getD [] = r := ⟨by rw [← hlu]; simp, by rw [← hlm]; simp⟩
  have hold : ∀ i, i < n → ∀ k, (us[i]?.getD (.slice none 0 0)).ownBlock = some k → u.ownBlock ≠ some k := fun i hi k hk e => hf k e (.inr ⟨i, by omega, hk⟩)
  have hg' : (∀ i, i < n → (us[i]?.getD (.slice none 0 0)).ownBlock ≠ some g') ∧ u.ownBlock ≠ some g' := by
    rcases hat with e | ⟨k, e, hk⟩
    · have e' : g' = g := by simpa [Value.ownBlock] using e
      subst e'; exact ⟨h.beside, hug⟩
    · have e' : g' = k := by simpa [Value.ownBlock] using e
      subst e'
      exact ⟨fun i hi e3 => by have := ((h.rows i hi).lt _ e3).2; omega, fun e3 => by have := (hu.lt _ e3).2; omega⟩
  refine ⟨g', cap', rfl, hc, by simp [hlu], by simp [hlm], ho, fun i hi => ?_, fun a b ha hb k => ?_, fun i hi => ?_⟩
  · by_cases e : i = n
    · subst e
      rw [hlast.1, hlast.2]
      refine hu.kept hg ?_
      exact .inr hug
    · rw [(hlt i (by omega)).1, (hlt i (by omega)).2]
      exact (h.rows i (by omega)).kept hg (.inr (h.beside i (by omega)))
  · by_cases ea : a = n
    · by_cases eb : b = n
      · intro _ _; omega
      · subst ea
        rw [hlast.1, (hlt b (by omega)).1]
        intro h1 h2
        exact absurd h1 (hold b (by omega) k h2)
    · by_cases eb : b = n
      · subst eb
        rw [hlast.1, (hlt a (by omega)).1]
        intro h1 h2
        exact absurd h2 (hold a (by omega) k h1)
      · rw [(hlt a (by omega)).1, (hlt b (by omega)).1]
        exact h.apart a b (by omega) (by omega) k
  · by_cases e : i = n
    · subst e; rw [hlast.1]; exact hg'.2
    · rw [(hlt i (by omega)).1]; exact hg'.1 i (by omega)

/-- an empty literal -/
theorem OwnB.empty (w : World) (base : Nat) (hb : base ≤ w.heap.size) : OwnB (w.alloc (.cells #[] 71)) base w.heap.size 0 0 [] [] :=
  ⟨rfl, rfl, World.ownsRow_made w #[] 0 hb (Nat.zero_le _) rfl, fun i hi => by omega, fun i j hi => by omega, fun i hi => by omega⟩
/-- rows that are nil -/
theorem OwnB.made (w : World) (base n : Nat) (hb : base ≤ w.heap.size) (hn : n ≤ maxLen) :
    OwnB (w.alloc (.cells (madeCells #[.slice none 0 0] n) 71)) base w.heap.size n n (List.replicate n []) (List.replicate n (.slice none 0 0)) := by
  have := World.ownsRow_lit (e := 71) (size := 1) (base := base) w (madeCells #[.slice none 0 0] n) n hb hn (by simp [madeCells])
  rw [toList_madeCells_one] at this
  have hz : ∀ i : Nat, (List.replicate n (Value.slice none 0 0))[i]?.getD (.slice none 0 0) = .slice none 0 0 := fun i => by
    rw [List.getElem?_replicate]; split <;> rfl
  refine ⟨by simp, by simp, this, fun i hi => ?_, fun i j _ _ k h => ?_, fun i _ h => ?_⟩
  · rw [hz, List.getElem?_replicate, if_pos hi]; exact World.ownsRow_nil _ _ _ _
  · rw [hz] at h; cases h
  · rw [hz] at h; cases h

end Go.Proofs.Ytdlpcoafbmhjjaa
