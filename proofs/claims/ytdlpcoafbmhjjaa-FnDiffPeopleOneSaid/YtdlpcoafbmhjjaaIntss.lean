/- Contracts of the laws' helpers on slices of slices: sizes, copies, comparisons. -/
import Derived.Test.YtdlpcoafbmhjjaaOwnT
namespace Go.Proofs.Ytdlpcoafbmhjjaa
open Go.RowKit

/-- what szIntSS returns -/
def SzP (t : List (List Int)) (left : Int) (w : World) (e : Ending) (w' : World) : Prop :=
  ∃ r, e = .returned (.int .i64 r) ∧ w = w' ∧ -1 ≤ r ∧ r ≤ left ∧ (0 ≤ r → (t.length : Int) ≤ left ∧ ∀ j, j < t.length → ((t[j]?.getD []).length : Int) ≤ left)

/-- a table that is being filled: its first rows -/
structure PartU (w : World) (B n : Nat) (t : List (List Int)) (us : List Value) : Prop where
  le : us.length ≤ n
  outer : w.rowIs B 42 n (fun i => us[i]?.getD (.slice none 0 0))
  rows : ∀ i, i < us.length → OwnI w (B + 1) (us[i]?.getD (.slice none 0 0)) (t[i]?.getD [])
  apart : ∀ i j, i < us.length → j < us.length → (us[i]?.getD (.slice none 0 0)).ownBlock = (us[j]?.getD (.slice none 0 0)).ownBlock → i = j

theorem PartU.start (w : World) (n : Nat) (t : List (List Int)) : PartU (w.alloc (.cells (madeCells #[.slice none 0 0] n) 42)) w.heap.size n t [] :=
  ⟨Nat.zero_le _, (World.rowIs_made w (.slice none 0 0) n 42).congr (fun _ _ => rfl), fun i hi => by simp at hi, fun i j hi => by simp at hi⟩

theorem getD_push {us : List Value} {v d : Value} (i : Nat) : (us ++ [v])[i]?.getD d = if i = us.length then v else us[i]?.getD d := by
  by_cases e : i = us.length
  · subst e; simp
  · rw [if_neg e]
    by_cases h : i < us.length
    · rw [List.getElem?_append_left h]
    · rw [List.getElem?_eq_none (by simp; omega), List.getElem?_eq_none (by omega)]

/-- one row more -/
theorem PartU.step {w w1 : World} {B n : Nat} {t : List (List Int)} {us : List Value} (h : PartU w B n t us) (hlt : us.length < n) (hb : Below w.heap.size w w1) {v : Value} (hv : OwnI w1 w.heap.size v (t[us.length]?.getD [])) :
    PartU (w1.setCell ⟨B, us.length, none⟩ v) B n t (us ++ [v]) := by
  have hB := h.outer.lt
  have g1 : w1.grownBy (w1.setCell ⟨B, us.length, none⟩ v) (some B) := grow_set (grow_refl _ _) _ _
  have hold : ∀ i, i < us.length → OwnI (w1.setCell ⟨B, us.length, none⟩ v) (B + 1) (us[i]?.getD (.slice none 0 0)) (t[i]?.getD []) := fun i hi =>
    ((h.rows i hi).kept (row := none) ⟨hb.os, hb.tape, hb.output, hb.size, fun k hk _ => hb.block k hk⟩ (by simp)).kept g1 (fun k e => by cases e; omega)
  have hnew : OwnI (w1.setCell ⟨B, us.length, none⟩ v) w.heap.size v (t[us.length]?.getD []) := hv.kept g1 (fun k e => by cases e; exact hB)
  obtain ⟨gv, cv, rfl, hgv, _⟩ := hv.form
  have hlo : ∀ i, i < us.length → ∃ gi, (us[i]?.getD (.slice none 0 0)).ownBlock = some gi ∧ gi < w.heap.size := fun i hi => by
    obtain ⟨gi, ci, e, _, hgl, _⟩ := (h.rows i hi).form
    exact ⟨gi, by rw [e]; rfl, hgl⟩
  refine ⟨by simp; omega, ?_, ?_, ?_⟩
  · have ho := (h.outer.of_block (w' := w1) (hb.block B hB)).set us.length (.slice (some ⟨gv, 0, none⟩) (t[us.length]?.getD []).length cv)
    refine ho.congr (fun i hi => ?_)
    rw [getD_push]
  · intro i hi
    simp at hi
    rw [getD_push]
    by_cases e : i = us.length
    · subst e; rw [if_pos rfl]; exact ⟨hnew.1.mono (by omega), hnew.2⟩
    · rw [if_neg e]; exact hold i (by omega)
  · intro i j hi hj
    simp at hi hj
    rw [getD_push, getD_push]
    by_cases ei : i = us.length
    · by_cases ej : j = us.length
      · intro _; omega
      · rw [if_pos ei, if_neg ej]
        intro e
        obtain ⟨gj, e2, hl⟩ := hlo j (by omega)
        rw [e2] at e
        simp [Value.ownBlock] at e
        omega
    · by_cases ej : j = us.length
      · rw [if_neg ei, if_pos ej]
        intro e
        obtain ⟨gj, e2, hl⟩ := hlo i (by omega)
        rw [e2] at e
        simp [Value.ownBlock] at e
        omega
      · rw [if_neg ei, if_neg ej]
        exact h.apart i j (by omega) (by omega)

theorem PartU.done {w : World} {B : Nat} {t : List (List Int)} {us : List Value} (h : PartU w B t.length t us) (hl : us.length = t.length) (hm : t.length ≤ maxLen) : OwnU w B (.slice (some ⟨B, 0, none⟩) t.length t.length) t us := by
  refine ⟨hl, ?_, by simp, fun i hi => ⟨(h.rows i (by omega)).1.mono (by omega), (h.rows i (by omega)).2⟩, fun i j hi hj => h.apart i j (by omega) (by omega), fun i hi => ?_⟩
  · obtain ⟨c, hc, hn, hv⟩ := h.outer
    refine ⟨by rw [hl]; simp, .inr ⟨B, t.length, c, rfl, Nat.le_refl _, hc, Nat.le_refl _, hm, by simp [hn], ?_⟩⟩
    apply List.ext_getElem?
    intro i
    by_cases hi : i < t.length
    · rw [List.getElem?_take, if_pos (by omega), Array.getElem?_toList, hv i hi]; simp [List.getElem?_eq_getElem (show i < us.length by omega)]
    · rw [List.getElem?_eq_none (by simp; omega), List.getElem?_eq_none (by omega)]
  · obtain ⟨gi, ci, e, hb, _⟩ := (h.rows i (by omega)).form
    rw [e]
    simp [Value.ownBlock]
    omega

/-- a copy of a table in new memory -/
def CopiedT (w : World) (t : List (List Int)) (e : Ending) (w' : World) : Prop :=
  ∃ v us, e = .returned v ∧ OwnU w' w.heap.size v t us ∧ Below w.heap.size w w'

/-- two tables that read alike are told equal -/
def SameT (w : World) (e : Ending) (w' : World) : Prop := e = .returned (.bool true) ∧ ∃ n, w' = w.drewN n

end Go.Proofs.Ytdlpcoafbmhjjaa
