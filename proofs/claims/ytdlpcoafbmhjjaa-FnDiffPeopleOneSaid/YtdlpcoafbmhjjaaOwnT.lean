/- Tables of the call's own: an outer slice and rows, each in a block of its own. -/
import Derived.Test.YtdlpcoafbmhjjaaInts
import Derived.Test.YtdlpcoafbmhjjaaMemT
import Derived.Test.YtdlpcoafbmhjjaaKeyD0
namespace Go.Proofs.Ytdlpcoafbmhjjaa
open Go.RowKit

theorem Try.info_row : (Try.prog.info? 42).map (fun i => (i.zero, i.size, i.bytes)) = some (some (.slice none 0 0), 1, 24) := by kernel_rfl

/-- the table v of the call's own holds the rows t; us: the rows' values -/
structure OwnU (w : World) (base : Nat) (v : Value) (t : List (List Int)) (us : List Value) : Prop where
  len : us.length = t.length
  outer : w.ownsRow base 42 1 v t.length us
  nonnil : v ≠ .slice none 0 0
  rows : ∀ i, i < t.length → OwnI w base (us[i]?.getD (.slice none 0 0)) (t[i]?.getD [])
  apart : ∀ i j, i < t.length → j < t.length → (us[i]?.getD (.slice none 0 0)).ownBlock = (us[j]?.getD (.slice none 0 0)).ownBlock → i = j
  beside : ∀ i, i < t.length → (us[i]?.getD (.slice none 0 0)).ownBlock ≠ v.ownBlock

theorem OwnU.form {w : World} {base : Nat} {v : Value} {t : List (List Int)} {us : List Value} (h : OwnU w base v t us) :
    ∃ g cap, v = .slice (some ⟨g, 0, none⟩) t.length cap ∧ base ≤ g ∧ g < w.heap.size ∧ t.length ≤ cap ∧ cap ≤ maxLen := by
  rcases h.outer.2 with ⟨rfl, h0⟩ | ⟨g, cap, cur, rfl, hb, hh, hn, hm, hs, ht⟩
  · exact absurd rfl h.nonnil
  · exact ⟨g, cap, rfl, hb, (Array.getElem?_eq_some_iff.1 hh).1, hn, hm⟩

/-- a row's form -/
theorem OwnU.row {w : World} {base : Nat} {g n cap : Nat} {t : List (List Int)} {us : List Value} (h : OwnU w base (.slice (some ⟨g, 0, none⟩) n cap) t us) {i : Nat} (hi : i < t.length) :
    ∃ gi ci, us[i]? = some (.slice (some ⟨gi, 0, none⟩) (t[i]?.getD []).length ci) ∧ w.cell? ⟨g, i, none⟩ = some (.slice (some ⟨gi, 0, none⟩) (t[i]?.getD []).length ci) ∧ base ≤ gi ∧ gi < w.heap.size ∧ gi ≠ g ∧ (t[i]?.getD []).length ≤ ci ∧ ci ≤ maxLen ∧ OwnI w base (.slice (some ⟨gi, 0, none⟩) (t[i]?.getD []).length ci) (t[i]?.getD []) := by
  have hu : i < us.length := by rw [h.len]; exact hi
  have ho := h.rows i hi
  obtain ⟨gi, ci, hv, hb, hlt, hl, hm⟩ := ho.form
  have he : us[i]? = some (.slice (some ⟨gi, 0, none⟩) (t[i]?.getD []).length ci) := by
    rw [List.getElem?_eq_getElem hu] at hv ⊢
    simp only [Option.getD_some] at hv
    rw [hv]
  have hn : n = t.length := by obtain ⟨_, _, h1, _⟩ := h.form; cases h1; rfl
  refine ⟨gi, ci, he, ?_, hb, hlt, ?_, hl, hm, by rw [hv] at ho; exact ho⟩
  · subst hn
    rw [h.outer.cellAt i (by omega), he]
  · intro e
    have := h.beside i hi
    rw [hv] at this
    exact this (by rw [e]; rfl)

theorem OwnU.ints {w : World} {base : Nat} {v : Value} {t : List (List Int)} {us : List Value} (h : OwnU w base v t us) : IntSS w (base ≤ ·) v t := by
  obtain ⟨g, cap, rfl, hb, _, hl, _⟩ := h.form
  refine ⟨_, cap, rfl, hl, fun i hi => ?_⟩
  obtain ⟨gi, ci, _, hc, _, _, _, hli, _, ho⟩ := h.row hi
  refine ⟨g, 0, some ⟨gi, 0, none⟩, ci, rfl, hb, by rw [Nat.zero_add]; exact hc, hli, ?_⟩
  obtain ⟨a, c, hv, _, hr⟩ := ho.ints
  cases hv
  exact hr

/-- other blocks are written, memory is made -/
theorem OwnU.kept {w w' : World} {base : Nat} {v : Value} {t : List (List Int)} {us : List Value} {row : Option Nat} (h : OwnU w base v t us) (hg : w.grownBy w' row) (hr : ∀ k, row = some k → k < base) : OwnU w' base v t us := by
  refine ⟨h.len, h.outer.kept hg ?_, h.nonnil, fun i hi => (h.rows i hi).kept hg hr, h.apart, h.beside⟩
  obtain ⟨g, cap, rfl, hb, _⟩ := h.form
  right
  intro e
  have := hr g e.symm
  omega

end Go.Proofs.Ytdlpcoafbmhjjaa
