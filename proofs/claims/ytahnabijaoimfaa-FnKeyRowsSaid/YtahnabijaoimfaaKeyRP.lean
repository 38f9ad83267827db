/- Plain functions of the tables of changes; no program in sight. -/
import Derived.Test.YtahnabijaoimfaaKeyP
namespace Go.Proofs.Ytahnabijaoimfaa
open Go.RowKit

/-- a change fits the row for r people -/
def elOk (r : Nat) (c : Int) : Prop := -10 ≤ c ∧ c ≤ 10 ∧ 0 ≤ (r : Int) + c ∧ (r = 0 → c = 0)
instance (r : Nat) (c : Int) : Decidable (elOk r c) := by unfold elOk; infer_instance
/-- a row of changes for r people -/
def rowOk (r : Nat) (row : List Int) : Prop := row.length = 16 ∧ row.sum = 0 ∧ ∀ c ∈ row, elOk r c
instance (r : Nat) (row : List Int) : Decidable (rowOk r row) := by unfold rowOk; infer_instance
/-- a table of changes -/
def rowsOk (t : List (List Int)) : Prop := (∀ i, i < t.length → rowOk i (t[i]?.getD [])) ∧ 1 ≤ t.length ∧ t.length ≤ 8
instance (t : List (List Int)) : Decidable (rowsOk t) := by unfold rowsOk; infer_instance

theorem fold_sum10 {l : List Int} (h : ∀ z ∈ l, -10 ≤ z ∧ z ≤ 10) : ∀ s : Int, -1000000 + 10 * l.length ≤ s → s ≤ 1000000 - 10 * l.length → l.foldl (fun s n => wrap64 (s + n)) s = s + l.sum := by
  induction l with
  | nil => intro s _ _; simp
  | cons a l ih =>
    intro s h0 h1
    have h2 := h a (by simp)
    simp only [List.length_cons] at h0 h1
    rw [List.foldl_cons, IntWalk.wrap64_in _ ⟨by omega, by omega⟩, ih (fun z hz => h z (by simp [hz])) _ (by omega) (by omega), List.sum_cons]
    omega
theorem tot_sum10 {l : List Int} (h : ∀ z ∈ l, -10 ≤ z ∧ z ≤ 10) (hl : l.length ≤ 1000) : tot l = l.sum := by
  unfold tot; rw [fold_sum10 h 0 (by omega) (by omega)]; omega
theorem sum_bd10 {l : List Int} (h : ∀ z ∈ l, -10 ≤ z ∧ z ≤ 10) : -10 * (l.length : Int) ≤ l.sum ∧ l.sum ≤ 10 * (l.length : Int) := by
  induction l with
  | nil => simp
  | cons a l ih =>
    have h1 := h a (by simp)
    have h2 := ih (fun z hz => h z (by simp [hz]))
    simp only [List.sum_cons, List.length_cons]
    omega

theorem rowOk_mk {r : Nat} {row : List Int} (h1 : row.length = 16) (h2 : tot row = 0) (h3 : ∀ c ∈ row, elOk r c) : rowOk r row :=
  ⟨h1, by rw [← tot_sum10 (fun z hz => ⟨(h3 z hz).1, (h3 z hz).2.1⟩) (by omega)]; exact h2, h3⟩
theorem rowOk_tot {r : Nat} {row : List Int} (h : rowOk r row) : tot row = 0 := by
  rw [tot_sum10 (fun z hz => ⟨(h.2.2 z hz).1, (h.2.2 z hz).2.1⟩) (by have := h.1; omega)]; exact h.2.1
theorem rowsOk_bad {t : List (List Int)} {i : Nat} {r : List Int} (hi : i < t.length) (hr : t[i]?.getD [] = r) (h : ¬ rowOk i r) : ¬ rowsOk t := fun k => h (hr ▸ k.1 i hi)
theorem all_snocP {zs : List Int} {k : Nat} {z : Int} {p : Int → Prop} (hs : zs.take (k + 1) = zs.take k ++ [z]) (h : ∀ y ∈ zs.take k, p y) (hz : p z) : ∀ y ∈ zs.take (k + 1), p y := by
  intro y hy
  rw [hs] at hy
  rcases List.mem_append.1 hy with h1 | h1
  · exact h y h1
  · simp at h1; subst h1; exact hz
theorem elOk_bad {row : List Int} {k r : Nat} {c : Int} (hlt : k < row.length) (hc : row[k]?.getD 0 = c) (h : ¬ elOk r c) : ¬ rowOk r row := by
  intro hr
  exact h (hr.2.2 c (by rw [← hc, List.getElem?_eq_getElem hlt]; exact List.getElem_mem hlt))

end Go.Proofs.Ytahnabijaoimfaa
