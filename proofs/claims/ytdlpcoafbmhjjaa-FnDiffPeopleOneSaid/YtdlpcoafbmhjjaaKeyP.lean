/- Plain functions of the key sums; no program in sight. -/
import Derived.WalkKit
namespace Go.Proofs.Ytdlpcoafbmhjjaa
open Go.RowKit

/-- Go's sum of a list: it wraps -/
def tot (l : List Int) : Int := l.foldl (fun s n => wrap64 (s + n)) 0
theorem tot_snoc (l : List Int) (x : Int) : tot (l ++ [x]) = wrap64 (tot l + x) := by unfold tot; rw [List.foldl_append]; rfl

/-- the keys are valid -/
def keyOk (zs : List Int) : Prop := (∀ z ∈ zs, 0 ≤ z ∧ z < 16) ∧ zs.length ≤ 40

theorem sum_snoc (l : List Int) (x : Int) : (l ++ [x]).sum = l.sum + x := by simp
theorem sum_bd {l : List Int} (h : ∀ z ∈ l, 0 ≤ z ∧ z < 16) : 0 ≤ l.sum ∧ l.sum ≤ 15 * l.length := by
  induction l with
  | nil => simp
  | cons a l ih =>
    have h1 := h a (by simp)
    have h2 := ih (fun z hz => h z (by simp [hz]))
    simp only [List.sum_cons, List.length_cons]
    omega
theorem fold_eq_sum {l : List Int} (h : ∀ z ∈ l, 0 ≤ z ∧ z < 16) : ∀ s : Int, 0 ≤ s → s + 15 * l.length ≤ 1000000000 → l.foldl (fun s n => wrap64 (s + n)) s = s + l.sum := by
  induction l with
  | nil => intro s _ _; simp
  | cons a l ih =>
    intro s h0 h1
    have h2 := h a (by simp)
    simp only [List.length_cons] at h1
    rw [List.foldl_cons, IntWalk.wrap64_in _ ⟨by omega, by omega⟩, ih (fun z hz => h z (by simp [hz])) _ (by omega) (by omega), List.sum_cons]
    omega
theorem tot_eq_sum {l : List Int} (h : ∀ z ∈ l, 0 ≤ z ∧ z < 16) (hl : l.length ≤ 1000000) : tot l = l.sum := by
  unfold tot; rw [fold_eq_sum h 0 (by omega) (by omega)]; omega

end Go.Proofs.Ytdlpcoafbmhjjaa
