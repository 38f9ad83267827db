/- A slice of slices of integers that came in, opened. -/
import Derived.Test.YtihkahojicafiaaMemT
import Derived.Deep.Matrix
import Derived.ProofKit
namespace Go.Proofs.Ytihkahojicafiaa
open Go.RowKit Go.Deep

/-- what a walk is told of a slice of slices of integers that came in -/
def ArgT (w : World) (a : Option Addr) (len cap : Nat) (t : List (List Int)) : Prop :=
  IntSS w (fun _ => True) (.slice a len cap) t ∧ t.length ≤ maxLen ∧ (∀ r ∈ t, r.length ≤ maxLen) ∧ ∀ r ∈ t, ∀ z ∈ r, (Lit.int .i64 z).wf = true

theorem open_tab {H : Type} {enc : TypeId × Value → H} {P : Program} {w : World} {base : Nat} {held : Bool} {t e q : TypeId} {fuel : Nat} {a : Option Addr} {len cap : Nat} {x : DataW H × List MemPlace}
    (ht : P.underlying t = some (.slice e)) (he : P.underlying e = some (.slice q)) (hq : P.underlying q = some (.int .i64))
    (ce : P.cellsOf e = 1) (cq : P.cellsOf q = 1) (h : DataW.trod enc P w base (fun _ => true) held fuel t [.slice a len cap] = some x) : ∃ tt, ArgT w a len cap tt := by
  rcases open_int_rows ht he hq ce cq h with ⟨hcs, _⟩ | ⟨ad, len', cap', A, L, C, Z, hcs, _, hl, hm, _, hr⟩
  · simp at hcs
    obtain ⟨rfl, rfl, rfl⟩ := hcs
    exact ⟨[], ⟨none, 0, rfl, Nat.le_refl _, fun i hi => by simp at hi⟩, Nat.zero_le _, by simp, by simp⟩
  · simp at hcs
    obtain ⟨rfl, rfl, rfl⟩ := hcs
    have hlen : ((List.range len).map fun r => (Z r).take (L r)).length = len := by simp
    have hrow : ∀ r, r < len → ((List.range len).map fun r => (Z r).take (L r))[r]?.getD [] = (Z r).take (L r) := by
      intro r hrl
      simp [List.getElem?_map, List.getElem?_range hrl]
    have hrl : ∀ r, r < len → ((Z r).take (L r)).length = L r := by
      intro r hlt
      obtain ⟨_, h1, _, h3, _⟩ := hr r (by omega)
      simp; omega
    refine ⟨(List.range len).map fun r => (Z r).take (L r), ⟨some ad, cap, by rw [hlen], by rw [hlen]; exact hl, fun i hi => ?_⟩, by rw [hlen]; omega, ?_, ?_⟩
    · rw [hlen] at hi
      obtain ⟨hc, h1, h2, h3, h4, h5, h6⟩ := hr i (by omega)
      obtain ⟨b, off, spot⟩ := ad
      have hspot : spot = none := by simpa [Addr.add] using World.cell?_spot (hr 0 (by omega)).1
      subst hspot
      rw [hrow i hi, hrl i hi]
      refine ⟨b, off, A i, C i, rfl, trivial, by rw [← Go.WideShapes.add_plain]; exact hc, h1, fun j hj => ?_⟩
      rw [hrl i hi] at hj
      cases hA : A i with
      | none => have := h5 hA; omega
      | some a' =>
        obtain ⟨_, hcell⟩ := h6 a' hA
        have hcj := hcell j (by omega)
        obtain ⟨b2, off2, spot2⟩ := a'
        have hspot2 : spot2 = none := by simpa [Addr.add] using World.cell?_spot (hcell 0 (by omega))
        subst hspot2
        refine ⟨b2, off2, rfl, trivial, ?_⟩
        rw [← Go.WideShapes.add_plain, hcj, List.getD_eq_getElem?_getD, List.getElem?_take, if_pos hj]
    · intro r hmem
      obtain ⟨i, hi, rfl⟩ := List.mem_map.1 hmem
      have hi' := List.mem_range.1 hi
      obtain ⟨_, h1, h2, h3, _⟩ := hr i (by omega)
      simp; omega
    · intro r hmem z hz
      obtain ⟨i, hi, rfl⟩ := List.mem_map.1 hmem
      have hi' := List.mem_range.1 hi
      obtain ⟨_, _, _, _, h4, _⟩ := hr i (by omega)
      exact h4 z (List.mem_of_mem_take hz)

end Go.Proofs.Ytihkahojicafiaa
