/- How slices of slices of integers lie in memory. -/
import Derived.Test.YtdlpcoafbmhjjaaMem
namespace Go.Proofs.Ytdlpcoafbmhjjaa
open Go.RowKit

/-- behind the address a lie the rows t -/
def RowsIn (w : World) (P : Nat → Prop) (a : Option Addr) (t : List (List Int)) : Prop :=
  ∀ i, i < t.length → ∃ b off ai ci, a = some ⟨b, off, none⟩ ∧ P b ∧ w.cell? ⟨b, off + i, none⟩ = some (.slice ai (t[i]?.getD []).length ci) ∧ (t[i]?.getD []).length ≤ ci ∧ RowIn w P ai (t[i]?.getD [])

/-- the value v is a slice of the rows t -/
def IntSS (w : World) (P : Nat → Prop) (v : Value) (t : List (List Int)) : Prop :=
  ∃ a cap, v = .slice a t.length cap ∧ t.length ≤ cap ∧ RowsIn w P a t

theorem RowsIn.kept {w w' : World} {P : Nat → Prop} {a : Option Addr} {t : List (List Int)} (h : RowsIn w P a t)
    (hk : ∀ k, P k → k < w.heap.size → w'.heap[k]? = w.heap[k]?) : RowsIn w' P a t := by
  intro i hi
  obtain ⟨b, off, ai, ci, ha, hb, hc, hl, hr⟩ := h i hi
  exact ⟨b, off, ai, ci, ha, hb, (World.cell?_of_block (hk b hb (World.block_lt_of_cell? _ _ hc))).trans hc, hl, hr.kept hk⟩
theorem RowsIn.mono {w : World} {P Q : Nat → Prop} {a : Option Addr} {t : List (List Int)} (h : RowsIn w P a t)
    (hk : ∀ k, P k → k < w.heap.size → Q k) : RowsIn w Q a t := by
  intro i hi
  obtain ⟨b, off, ai, ci, ha, hb, hc, hl, hr⟩ := h i hi
  exact ⟨b, off, ai, ci, ha, hk b hb (World.block_lt_of_cell? _ _ hc), hc, hl, hr.mono hk⟩

theorem IntSS.kept {w w' : World} {P : Nat → Prop} {v : Value} {t : List (List Int)} (h : IntSS w P v t)
    (hk : ∀ k, P k → k < w.heap.size → w'.heap[k]? = w.heap[k]?) : IntSS w' P v t := by
  obtain ⟨a, cap, hv, hl, hr⟩ := h
  exact ⟨a, cap, hv, hl, hr.kept hk⟩
theorem IntSS.mono {w : World} {P Q : Nat → Prop} {v : Value} {t : List (List Int)} (h : IntSS w P v t)
    (hk : ∀ k, P k → k < w.heap.size → Q k) : IntSS w Q v t := by
  obtain ⟨a, cap, hv, hl, hr⟩ := h
  exact ⟨a, cap, hv, hl, hr.mono hk⟩
theorem IntSS.any {w : World} {P : Nat → Prop} {v : Value} {t : List (List Int)} (h : IntSS w P v t) : IntSS w (fun _ => True) v t := h.mono (fun _ _ _ => trivial)
theorem IntSS.below {w w' : World} {P : Nat → Prop} {v : Value} {t : List (List Int)} (h : IntSS w P v t) (hb : Below w.heap.size w w') : IntSS w' P v t :=
  h.kept (fun k _ hk => hb.block k hk)
theorem IntSS.grown {w w' : World} {P : Nat → Prop} {v : Value} {t : List (List Int)} {row : Option Nat} (h : IntSS w P v t) (hg : w.grownBy w' row)
    (hr : ∀ k, row = some k → ¬ P k) : IntSS w' P v t :=
  h.kept (fun k hp hk => hg.block k hk (fun e => hr k e.symm hp))
theorem IntSS.alloc {w : World} {P : Nat → Prop} {v : Value} {t : List (List Int)} (h : IntSS w P v t) (o : Obj) : IntSS (w.alloc o) P v t :=
  h.kept (fun _ _ hk => Below.heap_alloc _ _ _ hk)
theorem IntSS.drewN {w : World} {P : Nat → Prop} {v : Value} {t : List (List Int)} (h : IntSS w P v t) (n : Nat) : IntSS (w.drewN n) P v t := h
theorem IntSS.drew {w : World} {P : Nat → Prop} {v : Value} {t : List (List Int)} (h : IntSS w P v t) : IntSS w.drew P v t := h

/-- one of its rows -/
theorem RowsIn.row {w : World} {P : Nat → Prop} {a : Option Addr} {t : List (List Int)} (h : RowsIn w P a t) {i : Nat} (hi : i < t.length) (r : List Int) (hr : t[i]?.getD [] = r) :
    ∃ b off ai ci, a = some ⟨b, off, none⟩ ∧ P b ∧ w.cell? ⟨b, off + i, none⟩ = some (.slice ai r.length ci) ∧ IntS w P (.slice ai r.length ci) r := by
  obtain ⟨b, off, ai, ci, ha, hb, hc, hl, hrr⟩ := h i hi
  rw [hr] at hc hl hrr
  exact ⟨b, off, ai, ci, ha, hb, hc, ai, ci, rfl, hl, hrr⟩

end Go.Proofs.Ytdlpcoafbmhjjaa
