/- How slices of integers lie in memory: what is read, what stays when other blocks are written. -/
import Derived.Test.YtdlpcoafbmhjjaaDraw2
namespace Go.Proofs.Ytdlpcoafbmhjjaa
open Go.RowKit

theorem ret_v {u v : Value} (h : u = v) : Ending.returned u = .returned v := by rw [h]
theorem ret_i {k : IntKind} {a b : Int} (h : a = b) : Ending.returned (.int k a) = .returned (.int k b) := by rw [h]

/-- behind the address a lie the integers zs, in blocks of which P holds -/
def RowIn (w : World) (P : Nat → Prop) (a : Option Addr) (zs : List Int) : Prop :=
  ∀ i, i < zs.length → ∃ b off, a = some ⟨b, off, none⟩ ∧ P b ∧ w.cell? ⟨b, off + i, none⟩ = some (.int .i64 (zs[i]?.getD 0))

/-- the value v is a slice of the integers zs -/
def IntS (w : World) (P : Nat → Prop) (v : Value) (zs : List Int) : Prop :=
  ∃ a cap, v = .slice a zs.length cap ∧ zs.length ≤ cap ∧ RowIn w P a zs

theorem RowIn.kept {w w' : World} {P : Nat → Prop} {a : Option Addr} {zs : List Int} (h : RowIn w P a zs)
    (hk : ∀ k, P k → k < w.heap.size → w'.heap[k]? = w.heap[k]?) : RowIn w' P a zs := by
  intro i hi
  obtain ⟨b, off, ha, hb, hc⟩ := h i hi
  exact ⟨b, off, ha, hb, (World.cell?_of_block (hk b hb (World.block_lt_of_cell? _ _ hc))).trans hc⟩
theorem RowIn.mono {w : World} {P Q : Nat → Prop} {a : Option Addr} {zs : List Int} (h : RowIn w P a zs)
    (hk : ∀ k, P k → k < w.heap.size → Q k) : RowIn w Q a zs := by
  intro i hi
  obtain ⟨b, off, ha, hb, hc⟩ := h i hi
  exact ⟨b, off, ha, hk b hb (World.block_lt_of_cell? _ _ hc), hc⟩

theorem IntS.kept {w w' : World} {P : Nat → Prop} {v : Value} {zs : List Int} (h : IntS w P v zs)
    (hk : ∀ k, P k → k < w.heap.size → w'.heap[k]? = w.heap[k]?) : IntS w' P v zs := by
  obtain ⟨a, cap, hv, hl, hr⟩ := h
  exact ⟨a, cap, hv, hl, hr.kept hk⟩
theorem IntS.mono {w : World} {P Q : Nat → Prop} {v : Value} {zs : List Int} (h : IntS w P v zs)
    (hk : ∀ k, P k → k < w.heap.size → Q k) : IntS w Q v zs := by
  obtain ⟨a, cap, hv, hl, hr⟩ := h
  exact ⟨a, cap, hv, hl, hr.mono hk⟩
theorem IntS.any {w : World} {P : Nat → Prop} {v : Value} {zs : List Int} (h : IntS w P v zs) : IntS w (fun _ => True) v zs := h.mono (fun _ _ _ => trivial)
theorem IntS.below {w w' : World} {P : Nat → Prop} {v : Value} {zs : List Int} (h : IntS w P v zs) (hb : Below w.heap.size w w') : IntS w' P v zs :=
  h.kept (fun k _ hk => hb.block k hk)
theorem IntS.grown {w w' : World} {P : Nat → Prop} {v : Value} {zs : List Int} {row : Option Nat} (h : IntS w P v zs) (hg : w.grownBy w' row)
    (hr : ∀ k, row = some k → ¬ P k) : IntS w' P v zs :=
  h.kept (fun k hp hk => hg.block k hk (fun e => hr k e.symm hp))
theorem IntS.alloc {w : World} {P : Nat → Prop} {v : Value} {zs : List Int} (h : IntS w P v zs) (o : Obj) : IntS (w.alloc o) P v zs :=
  h.kept (fun _ _ hk => Below.heap_alloc _ _ _ hk)
theorem IntS.drewN {w : World} {P : Nat → Prop} {v : Value} {zs : List Int} (h : IntS w P v zs) (n : Nat) : IntS (w.drewN n) P v zs := h
theorem IntS.drew {w : World} {P : Nat → Prop} {v : Value} {zs : List Int} (h : IntS w P v zs) : IntS w.drew P v zs := h

/-- a slice of integers that came in -/
theorem IntS.of_isRow {w : World} {a : Option Addr} {len cap : Nat} {zs : List Int} (h : IsRow .i64 w a len cap zs) : IntS w (fun _ => True) (.slice a len cap) (zs.take len) := by
  rcases h with ⟨rfl, rfl, rfl, rfl⟩ | ⟨x, rfl, h1, h2, h3, h4, h5⟩
  · exact ⟨none, 0, rfl, Nat.le_refl _, fun i hi => by simp at hi⟩
  · have hl : (zs.take len).length = len := by simp; omega
    refine ⟨some x, cap, by rw [hl], by omega, fun i hi => ?_⟩
    rw [hl] at hi
    obtain ⟨b, off, rfl, hc⟩ := ints_at h4 (by omega)
    refine ⟨b, off, rfl, trivial, ?_⟩
    rw [hc i (by omega), List.getD_eq_getElem?_getD, List.getElem?_take, if_pos hi]

/-- a slice of the call's own -/
theorem IntS.of_owns {w : World} {base : Nat} {e : TypeId} {v : Value} {zs : List Int} (h : w.ownsRow base e 1 v zs.length (zs.map (Value.int .i64))) : IntS w (base ≤ ·) v zs := by
  rcases h.2 with ⟨rfl, h0⟩ | ⟨g, cap, cur, rfl, hb, hh, hn, hm, hs, ht⟩
  · exact ⟨none, 0, by rw [h0], by omega, fun i hi => by omega⟩
  · refine ⟨_, cap, rfl, hn, fun i hi => ⟨g, 0, rfl, hb, ?_⟩⟩
    have := h.cellAt i (by omega)
    rw [Nat.zero_add, this, List.getElem?_map, List.getElem?_eq_getElem hi]
    rfl

theorem take_snoc {zs : List Int} {k : Nat} (h : k < zs.length) : zs.take (k + 1) = zs.take k ++ [zs[k]?.getD 0] := by
  rw [List.take_succ_eq_append_getElem h, List.getElem?_eq_getElem h]; rfl

end Go.Proofs.Ytdlpcoafbmhjjaa
