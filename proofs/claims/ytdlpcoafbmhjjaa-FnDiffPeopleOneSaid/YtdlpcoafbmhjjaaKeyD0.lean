/- Slices of integers of the call's own. -/
import Derived.Test.YtdlpcoafbmhjjaaInts
import Derived.Deep.Onto
namespace Go.Proofs.Ytdlpcoafbmhjjaa
open Go.RowKit

/-- a slice of the call's own that is not nil -/
def OwnI (w : World) (base : Nat) (v : Value) (zs : List Int) : Prop :=
  w.ownsRow base 3 1 v zs.length (zs.map (Value.int .i64)) ∧ v ≠ .slice none 0 0

theorem OwnI.ints {w : World} {base : Nat} {v : Value} {zs : List Int} (h : OwnI w base v zs) : IntS w (base ≤ ·) v zs := IntS.of_owns h.1
theorem OwnI.form {w : World} {base : Nat} {v : Value} {zs : List Int} (h : OwnI w base v zs) : ∃ g cap, v = .slice (some ⟨g, 0, none⟩) zs.length cap ∧ base ≤ g ∧ g < w.heap.size ∧ zs.length ≤ cap ∧ cap ≤ maxLen := by
  rcases h.1.2 with ⟨rfl, h0⟩ | ⟨g, cap, cur, rfl, hb, hh, hn, hm, hs, ht⟩
  · exact absurd rfl h.2
  · exact ⟨g, cap, rfl, hb, (Array.getElem?_eq_some_iff.1 hh).1, hn, hm⟩
theorem OwnI.kept {w w' : World} {base : Nat} {v : Value} {zs : List Int} {row : Option Nat} (h : OwnI w base v zs) (hg : w.grownBy w' row) (hr : ∀ k, row = some k → k < base) : OwnI w' base v zs := by
  refine ⟨h.1.kept hg ?_, h.2⟩
  obtain ⟨g, cap, rfl, hb, _⟩ := h.form
  right
  intro e
  have := hr g e.symm
  omega
theorem OwnI.alloc {w : World} {base : Nat} {v : Value} {zs : List Int} (h : OwnI w base v zs) (o : Obj) : OwnI (w.alloc o) base v zs := ⟨h.1.alloc o, h.2⟩
/-- an empty literal -/
theorem OwnI.empty (w : World) (base : Nat) (hb : base ≤ w.heap.size) : OwnI (w.alloc (.cells #[] 3)) base (.slice (some ⟨w.heap.size, 0, none⟩) 0 0) [] :=
  ⟨World.ownsRow_made w #[] 0 hb (Nat.zero_le _) rfl, by simp⟩
/-- behind an append of one number -/
theorem OwnI.push {w w' : World} {base : Nat} {v v' : Value} {zs : List Int} {x : Int} (_ : OwnI w base v zs)
    (ho : w'.ownsRow base 3 1 v' (zs.length + 1) (zs.map (Value.int .i64) ++ [.int .i64 x])) (hn : ¬ v' = .slice none 0 0) : OwnI w' base v' (zs ++ [x]) :=
  ⟨by simpa using ho, hn⟩

def slLen : Value → Nat | .slice _ n _ => n | _ => 0

/-- a step that writes to block g, one that was not there -/
theorem grow_beside {w w2 w3 : World} {B g : Nat} (h : w.grownBy w2 (some B)) (k : w2.grownBy w3 (some g)) (hg : w.heap.size ≤ g) : w.grownBy w3 (some B) :=
  ⟨k.os.trans h.os, k.tape.trans h.tape, k.output.trans h.output, Nat.le_trans h.size k.size, fun j hj hr => by
    rw [k.block j (by have := h.size; omega) (by intro e; cases e; omega), h.block j hj hr]⟩

end Go.Proofs.Ytdlpcoafbmhjjaa
