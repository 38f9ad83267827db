/- Lists of tables of the call's own. -/
import Derived.Test.YtigdgcpjkeaooaaKeeps
import Derived.Test.YtigdgcpjkeaooaaSlices
namespace Go.Proofs.Ytigdgcpjkeaooaa
open Go.RowKit

theorem Try.info_tab : (Try.prog.info? 23).map (fun i => (i.zero, i.size, i.bytes)) = some (some (.slice none 0 0), 1, 24) := by kernel_rfl

/-- the list v of the call's own holds the tables L; us: the tables' values; vs: their rows' -/
structure OwnLs (w : World) (base : Nat) (v : Value) (L : List (List (List Int))) (us : List Value) (vs : List (List Value)) : Prop where
  outer : w.ownsRow base 23 1 v L.length us
  nonnil : v ≠ .slice none 0 0
  tabs : ∀ i, i < L.length → OwnU w base (us[i]?.getD (.slice none 0 0)) (L[i]?.getD []) (vs[i]?.getD [])
  beside : ∀ i, i < L.length → ∀ k, blksU (us[i]?.getD (.slice none 0 0)) (vs[i]?.getD []) k → v.ownBlock ≠ some k
  len : vs.length = L.length

theorem OwnLs.us {w : World} {base : Nat} {v : Value} {L : List (List (List Int))} {us : List Value} {vs : List (List Value)} (h : OwnLs w base v L us vs) : us.length = L.length := by have := h.outer.1; omega
theorem OwnLs.form {w : World} {base : Nat} {v : Value} {L : List (List (List Int))} {us : List Value} {vs : List (List Value)} (h : OwnLs w base v L us vs) :
    ∃ g cap, v = .slice (some ⟨g, 0, none⟩) L.length cap ∧ base ≤ g ∧ g < w.heap.size ∧ L.length ≤ cap ∧ cap ≤ maxLen := by
  rcases h.outer.2 with ⟨rfl, h0⟩ | ⟨g, cap, cur, rfl, hb, hh, hn, hm, hs, ht⟩
  · exact absurd rfl h.nonnil
  · exact ⟨g, cap, rfl, hb, (Array.getElem?_eq_some_iff.1 hh).1, hn, hm⟩
/-- the blocks of a list -/
theorem OwnLs.keeps {w w' : World} {Q : Nat → Prop} {base : Nat} {v : Value} {L : List (List (List Int))} {us : List Value} {vs : List (List Value)} (h : OwnLs w base v L us vs) (hk : Keeps Q w w') (hq : ∀ k, base ≤ k → k < w.heap.size → Q k) : OwnLs w' base v L us vs :=
  ⟨ownsRow_keeps h.outer hk (fun k e => by have := h.outer.lt k e; exact hq k this.1 this.2), h.nonnil, fun i hi => (h.tabs i hi).keeps hk (fun k hb => by have := (h.tabs i hi).blk hb; exact hq k this.1 this.2), h.beside, h.len⟩
theorem OwnLs.mono {w : World} {base base' : Nat} {v : Value} {L : List (List (List Int))} {us : List Value} {vs : List (List Value)} (h : OwnLs w base v L us vs) (hb : base' ≤ base) : OwnLs w base' v L us vs :=
  ⟨h.outer.mono hb, h.nonnil, fun i hi => (h.tabs i hi).mono hb, h.beside, h.len⟩

/-- an empty literal -/
theorem OwnLs.empty (w : World) (base : Nat) (hb : base ≤ w.heap.size) : OwnLs (w.alloc (.cells #[] 23)) base (.slice (some ⟨w.heap.size, 0, none⟩) 0 0) [] [] [] :=
  ⟨World.ownsRow_made w #[] 0 hb (Nat.zero_le _) rfl, by simp, fun i hi => by simp at hi, fun i hi => by simp at hi, rfl⟩
/-- a literal of one table -/
theorem OwnLs.one {w : World} {base : Nat} {u : Value} {t : List (List Int)} {us : List Value} (hu : OwnU w base u t us) (hb : base ≤ w.heap.size) :
    OwnLs (w.alloc (.cells #[u] 23)) base (.slice (some ⟨w.heap.size, 0, none⟩) 1 1) [t] [u] [us] := by
  refine ⟨World.ownsRow_lit (e := 23) (size := 1) (base := base) w #[u] 1 hb (by unfold maxLen; omega) rfl, by simp, fun i hi => ?_, fun i hi k hk e => ?_, rfl⟩
  · simp at hi; subst hi; exact hu.alloc _
  · simp at hi; subst hi
    have := (hu.blk hk).2
    simp [Value.ownBlock] at e
    omega
/-- a second list is appended -/
theorem OwnLs.join {w w' : World} {base base2 : Nat} {v v2 v' : Value} {L L2 : List (List (List Int))} {us us2 : List Value} {vs vs2 : List (List Value)} (h : OwnLs w base v L us vs) (h2 : OwnLs w base2 v2 L2 us2 vs2)
    (hb : base ≤ base2) (hv : ∀ k, v.ownBlock = some k → k < base2) (ho : w'.ownsRow base 23 1 v' (L.length + L2.length) (us ++ us2)) (hg : w.grownBy w' v.ownBlock) (hn : ¬ v' = .slice none 0 0)
    (hat : v'.ownBlock = v.ownBlock ∨ v'.ownBlock = some w.heap.size) : OwnLs w' base v' (L ++ L2) (us ++ us2) (vs ++ vs2) := by
  have l1 := h.us
  have l2 := h2.us
  have k1 := h.len
  have t1 : ∀ i, i < L.length → OwnU w' base (us[i]?.getD (.slice none 0 0)) (L[i]?.getD []) (vs[i]?.getD []) := fun i hi => (h.tabs i hi).keptB hg (fun k e hk => h.beside i hi k hk e)
  have t2 : ∀ i, i < L2.length → OwnU w' base (us2[i]?.getD (.slice none 0 0)) (L2[i]?.getD []) (vs2[i]?.getD []) := fun i hi =>
    ((h2.tabs i hi).mono hb).keptB hg (fun k e hk => by have := ((h2.tabs i hi).blk hk).1; have := hv k e; omega)
  have e1 : ∀ i, i < L.length → (us ++ us2)[i]?.getD (.slice none 0 0) = us[i]?.getD (.slice none 0 0) ∧ (L ++ L2)[i]?.getD [] = L[i]?.getD [] ∧ (vs ++ vs2)[i]?.getD [] = vs[i]?.getD [] := fun i hi =>
    ⟨by rw [List.getElem?_append_left (by omega)], by rw [List.getElem?_append_left hi], by rw [List.getElem?_append_left (by omega)]⟩
  have e2 : ∀ i, L.length ≤ i → (us ++ us2)[i]?.getD (.slice none 0 0) = us2[i - L.length]?.getD (.slice none 0 0) ∧ (L ++ L2)[i]?.getD [] = L2[i - L.length]?.getD [] ∧ (vs ++ vs2)[i]?.getD [] = vs2[i - L.length]?.getD [] := fun i hi =>
    ⟨by rw [List.getElem?_append_right (by omega), l1], by rw [List.getElem?_append_right hi], by rw [List.getElem?_append_right (by omega), k1]⟩
  refine ⟨by rw [List.length_append]; exact ho, hn, fun i hi => ?_, fun i hi k hk => ?_, by rw [List.length_append, List.length_append, h.len, h2.len]⟩
  · rw [List.length_append] at hi
    by_cases e : i < L.length
    · rw [(e1 i e).1, (e1 i e).2.1, (e1 i e).2.2]; exact t1 i e
    · rw [(e2 i (by omega)).1, (e2 i (by omega)).2.1, (e2 i (by omega)).2.2]; exact t2 _ (by omega)
  · rw [List.length_append] at hi
    by_cases e : i < L.length
    · rw [(e1 i e).1, (e1 i e).2.2] at hk
      rcases hat with ha | ha
      · rw [ha]; exact h.beside i e k hk
      · rw [ha]; intro e3; cases e3; have := ((h.tabs i e).blk hk).2; omega
    · rw [(e2 i (by omega)).1, (e2 i (by omega)).2.2] at hk
      have hbk := (h2.tabs _ (show i - L.length < L2.length by omega)).blk hk
      rcases hat with ha | ha
      · rw [ha]; intro e3; have := hv k e3; omega
      · rw [ha]; intro e3; cases e3; omega

end Go.Proofs.Ytigdgcpjkeaooaa
