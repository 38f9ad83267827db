/- A region that draws its order: a fact of each operation's value, and a state of the world that depends on which operations have been carried out. -/
import Derived.Test.YtdlpcoafbmhjjaaRegF
namespace Go.Proofs.Ytdlpcoafbmhjjaa
open Go.RowKit

structure RegS (ops : Array Oper) (a0 : Act) (G : (Nat → Bool) → World → Prop) (F : Nat → Value → Prop) (bt : Nat → Bool) (a : Act) (w : World) : Prop where
  size : a.tmps.size = a0.tmps.size
  defers : a.defers = a0.defers
  st : G bt w
  old : ∀ s, freeS ops s = true → a.tmps.getD s undef = a0.tmps.getD s undef
  fact : ∀ i o, bt i = true → ops[i]? = some o → F i (dval a o)
  closed : ∀ k o, bt k = true → ops[k]? = some o → ∀ e ∈ o.after, Region.binds .any e = true → bt e.on = true

theorem RegS.put {ops : Array Oper} {a0 : Act} {G : (Nat → Bool) → World → Prop} {F : Nat → Value → Prop} {bt : Nat → Bool} {a : Act} {w w' : World} (st : RegS ops a0 G F bt a w) (hd : distB ops a0.tmps.size = true)
    {i : Nat} {o : Oper} (ho : ops[i]? = some o) {v : Value} (ha : ∀ e ∈ o.after, Region.binds .any e = true → bt e.on = true) (hG : G (fun k => if k = i then true else bt k) w') (hF : F i (if o.dst.isSome then v else undef)) :
    RegS ops a0 G F (fun k => if k = i then true else bt k) (a.put o.dst v) w' := by
  refine ⟨by rw [put_size]; exact st.size, by rw [put_defers]; exact st.defers, hG, fun s hf => by rw [put_getD (free_of hf ho)]; exact st.old s hf, fun k o' hb hk => ?_, fun k o' hb hk e he h2 => ?_⟩
  rotate_left
  · show (if e.on = i then true else bt e.on) = true
    by_cases ek : k = i
    · subst ek
      rw [ho] at hk; cases hk
      have := ha e he h2
      split
      · rfl
      · exact this
    · simp only [if_neg ek] at hb
      have := st.closed k o' hb hk e he h2
      split
      · rfl
      · exact this
  by_cases e : k = i
  · subst e
    rw [ho] at hk
    cases hk
    unfold dval
    cases hdst : o.dst with
    | none => rw [hdst] at hF; exact hF
    | some d =>
      rw [hdst] at hF
      have := (dist_of (k := 0) (o' := o) hd ho hdst).1
      simp only
      rw [put_same (by rw [st.size]; exact this)]
      exact hF
  · simp only [if_neg e] at hb
    have h1 := st.fact k o' hb hk
    have e2 : dval (a.put o.dst v) o' = dval a o' := by
      unfold dval
      cases hk' : o'.dst with
      | none => rfl
      | some d' =>
        simp only
        refine put_getD (fun e3 => ?_)
        exact (dist_of hd ho e3).2 hk e hk'
    rw [e2]; exact h1

theorem region_st {P : Program} {id : Nat} {Q : Exit → Act → World → Prop} {a0 : Act} {w : World} {ops : Array Oper} (hm : P.follows .mixedOrders = true) (he : earlyB ops = true) (hd : distB ops a0.tmps.size = true)
    (G : (Nat → Bool) → World → Prop) (F : Nat → Value → Prop) (hg : G (fun _ => false) w.drew)
    (hstep : ∀ (a : Act) (W : World) (bt : Nat → Bool), G bt W → (∀ s, freeS ops s = true → a.eval (.tmp s) = a0.tmps.getD s undef) → ∀ (i : Nat) (o : Oper), ops[i]? = some o → bt i = false → (∀ k o, bt k = true → ops[k]? = some o → ∀ j, waits o j = true → bt j = true) → (∀ k, waits o k = true → ∀ o', ops[k]? = some o' → F k (dval a o')) →
      Region.wanted o (yielded ops a.tmps) = true ∧ o.wp P a W (fun a' W' => ∃ v, a' = a.put o.dst v ∧ G (fun k => if k = i then true else bt k) W' ∧ F i (if o.dst.isSome then v else undef)) Q)
    (hdone : ∀ (a : Act) (W : World) (bt : Nat → Bool), a.tmps.size = a0.tmps.size → a.defers = a0.defers → G bt W → (∀ k, k < ops.size → bt k = true) → (∀ s, freeS ops s = true → a.tmps.getD s undef = a0.tmps.getD s undef) → (∀ i o, ops[i]? = some o → F i (dval a o)) → Q .normal a W) :
    (Code.region id ops true).wp P Q a0 w := by
  refine wp_region_any hm (wpAny_inv2 (RegS ops a0 G F) (fun listed a W hs' st hr' => ?_) (fun bt a W i o st ho hb ha => ?_) _ _ _ _ (by simp) ?_ ?_)
  · have hl := all_listed (early_of he) listed hs' hr'
    exact hdone a W _ st.size st.defers st.st hl st.old (fun i o ho => st.fact i o (hl i (Array.getElem?_eq_some_iff.1 ho).1) ho)
  · obtain ⟨hw, hk⟩ := hstep a W bt st.st st.old i o ho hb (fun k o' hb' hk' j hj => by
      obtain ⟨e, h1, h2, rfl⟩ := waits_of hj
      exact st.closed k o' hb' hk' e h1 h2) (fun k hk o' ho' => by
      obtain ⟨e, h1, h2, rfl⟩ := waits_of hk
      exact st.fact e.on o' (ha e h1 h2) ho')
    refine .inl ⟨hw, Oper.wp_mono (fun a' W' h => ?_) hk⟩
    obtain ⟨v, rfl, h1, h2⟩ := h
    exact st.put hd ho ha h1 h2
  · unfold cntF; rw [Array.toList_replicate]
    exact Nat.le_trans (List.length_filter_le _ _) (by simp)
  · refine ⟨rfl, rfl, ?_, fun _ _ => rfl, fun i o hb _ => ?_, fun i o hb _ => ?_⟩
    · have e : (fun k => (Array.replicate ops.size false).getD k false) = (fun _ => false) := by
        funext k
        rw [Array.getD_eq_getD_getElem?, Array.getElem?_replicate]
        split <;> rfl
      rw [e]; exact hg
    all_goals
      exfalso
      rw [Array.getD_eq_getD_getElem?, Array.getElem?_replicate] at hb
      split at hb <;> cases hb

/-- all slots that the operations write are of the list -/
def dstB (ops : Array Oper) (L : List Nat) : Bool := ops.toList.all fun o => match o.dst with | some d => L.contains d | none => true
theorem fold_getD (f : Nat → Value) : ∀ (L : List Nat) (t : Array Value) (s : Nat), (L.foldl (fun t s => t.setIfInBounds s (f s)) t).getD s undef = if L.contains s ∧ s < t.size then f s else t.getD s undef
  | [], t, s => by simp
  | x :: L, t, s => by
    rw [List.foldl_cons, fold_getD f L, Array.size_setIfInBounds]
    simp only [Array.getD_eq_getD_getElem?, Array.getElem?_setIfInBounds, List.contains_cons, Bool.or_eq_true, beq_iff_eq]
    by_cases h1 : L.contains s = true ∧ s < t.size
    · rw [if_pos h1, if_pos ⟨.inr h1.1, h1.2⟩]
    · rw [if_neg h1]
      by_cases h2 : x = s
      · subst h2
        by_cases h3 : x < t.size
        · simp [h3]
        · simp [h3]
      · rw [if_neg h2, if_neg (fun h => by
          rcases h.1 with e | e
          · exact h2 e.symm
          · exact h1 ⟨e, h.2⟩)]
theorem fold_size (f : Nat → Value) : ∀ (L : List Nat) (t : Array Value), (L.foldl (fun t s => t.setIfInBounds s (f s)) t).size = t.size
  | [], _ => rfl
  | x :: L, t => by rw [List.foldl_cons, fold_size f L, Array.size_setIfInBounds]
theorem arr_getD_ext {x y : Array Value} (hs : x.size = y.size) (h : ∀ s, x.getD s undef = y.getD s undef) : x = y := by
  refine Array.ext hs (fun i h1 h2 => ?_)
  have := h i
  simpa [Array.getD_eq_getD_getElem?, Array.getElem?_eq_getElem h1, Array.getElem?_eq_getElem h2] using this
/-- the frame behind such a region -/
theorem frame_lit {ops : Array Oper} {a a0 : Act} (L : List Nat) (hL : dstB ops L = true) (hs : a.tmps.size = a0.tmps.size) (hd : a.defers = a0.defers) (h : ∀ s, freeS ops s = true → a.tmps.getD s undef = a0.tmps.getD s undef) :
    ∃ f : Nat → Value, a = { tmps := L.foldl (fun t s => t.setIfInBounds s (f s)) a0.tmps, defers := a0.defers } := by
  refine ⟨fun s => a.tmps.getD s undef, ?_⟩
  cases a with
  | mk tm df =>
    simp only at hs hd h ⊢
    subst hd
    congr 1
    refine arr_getD_ext (by rw [fold_size, hs]) (fun s => ?_)
    rw [fold_getD]
    split
    · rfl
    · rename_i hn
      by_cases hlt : s < a0.tmps.size
      · refine h s ?_
        unfold freeS
        refine List.all_eq_true.2 (fun o ho => ?_)
        have := (List.all_eq_true.1 hL) o ho
        cases hdst : o.dst with
        | none => rfl
        | some d =>
          simp only [hdst] at this
          simp only [decide_eq_true_eq]
          intro e
          subst e
          exact hn ⟨this, hlt⟩
      · simp [Array.getD_eq_getD_getElem?, Array.getElem?_eq_none (show a0.tmps.size ≤ s by omega), Array.getElem?_eq_none (show tm.size ≤ s by omega)]

end Go.Proofs.Ytdlpcoafbmhjjaa
