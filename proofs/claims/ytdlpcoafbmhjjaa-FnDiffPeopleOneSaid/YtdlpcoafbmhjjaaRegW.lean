/- A region that draws its order: facts of values that may speak of the world; a state of the world that depends on which operations have been carried out. -/
import Derived.Test.YtdlpcoafbmhjjaaRegS
namespace Go.Proofs.Ytdlpcoafbmhjjaa
open Go.RowKit

structure RegW (ops : Array Oper) (a0 : Act) (G : (Nat → Bool) → World → Prop) (F : Nat → Value → World → Prop) (bt : Nat → Bool) (a : Act) (w : World) : Prop where
  size : a.tmps.size = a0.tmps.size
  defers : a.defers = a0.defers
  st : G bt w
  old : ∀ s, freeS ops s = true → a.tmps.getD s undef = a0.tmps.getD s undef
  fact : ∀ i o, bt i = true → ops[i]? = some o → F i (dval a o) w
  closed : ∀ k o, bt k = true → ops[k]? = some o → ∀ e ∈ o.after, Region.binds .any e = true → bt e.on = true

theorem RegW.put {ops : Array Oper} {a0 : Act} {G : (Nat → Bool) → World → Prop} {F : Nat → Value → World → Prop} {bt : Nat → Bool} {a : Act} {w w' : World} (st : RegW ops a0 G F bt a w) (hd : distB ops a0.tmps.size = true)
    {i : Nat} {o : Oper} (ho : ops[i]? = some o) {v : Value} (ha : ∀ e ∈ o.after, Region.binds .any e = true → bt e.on = true) (hG : G (fun k => if k = i then true else bt k) w') (hF : F i (if o.dst.isSome then v else undef) w') (hst : ∀ k v, bt k = true → F k v w → F k v w') :
    RegW ops a0 G F (fun k => if k = i then true else bt k) (a.put o.dst v) w' := by
  refine ⟨by rw [put_size]; exact st.size, by rw [put_defers]; exact st.defers, hG, fun s hf => by rw [put_getD (free_of hf ho)]; exact st.old s hf, fun k o' hb hk => ?_, fun k o' hb hk e he h2 => ?_⟩
  rotate_left
  · show (if e.on = i then true else bt e.on) = true
    by_cases ek : k = i
    · subst ek
      rw [ho] at hk; cases hk
      have := ha e he h2
      split
      · rfl
      · exact this
    · simp only [if_neg ek] at hb
      have := st.closed k o' hb hk e he h2
      split
      · rfl
      · exact this
  by_cases e : k = i
  · subst e
    rw [ho] at hk
    cases hk
    unfold dval
    cases hdst : o.dst with
    | none => rw [hdst] at hF; exact hF
    | some d =>
      rw [hdst] at hF
      have := (dist_of (k := 0) (o' := o) hd ho hdst).1
      simp only
      rw [put_same (by rw [st.size]; exact this)]
      exact hF
  · simp only [if_neg e] at hb
    have h1 := hst _ _ hb (st.fact k o' hb hk)
    have e2 : dval (a.put o.dst v) o' = dval a o' := by
      unfold dval
      cases hk' : o'.dst with
      | none => rfl
      | some d' =>
        simp only
        refine put_getD (fun e3 => ?_)
        exact (dist_of hd ho e3).2 hk e hk'
    rw [e2]; exact h1

theorem region_sw {P : Program} {id : Nat} {Q : Exit → Act → World → Prop} {a0 : Act} {w : World} {ops : Array Oper} (hm : P.follows .mixedOrders = true) (he : earlyB ops = true) (hd : distB ops a0.tmps.size = true)
    (G : (Nat → Bool) → World → Prop) (F : Nat → Value → World → Prop) (hg : G (fun _ => false) w.drew)
    (hstep : ∀ (a : Act) (W : World) (bt : Nat → Bool), G bt W → (∀ s, freeS ops s = true → a.eval (.tmp s) = a0.tmps.getD s undef) → ∀ (i : Nat) (o : Oper), ops[i]? = some o → bt i = false → (∀ k o, bt k = true → ops[k]? = some o → ∀ j, waits o j = true → bt j = true) → (∀ k, waits o k = true → bt k = true) → (∀ k, waits o k = true → ∀ o', ops[k]? = some o' → F k (dval a o') W) →
      Region.wanted o (yielded ops a.tmps) = true ∧ o.wp P a W (fun a' W' => ∃ v, a' = a.put o.dst v ∧ G (fun k => if k = i then true else bt k) W' ∧ F i (if o.dst.isSome then v else undef) W' ∧ (∀ k v, bt k = true → F k v W → F k v W')) Q)
    (hdone : ∀ (a : Act) (W : World) (bt : Nat → Bool), a.tmps.size = a0.tmps.size → a.defers = a0.defers → G bt W → (∀ k, k < ops.size → bt k = true) → (∀ s, freeS ops s = true → a.tmps.getD s undef = a0.tmps.getD s undef) → (∀ i o, ops[i]? = some o → F i (dval a o) W) → Q .normal a W) :
    (Code.region id ops true).wp P Q a0 w := by
  refine wp_region_any hm (wpAny_inv2 (RegW ops a0 G F) (fun listed a W hs' st hr' => ?_) (fun bt a W i o st ho hb ha => ?_) _ _ _ _ (by simp) ?_ ?_)
  · have hl := all_listed (early_of he) listed hs' hr'
    exact hdone a W _ st.size st.defers st.st hl st.old (fun i o ho => st.fact i o (hl i (Array.getElem?_eq_some_iff.1 ho).1) ho)
  · obtain ⟨hw, hk⟩ := hstep a W bt st.st st.old i o ho hb (fun k o' hb' hk' j hj => by
      obtain ⟨e, h1, h2, rfl⟩ := waits_of hj
      exact st.closed k o' hb' hk' e h1 h2) (fun k hk => by
      obtain ⟨e, h1, h2, rfl⟩ := waits_of hk
      exact ha e h1 h2) (fun k hk o' ho' => by
      obtain ⟨e, h1, h2, rfl⟩ := waits_of hk
      exact st.fact e.on o' (ha e h1 h2) ho')
    refine .inl ⟨hw, Oper.wp_mono (fun a' W' h => ?_) hk⟩
    obtain ⟨v, rfl, h1, h2, h3⟩ := h
    exact st.put hd ho ha h1 h2 h3
  · unfold cntF; rw [Array.toList_replicate]
    exact Nat.le_trans (List.length_filter_le _ _) (by simp)
  · refine ⟨rfl, rfl, ?_, fun _ _ => rfl, fun i o hb _ => ?_, fun i o hb _ => ?_⟩
    · have e : (fun k => (Array.replicate ops.size false).getD k false) = (fun _ => false) := by
        funext k
        rw [Array.getD_eq_getD_getElem?, Array.getElem?_replicate]
        split <;> rfl
      rw [e]; exact hg
    all_goals
      exfalso
      rw [Array.getD_eq_getD_getElem?, Array.getElem?_replicate] at hb
      split at hb <;> cases hb


end Go.Proofs.Ytdlpcoafbmhjjaa
