/- A region that draws its order: an invariant of what has been carried out, of the values so far, and of the world. -/
import Derived.Test.YtdlpcoafbmhjjaaRegS
namespace Go.Proofs.Ytdlpcoafbmhjjaa
open Go.RowKit

/-- the values that the operations have left -/
def vals (ops : Array Oper) (a : Act) (k : Nat) : Value := match ops[k]? with | some o => dval a o | none => undef
theorem vals_put {ops : Array Oper} {a a0 : Act} (hs : a.tmps.size = a0.tmps.size) (hd : distB ops a0.tmps.size = true) {i : Nat} {o : Oper} (ho : ops[i]? = some o) (v : Value) :
    vals ops (a.put o.dst v) = fun k => if k = i then (if o.dst.isSome then v else undef) else vals ops a k := by
  funext k
  unfold vals
  by_cases e : k = i
  · subst e
    rw [if_pos rfl, ho]
    show dval (a.put o.dst v) o = _
    unfold dval
    cases hdst : o.dst with
    | none => simp
    | some d =>
      have := (dist_of (k := 0) (o' := o) hd ho hdst).1
      simp only [Option.isSome_some, if_true]
      exact put_same (by rw [hs]; exact this)
  · rw [if_neg e]
    cases hk : ops[k]? with
    | none => rfl
    | some o' =>
      unfold dval
      cases hk' : o'.dst with
      | none => simp [hk']
      | some d' =>
        simp only [hk']
        refine put_getD (fun e3 => ?_)
        exact (dist_of hd ho e3).2 hk e hk'

structure RegJ (ops : Array Oper) (a0 : Act) (J : (Nat → Bool) → (Nat → Value) → World → Prop) (bt : Nat → Bool) (a : Act) (w : World) : Prop where
  size : a.tmps.size = a0.tmps.size
  defers : a.defers = a0.defers
  st : J bt (vals ops a) w
  old : ∀ s, freeS ops s = true → a.tmps.getD s undef = a0.tmps.getD s undef
  closed : ∀ k o, bt k = true → ops[k]? = some o → ∀ e ∈ o.after, Region.binds .any e = true → bt e.on = true

theorem region_j {P : Program} {id : Nat} {Q : Exit → Act → World → Prop} {a0 : Act} {w : World} {ops : Array Oper} (hm : P.follows .mixedOrders = true) (he : earlyB ops = true) (hd : distB ops a0.tmps.size = true)
    (J : (Nat → Bool) → (Nat → Value) → World → Prop) (hg : ∀ vl, J (fun _ => false) vl w.drew)
    (hstep : ∀ (a : Act) (W : World) (bt : Nat → Bool) (vl : Nat → Value), J bt vl W → (∀ s, freeS ops s = true → a.eval (.tmp s) = a0.tmps.getD s undef) → (∀ k o' d, ops[k]? = some o' → o'.dst = some d → a.eval (.tmp d) = vl k) →
      ∀ (i : Nat) (o : Oper), ops[i]? = some o → bt i = false → (∀ k o, bt k = true → ops[k]? = some o → ∀ j, waits o j = true → bt j = true) → (∀ k, waits o k = true → bt k = true) →
      Region.wanted o (yielded ops a.tmps) = true ∧ o.wp P a W (fun a' W' => ∃ v, a' = a.put o.dst v ∧ J (fun k => if k = i then true else bt k) (fun k => if k = i then (if o.dst.isSome then v else undef) else vl k) W') Q)
    (hdone : ∀ (a : Act) (W : World) (bt : Nat → Bool) (vl : Nat → Value), a.tmps.size = a0.tmps.size → a.defers = a0.defers → J bt vl W → (∀ k, k < ops.size → bt k = true) → (∀ s, freeS ops s = true → a.tmps.getD s undef = a0.tmps.getD s undef) →
      (∀ k o' d, ops[k]? = some o' → o'.dst = some d → a.tmps.getD d undef = vl k) → Q .normal a W) :
    (Code.region id ops true).wp P Q a0 w := by
  have hv : ∀ (a : Act) k o' d, ops[k]? = some o' → o'.dst = some d → a.tmps.getD d undef = vals ops a k := fun a k o' d h1 h2 => by
    unfold vals dval; rw [h1]; simp only [h2]
  refine wp_region_any hm (wpAny_inv2 (RegJ ops a0 J) (fun listed a W hs' st hr' => ?_) (fun bt a W i o st ho hb ha => ?_) _ _ _ _ (by simp) ?_ ?_)
  · have hl := all_listed (early_of he) listed hs' hr'
    exact hdone a W _ _ st.size st.defers st.st hl st.old (hv a)
  · obtain ⟨hw, hk⟩ := hstep a W bt _ st.st st.old (hv a) i o ho hb (fun k o' hb' hk' j hj => by
      obtain ⟨e, h1, h2, rfl⟩ := waits_of hj
      exact st.closed k o' hb' hk' e h1 h2) (fun k hk => by
      obtain ⟨e, h1, h2, rfl⟩ := waits_of hk
      exact ha e h1 h2)
    refine .inl ⟨hw, Oper.wp_mono (fun a' W' h => ?_) hk⟩
    obtain ⟨v, rfl, h1⟩ := h
    refine ⟨by rw [put_size]; exact st.size, by rw [put_defers]; exact st.defers, by rw [vals_put st.size hd ho]; exact h1, fun s hf => by rw [put_getD (free_of hf ho)]; exact st.old s hf, fun k o' hb hk2 e he h2 => ?_⟩
    show (if e.on = i then true else bt e.on) = true
    by_cases ek : k = i
    · subst ek
      rw [ho] at hk2; cases hk2
      have := ha e he h2
      split
      · rfl
      · exact this
    · simp only [if_neg ek] at hb
      have := st.closed k o' hb hk2 e he h2
      split
      · rfl
      · exact this
  · unfold cntF; rw [Array.toList_replicate]
    exact Nat.le_trans (List.length_filter_le _ _) (by simp)
  · refine ⟨rfl, rfl, ?_, fun _ _ => rfl, fun i o hb _ => ?_⟩
    · have e : (fun k => (Array.replicate ops.size false).getD k false) = (fun _ => false) := by
        funext k
        rw [Array.getD_eq_getD_getElem?, Array.getElem?_replicate]
        split <;> rfl
      rw [e]; exact hg _
    · exfalso
      rw [Array.getD_eq_getD_getElem?, Array.getElem?_replicate] at hb
      split at hb <;> cases hb

end Go.Proofs.Ytdlpcoafbmhjjaa
