/- A region that draws its order: each operation's value has a fact of its own, and each step of the world is of one kind. -/
import Derived.Test.YtdlpcoafbmhjjaaRegInv
namespace Go.Proofs.Ytdlpcoafbmhjjaa
open Go.RowKit

/-- the value that an operation has left -/
def dval (a : Act) (o : Oper) : Value := match o.dst with | some d => a.tmps.getD d undef | none => undef
/-- no operation writes the slot s -/
def freeS (ops : Array Oper) (s : Nat) : Bool := ops.toList.all fun o => match o.dst with | some d => decide (d ≠ s) | none => true
/-- no two operations write one slot; all slots lie in the frame -/
def distB (ops : Array Oper) (n : Nat) : Bool := (List.range ops.size).all fun i => match ops[i]? with
  | none => true
  | some o => match o.dst with
    | none => true
    | some d => decide (d < n) && (List.range ops.size).all fun k => decide (k = i) || match ops[k]? with | none => true | some o' => match o'.dst with | none => true | some d' => decide (d' ≠ d)
theorem dist_of {ops : Array Oper} {n : Nat} (h : distB ops n = true) {i k d : Nat} {o o' : Oper} (hi : ops[i]? = some o) (hd : o.dst = some d) : d < n ∧ (ops[k]? = some o' → k ≠ i → o'.dst ≠ some d) := by
  have hl : i < ops.size := (Array.getElem?_eq_some_iff.1 hi).1
  have h1 := (List.all_eq_true.1 h) i (List.mem_range.2 hl)
  simp only [hi, hd, Bool.and_eq_true, decide_eq_true_eq] at h1
  refine ⟨h1.1, fun hk hne => ?_⟩
  have hl2 : k < ops.size := (Array.getElem?_eq_some_iff.1 hk).1
  have h2 := (List.all_eq_true.1 h1.2) k (List.mem_range.2 hl2)
  simp only [hk, Bool.or_eq_true, decide_eq_true_eq, hne, false_or] at h2
  intro e
  rw [e] at h2
  simp at h2
theorem free_of {ops : Array Oper} {s : Nat} (h : freeS ops s = true) {i : Nat} {o : Oper} (hi : ops[i]? = some o) : o.dst ≠ some s := by
  have := (List.all_eq_true.1 h) o (by rw [← Array.getElem?_toList] at hi; exact List.mem_of_getElem? hi)
  intro e
  rw [e] at this
  simp at this

theorem put_getD {a : Act} {dst : Option Tmp} {v : Value} {s : Nat} (h : dst ≠ some s) : (a.put dst v).tmps.getD s undef = a.tmps.getD s undef := by
  cases dst with
  | none => rfl
  | some d =>
    have : d ≠ s := fun e => h (by rw [e])
    simp only [Act.put, Array.getD_eq_getD_getElem?, Array.getElem?_setIfInBounds, if_neg this]
theorem put_same {a : Act} {d : Nat} {v : Value} (h : d < a.tmps.size) : (a.put (some d) v).tmps.getD d undef = v := by
  simp [Act.put, Array.getD_eq_getD_getElem?, h]
theorem put_size {a : Act} {dst : Option Tmp} {v : Value} : (a.put dst v).tmps.size = a.tmps.size := by cases dst <;> simp [Act.put]
theorem put_defers {a : Act} {dst : Option Tmp} {v : Value} : (a.put dst v).defers = a.defers := by cases dst <;> rfl

/-- what has been found out so far -/
structure RegSt (ops : Array Oper) (a0 : Act) (R : World → World → Prop) (w0 : World) (F : Nat → Value → World → Prop) (bt : Nat → Bool) (a : Act) (w : World) : Prop where
  size : a.tmps.size = a0.tmps.size
  defers : a.defers = a0.defers
  rel : R w0 w
  old : ∀ s, freeS ops s = true → a.tmps.getD s undef = a0.tmps.getD s undef
  fact : ∀ i o, bt i = true → ops[i]? = some o → F i (dval a o) w

theorem RegSt.put {ops : Array Oper} {a0 : Act} {R : World → World → Prop} {w0 : World} {F : Nat → Value → World → Prop} {bt : Nat → Bool} {a : Act} {w w' : World} (st : RegSt ops a0 R w0 F bt a w) (hd : distB ops a0.tmps.size = true)
    (ht : ∀ {x y z}, R x y → R y z → R x z) (hs : ∀ i v x y, F i v x → R x y → F i v y) {i : Nat} {o : Oper} (ho : ops[i]? = some o) {v : Value} (hR : R w w') (hF : F i (if o.dst.isSome then v else undef) w') :
    RegSt ops a0 R w0 F (fun k => if k = i then true else bt k) (a.put o.dst v) w' := by
  refine ⟨by rw [put_size]; exact st.size, by rw [put_defers]; exact st.defers, ht st.rel hR, fun s hf => by rw [put_getD (free_of hf ho)]; exact st.old s hf, fun k o' hb hk => ?_⟩
  by_cases e : k = i
  · subst e
    rw [ho] at hk
    cases hk
    unfold dval
    cases hdst : o.dst with
    | none => rw [hdst] at hF; exact hF
    | some d =>
      rw [hdst] at hF
      have := (dist_of (k := 0) (o' := o) hd ho hdst).1
      simp only
      rw [put_same (by rw [st.size]; exact this)]
      exact hF
  · simp only [if_neg e] at hb
    have h1 := hs _ _ _ _ (st.fact k o' hb hk) hR
    have e2 : dval (a.put o.dst v) o' = dval a o' := by
      unfold dval
      cases hk' : o'.dst with
      | none => rfl
      | some d' =>
        simp only
        refine put_getD (fun e3 => ?_)
        exact (dist_of hd ho e3).2 hk e hk'
    rw [e2]; exact h1

/-- the invariant holds along every order, some operations being left out -/
theorem wpAny_inv2 {P : Program} {ops : Array Oper} {Q : Exit → Act → World → Prop} {md : Region.Mode} (I : (Nat → Bool) → Act → World → Prop)
    (hdone : ∀ listed : Array Bool, ∀ a w, listed.size = ops.size → I (fun k => listed.getD k false) a w → Region.ready md ops listed = [] → Q .normal a w)
    (hstep : ∀ (bt : Nat → Bool) (a : Act) (w : World) (i : Nat) (o : Oper), I bt a w → ops[i]? = some o → bt i = false → (∀ e ∈ o.after, Region.binds md e = true → bt e.on = true) →
      (Region.wanted o (yielded ops a.tmps) = true ∧ o.wp P a w (fun a' w' => I (fun k => if k = i then true else bt k) a' w') Q) ∨ (Region.wanted o (yielded ops a.tmps) = false ∧ I (fun k => if k = i then true else bt k) (a.put o.dst undef) w)) :
    ∀ (fuel : Nat) (listed : Array Bool) (a : Act) (w : World), listed.size = ops.size → cntF listed ≤ fuel → I (fun k => listed.getD k false) a w → wpAny P md ops Q fuel listed a w := by
  intro fuel
  induction fuel with
  | zero =>
    intro listed a w hs hc hi
    have : Region.ready md ops listed = [] := by
      cases hr : Region.ready md ops listed with
      | nil => rfl
      | cons x xs =>
        have hx : x ∈ Region.ready md ops listed := by rw [hr]; simp
        have := cntF_set (mem_ready.1 hx).1
        omega
    exact ⟨this, hdone listed a w hs hi this⟩
  | succ fuel ih =>
    intro listed a w hs hc hi
    refine ⟨fun h0 => hdone listed a w hs hi h0, fun i hx => ?_⟩
    obtain ⟨h1, o, ho, h2⟩ := mem_ready.1 hx
    have hlt : i < listed.size := by
      by_cases e : i < listed.size
      · exact e
      · rw [Array.getD_eq_getD_getElem?, Array.getElem?_eq_none (by omega)] at h1; cases h1
    have hf : listed.getD i false = false := by
      rw [Array.getD_eq_getD_getElem?, Array.getElem?_eq_getElem hlt] at h1 ⊢; exact h1
    have e : (fun k => (listed.setIfInBounds i true).getD k false) = (fun k => if k = i then true else listed.getD k false) := by
      funext k
      rw [Array.getD_eq_getD_getElem?, Array.getD_eq_getD_getElem?, Array.getElem?_setIfInBounds]
      by_cases ek : i = k
      · subst ek; simp [hlt]
      · rw [if_neg ek, if_neg (fun h => ek h.symm)]
    unfold wpOp
    rcases hstep (fun k => listed.getD k false) a w i o hi ho hf h2 with ⟨hw, hk⟩ | ⟨hw, hk⟩
    · simp only [ho, hw, if_true]
      left
      refine Oper.wp_mono (fun a' w' h => ih _ a' w' (by simpa using hs) (by have := cntF_set h1; omega) ?_) hk
      rw [e]; exact h
    · simp only [ho, hw]
      refine ih _ _ w (by simpa using hs) (by have := cntF_set h1; omega) ?_
      rw [e]; exact hk

/-- A region that draws its order, by a fact of each operation. -/
theorem region_facts {P : Program} {id : Nat} {Q : Exit → Act → World → Prop} {a0 : Act} {w : World} {ops : Array Oper} (hm : P.follows .mixedOrders = true) (he : earlyB ops = true) (hd : distB ops a0.tmps.size = true)
    (R : World → World → Prop) (F : Nat → Value → World → Prop) (hr : R w.drew w.drew) (ht : ∀ {x y z}, R x y → R y z → R x z) (hs : ∀ i v x y, F i v x → R x y → F i v y)
    (hstep : ∀ (i : Nat) (o : Oper) (a : Act) (W : World), ops[i]? = some o → R w.drew W → (∀ s, freeS ops s = true → a.eval (.tmp s) = a0.tmps.getD s undef) → (∀ e ∈ o.after, Region.binds .any e = true → ∀ o', ops[e.on]? = some o' → F e.on (dval a o') W) →
      (Region.wanted o (yielded ops a.tmps) = true ∧ o.wp P a W (fun a' W' => ∃ v, a' = a.put o.dst v ∧ R W W' ∧ F i (if o.dst.isSome then v else undef) W') Q) ∨ (Region.wanted o (yielded ops a.tmps) = false ∧ R W W ∧ F i undef W))
    (hdone : ∀ (a : Act) (W : World), a.tmps.size = a0.tmps.size → a.defers = a0.defers → R w.drew W → (∀ s, freeS ops s = true → a.tmps.getD s undef = a0.tmps.getD s undef) → (∀ i o, ops[i]? = some o → F i (dval a o) W) → Q .normal a W) :
    (Code.region id ops true).wp P Q a0 w := by
  refine wp_region_any hm (wpAny_inv2 (RegSt ops a0 R w.drew F) (fun listed a W hs' st hr' => ?_) (fun bt a W i o st ho hb ha => ?_) _ _ _ _ (by simp) ?_ ?_)
  · have hl := all_listed (early_of he) listed hs' hr'
    exact hdone a W st.size st.defers st.rel st.old (fun i o ho => st.fact i o (hl i (Array.getElem?_eq_some_iff.1 ho).1) ho)
  · rcases hstep i o a W ho st.rel st.old (fun e h1 h2 o' ho' => st.fact e.on o' (ha e h1 h2) ho') with ⟨hw, hk⟩ | ⟨hw, hk1, hk2⟩
    · refine .inl ⟨hw, Oper.wp_mono (fun a' W' h => ?_) hk⟩
      obtain ⟨v, rfl, h1, h2⟩ := h
      exact st.put hd ht hs ho h1 h2
    · exact .inr ⟨hw, st.put hd ht hs ho hk1 (by cases o.dst <;> exact hk2)⟩
  · unfold cntF; rw [Array.toList_replicate]
    exact Nat.le_trans (List.length_filter_le _ _) (by simp)
  · refine ⟨rfl, rfl, hr, fun _ _ => rfl, fun i o hb _ => ?_⟩
    exfalso
    rw [Array.getD_eq_getD_getElem?, Array.getElem?_replicate] at hb
    split at hb <;> cases hb

/-- the operation waits for the one of number k -/
def waits (o : Oper) (k : Nat) : Bool := o.after.toList.any fun e => Nat.beq e.on k && Region.binds .any e
theorem waits_of {o : Oper} {k : Nat} (h : waits o k = true) : ∃ e ∈ o.after, Region.binds .any e = true ∧ e.on = k := by
  obtain ⟨e, he, h2⟩ := List.any_eq_true.1 h
  rw [Bool.and_eq_true] at h2
  exact ⟨e, Array.mem_toList_iff.1 he, h2.2, Nat.eq_of_beq_eq_true h2.1⟩
theorem region_facts2 {P : Program} {id : Nat} {Q : Exit → Act → World → Prop} {a0 : Act} {w : World} {ops : Array Oper} (hm : P.follows .mixedOrders = true) (he : earlyB ops = true) (hd : distB ops a0.tmps.size = true)
    (R : World → World → Prop) (F : Nat → Value → World → Prop) (hr : R w.drew w.drew) (ht : ∀ {x y z}, R x y → R y z → R x z) (hs : ∀ i v x y, F i v x → R x y → F i v y)
    (hstep : ∀ (a : Act) (W : World), R w.drew W → (∀ s, freeS ops s = true → a.eval (.tmp s) = a0.tmps.getD s undef) → ∀ (i : Nat) (o : Oper), ops[i]? = some o → (∀ k, waits o k = true → ∀ o', ops[k]? = some o' → F k (dval a o') W) →
      (Region.wanted o (yielded ops a.tmps) = true ∧ o.wp P a W (fun a' W' => ∃ v, a' = a.put o.dst v ∧ R W W' ∧ F i (if o.dst.isSome then v else undef) W') Q) ∨ (Region.wanted o (yielded ops a.tmps) = false ∧ R W W ∧ F i undef W))
    (hdone : ∀ (a : Act) (W : World), a.tmps.size = a0.tmps.size → a.defers = a0.defers → R w.drew W → (∀ s, freeS ops s = true → a.tmps.getD s undef = a0.tmps.getD s undef) → (∀ i o, ops[i]? = some o → F i (dval a o) W) → Q .normal a W) :
    (Code.region id ops true).wp P Q a0 w :=
  region_facts hm he hd R F hr ht hs (fun i o a W ho hR hf hdep => hstep a W hR hf i o ho (fun k hk o' ho' => by
    obtain ⟨e, h1, h2, rfl⟩ := waits_of hk
    exact hdep e h1 h2 o' ho')) hdone

theorem evT {a : Act} {k : Nat} {v : Value} (h : a.eval (.tmp k) = v) : a.tmps[k]?.getD undef = v := by rw [← h]; exact (Array.getD_eq_getD_getElem? ..).symm

/-- a guard that is known -/
theorem wanted_at {ops : Array Oper} {o ok : Oper} {a : Act} {k d : Nat} {want b : Bool} (hg : o.guard = some (k, want)) (hk : ops[k]? = some ok) (hd : ok.dst = some d) (hv : a.eval (.tmp d) = .bool b) : Region.wanted o (yielded ops a.tmps) = (b == want) := by
  have h1 : a.tmps[d]? = some (.bool b) := by
    replace hv : a.tmps.getD d undef = .bool b := hv
    rw [Array.getD_eq_getD_getElem?] at hv
    cases e : a.tmps[d]? with
    | none => rw [e] at hv; cases hv
    | some v => rw [e] at hv; simpa using hv
  unfold Region.wanted yielded
  rw [hg]
  simp [hk, hd, h1]

/-- an operation that hands back a value -/
theorem op_val {P : Program} {o : Oper} {a : Act} {w w' : World} {K : Act → World → Prop} {Q : Exit → Act → World → Prop} {v : Value} (h : (execOp a.eval o).run P w = .ok (.value v) w') (hk : K (a.put o.dst v) w') : o.wp P a w K Q := by
  unfold Oper.wp; rw [h]; exact hk
/-- an operation with no value -/
theorem op_skip {P : Program} {o : Oper} {a : Act} {w w' : World} {K : Act → World → Prop} {Q : Exit → Act → World → Prop} (h : (execOp a.eval o).run P w = .ok .skip w') (hk : K (a.put o.dst undef) w') : o.wp P a w K Q := by
  unfold Oper.wp; rw [h]; exact hk
/-- an operation that calls -/
theorem op_enter {P : Program} {o : Oper} {a : Act} {w w' : World} {K : Act → World → Prop} {Q : Exit → Act → World → Prop} {f : FuncId} {args : Array Value} (h : (execOp a.eval o).run P w = .ok (.enter f args) w') (hk : Calls P f args w' fun e w'' => ∃ v, e = .returned v ∧ K (a.put o.dst v) w'') : o.wp P a w K Q := by
  unfold Oper.wp; rw [h]
  refine Calls.mono hk ?_
  rintro e w'' ⟨v, rfl, hv⟩
  exact hv

end Go.Proofs.Ytdlpcoafbmhjjaa
