/- A region that draws its order, by an invariant over the operations that have been carried out. -/
import Derived.Orders
import Derived.WalkKit
namespace Go.Proofs.Ytdlpcoafbmhjjaa
open Go.RowKit

def cntF (l : Array Bool) : Nat := (l.toList.filter (fun b => !b)).length

theorem cntF_list : ∀ (l : List Bool) (i : Nat), l[i]? = some false → ((l.set i true).filter (fun b => !b)).length + 1 = (l.filter (fun b => !b)).length
  | [], i, h => by simp at h
  | b :: l, 0, h => by
    simp at h; subst h; simp
  | b :: l, i + 1, h => by
    have := cntF_list l i (by simpa using h)
    cases b <;> simp_all
theorem cntF_set {l : Array Bool} {i : Nat} (h : l.getD i true = false) : cntF (l.setIfInBounds i true) + 1 = cntF l := by
  unfold cntF
  rw [Array.toList_setIfInBounds]
  apply cntF_list
  rw [Array.getD_eq_getD_getElem?] at h
  rw [Array.getElem?_toList]
  cases e : l[i]? with
  | none => rw [e] at h; cases h
  | some b => rw [e] at h; simp at h; rw [h]

/-- the invariant I holds along every order -/
theorem wpAny_inv {P : Program} {ops : Array Oper} {Q : Exit → Act → World → Prop} {md : Region.Mode} (I : (Nat → Bool) → Act → World → Prop)
    (hdone : ∀ listed : Array Bool, ∀ a w, listed.size = ops.size → I (fun k => listed.getD k false) a w → Region.ready md ops listed = [] → Q .normal a w)
    (hstep : ∀ (bt : Nat → Bool) (a : Act) (w : World) (i : Nat) (o : Oper), I bt a w → ops[i]? = some o → bt i = false → (∀ e ∈ o.after, Region.binds md e = true → bt e.on = true) →
      Region.wanted o (yielded ops a.tmps) = true ∧ o.wp P a w (fun a' w' => I (fun k => if k = i then true else bt k) a' w') Q) :
    ∀ (fuel : Nat) (listed : Array Bool) (a : Act) (w : World), listed.size = ops.size → cntF listed ≤ fuel → I (fun k => listed.getD k false) a w → wpAny P md ops Q fuel listed a w := by
  intro fuel
  induction fuel with
  | zero =>
    intro listed a w hs hc hi
    have : Region.ready md ops listed = [] := by
      cases hr : Region.ready md ops listed with
      | nil => rfl
      | cons x xs =>
        have hx : x ∈ Region.ready md ops listed := by rw [hr]; simp
        have := cntF_set (mem_ready.1 hx).1
        omega
    exact ⟨this, hdone listed a w hs hi this⟩
  | succ fuel ih =>
    intro listed a w hs hc hi
    refine ⟨fun h0 => hdone listed a w hs hi h0, fun i hx => ?_⟩
    obtain ⟨h1, o, ho, h2⟩ := mem_ready.1 hx
    have hlt : i < listed.size := by
      by_cases e : i < listed.size
      · exact e
      · rw [Array.getD_eq_getD_getElem?, Array.getElem?_eq_none (by omega)] at h1; cases h1
    have hf : listed.getD i false = false := by
      rw [Array.getD_eq_getD_getElem?, Array.getElem?_eq_getElem hlt] at h1 ⊢; exact h1
    obtain ⟨hw, hk⟩ := hstep (fun k => listed.getD k false) a w i o hi ho hf h2
    unfold wpOp
    simp only [ho, hw, if_true]
    left
    refine Oper.wp_mono (fun a' w' h => ih _ a' w' (by simpa using hs) (by have := cntF_set h1; omega) ?_) hk
    have e : (fun k => (listed.setIfInBounds i true).getD k false) = (fun k => if k = i then true else listed.getD k false) := by
      funext k
      rw [Array.getD_eq_getD_getElem?, Array.getD_eq_getD_getElem?, Array.getElem?_setIfInBounds]
      by_cases ek : i = k
      · subst ek; simp [hlt]
      · rw [if_neg ek, if_neg (fun h => ek h.symm)]
    rw [e]; exact h

theorem region_inv {P : Program} {id : Nat} {Q : Exit → Act → World → Prop} {a : Act} {w : World} {ops : Array Oper} (hm : P.follows .mixedOrders = true) (I : (Nat → Bool) → Act → World → Prop)
    (h0 : I (fun _ => false) a w.drew)
    (hdone : ∀ bt a w, I bt a w → (∀ k, k < ops.size → bt k = true) → Q .normal a w)
    (hall : ∀ listed : Array Bool, listed.size = ops.size → Region.ready .any ops listed = [] → ∀ k, k < ops.size → listed.getD k false = true)
    (hstep : ∀ (bt : Nat → Bool) (a : Act) (w : World) (i : Nat) (o : Oper), I bt a w → ops[i]? = some o → bt i = false → (∀ e ∈ o.after, Region.binds .any e = true → bt e.on = true) →
      Region.wanted o (yielded ops a.tmps) = true ∧ o.wp P a w (fun a' w' => I (fun k => if k = i then true else bt k) a' w') Q) : (Code.region id ops true).wp P Q a w := by
  refine wp_region_any hm (wpAny_inv I (fun listed a w hs hi hr => hdone _ a w hi (hall listed hs hr)) hstep _ _ _ _ (by simp) ?_ ?_)
  · unfold cntF; rw [Array.toList_replicate]
    exact Nat.le_trans (List.length_filter_le _ _) (by simp)
  · have e : (fun k => (Array.replicate ops.size false).getD k false) = (fun _ => false) := by
      funext k
      rw [Array.getD_eq_getD_getElem?, Array.getElem?_replicate]
      split <;> rfl
    rw [e]; exact h0

/-- where every operation waits for earlier ones alone, nothing is left unlisted when nothing is ready -/
theorem all_listed {ops : Array Oper} (hb : ∀ (i : Nat) (o : Oper), ops[i]? = some o → ∀ e ∈ o.after, e.on < i) (listed : Array Bool) (hs : listed.size = ops.size) (hr : Region.ready .any ops listed = []) : ∀ k, k < ops.size → listed.getD k false = true := by
  intro k
  induction k using Nat.strongRecOn with
  | _ k ih =>
    intro hk
    cases hv : listed.getD k false with
    | true => rfl
    | false =>
      exfalso
      have hmem : k ∈ Region.ready .any ops listed := by
        refine mem_ready.2 ⟨?_, ops[k], Array.getElem?_eq_getElem hk, fun e he _ => ih e.on (hb k _ (Array.getElem?_eq_getElem hk) e he) (by have := hb k _ (Array.getElem?_eq_getElem hk) e he; omega)⟩
        rw [Array.getD_eq_getD_getElem?, Array.getElem?_eq_getElem (by omega)] at hv ⊢
        exact hv
      rw [hr] at hmem
      cases hmem

/-- every operation waits for earlier ones alone -/
def earlyB (ops : Array Oper) : Bool := (List.range ops.size).all fun i => match ops[i]? with | none => true | some o => o.after.all fun e => decide (e.on < i)
theorem early_of {ops : Array Oper} (h : earlyB ops = true) : ∀ (i : Nat) (o : Oper), ops[i]? = some o → ∀ e ∈ o.after, e.on < i := by
  intro i o ho e he
  have hi : i < ops.size := (Array.getElem?_eq_some_iff.1 ho).1
  have := (List.all_eq_true.1 h) i (List.mem_range.2 hi)
  rw [ho] at this
  simp only [Array.all_eq_true] at this
  obtain ⟨k, hk, rfl⟩ := Array.mem_iff_getElem.1 he
  simpa using this k hk

end Go.Proofs.Ytdlpcoafbmhjjaa
