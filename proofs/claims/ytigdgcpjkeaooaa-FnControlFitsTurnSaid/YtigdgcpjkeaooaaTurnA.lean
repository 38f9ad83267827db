/- RegJ, Turn in one text. (Put together by wip/tools/merge.py.) -/
import Derived.Test.YtigdgcpjkeaooaaRegS
import Derived.Test.YtigdgcpjkeaooaaDrawT
import Derived.Test.YtigdgcpjkeaooaaSums
import Derived.Test.YtigdgcpjkeaooaaValid
import Derived.Test.YtigdgcpjkeaooaaRndX
import Derived.Test.YtigdgcpjkeaooaaDrawT2
import Derived.Test.YtigdgcpjkeaooaaInRnd
import Derived.Test.YtigdgcpjkeaooaaCells
import Derived.Test.YtigdgcpjkeaooaaKeeps
namespace Go.Proofs.Ytigdgcpjkeaooaa
open Go.RowKit

/-- the values that the operations have left -/
def vals (ops : Array Oper) (a : Act) (k : Nat) : Value := match ops[k]? with | some o => dval a o | none => undef
theorem vals_put {ops : Array Oper} {a a0 : Act} (hs : a.tmps.size = a0.tmps.size) (hd : distB ops a0.tmps.size = true) {i : Nat} {o : Oper} (ho : ops[i]? = some o) (v : Value) :
    vals ops (a.put o.dst v) = fun k => if k = i then (if o.dst.isSome then v else undef) else vals ops a k := by
  funext k
  unfold vals
  by_cases e : k = i
  · subst e
    rw [if_pos rfl, ho]
    show dval (a.put o.dst v) o = _
    unfold dval
    cases hdst : o.dst with
    | none => simp
    | some d =>
      have := (dist_of (k := 0) (o' := o) hd ho hdst).1
      simp only [Option.isSome_some, if_true]
      exact put_same (by rw [hs]; exact this)
  · rw [if_neg e]
    cases hk : ops[k]? with
    | none => rfl
    | some o' =>
      unfold dval
      cases hk' : o'.dst with
      | none => simp [hk']
      | some d' =>
        simp only [hk']
        refine put_getD (fun e3 => ?_)
        exact (dist_of hd ho e3).2 hk e hk'

structure RegJ (ops : Array Oper) (a0 : Act) (J : (Nat → Bool) → (Nat → Value) → World → Prop) (bt : Nat → Bool) (a : Act) (w : World) : Prop where
  size : a.tmps.size = a0.tmps.size
  defers : a.defers = a0.defers
  st : J bt (vals ops a) w
  old : ∀ s, freeS ops s = true → a.tmps.getD s undef = a0.tmps.getD s undef
  closed : ∀ k o, bt k = true → ops[k]? = some o → ∀ e ∈ o.after, Region.binds .any e = true → bt e.on = true

theorem region_j {P : Program} {id : Nat} {Q : Exit → Act → World → Prop} {a0 : Act} {w : World} {ops : Array Oper} (hm : P.follows .mixedOrders = true) (he : earlyB ops = true) (hd : distB ops a0.tmps.size = true)
    (J : (Nat → Bool) → (Nat → Value) → World → Prop) (hg : ∀ vl, J (fun _ => false) vl w.drew)
    (hstep : ∀ (a : Act) (W : World) (bt : Nat → Bool) (vl : Nat → Value), J bt vl W → (∀ s, freeS ops s = true → a.eval (.tmp s) = a0.tmps.getD s undef) → (∀ k o' d, ops[k]? = some o' → o'.dst = some d → a.eval (.tmp d) = vl k) →
      ∀ (i : Nat) (o : Oper), ops[i]? = some o → bt i = false → (∀ k o, bt k = true → ops[k]? = some o → ∀ j, waits o j = true → bt j = true) → (∀ k, waits o k = true → bt k = true) →
      Region.wanted o (yielded ops a.tmps) = true ∧ o.wp P a W (fun a' W' => ∃ v, a' = a.put o.dst v ∧ J (fun k => if k = i then true else bt k) (fun k => if k = i then (if o.dst.isSome then v else undef) else vl k) W') Q)
    (hdone : ∀ (a : Act) (W : World) (bt : Nat → Bool) (vl : Nat → Value), a.tmps.size = a0.tmps.size → a.defers = a0.defers → J bt vl W → (∀ k, k < ops.size → bt k = true) → (∀ s, freeS ops s = true → a.tmps.getD s undef = a0.tmps.getD s undef) →
      (∀ k o' d, ops[k]? = some o' → o'.dst = some d → a.tmps.getD d undef = vl k) → Q .normal a W) :
    (Code.region id ops true).wp P Q a0 w := by
  have hv : ∀ (a : Act) k o' d, ops[k]? = some o' → o'.dst = some d → a.tmps.getD d undef = vals ops a k := fun a k o' d h1 h2 => by
    unfold vals dval; rw [h1]; simp only [h2]
  refine wp_region_any hm (wpAny_inv2 (RegJ ops a0 J) (fun listed a W hs' st hr' => ?_) (fun bt a W i o st ho hb ha => ?_) _ _ _ _ (by simp) ?_ ?_)
  · have hl := all_listed (early_of he) listed hs' hr'
    exact hdone a W _ _ st.size st.defers st.st hl st.old (hv a)
  · obtain ⟨hw, hk⟩ := hstep a W bt _ st.st st.old (hv a) i o ho hb (fun k o' hb' hk' j hj => by
      obtain ⟨e, h1, h2, rfl⟩ := waits_of hj
      exact st.closed k o' hb' hk' e h1 h2) (fun k hk => by
      obtain ⟨e, h1, h2, rfl⟩ := waits_of hk
      exact ha e h1 h2)
    refine .inl ⟨hw, Oper.wp_mono (fun a' W' h => ?_) hk⟩
    obtain ⟨v, rfl, h1⟩ := h
    refine ⟨by rw [put_size]; exact st.size, by rw [put_defers]; exact st.defers, by rw [vals_put st.size hd ho]; exact h1, fun s hf => by rw [put_getD (free_of hf ho)]; exact st.old s hf, fun k o' hb hk2 e he h2 => ?_⟩
    show (if e.on = i then true else bt e.on) = true
    by_cases ek : k = i
    · subst ek
      rw [ho] at hk2; cases hk2
      have := ha e he h2
      split
      · rfl
      · exact this
    · simp only [if_neg ek] at hb
      have := st.closed k o' hb hk2 e he h2
      split
      · rfl
      · exact this
  · unfold cntF; rw [Array.toList_replicate]
    exact Nat.le_trans (List.length_filter_le _ _) (by simp)
  · refine ⟨rfl, rfl, ?_, fun _ _ => rfl, fun i o hb _ => ?_⟩
    · have e : (fun k => (Array.replicate ops.size false).getD k false) = (fun _ => false) := by
        funext k
        rw [Array.getD_eq_getD_getElem?, Array.getElem?_replicate]
        split <;> rfl
      rw [e]; exact hg _
    · exfalso
      rw [Array.getD_eq_getD_getElem?, Array.getElem?_replicate] at hb
      split at hb <;> cases hb

end Go.Proofs.Ytigdgcpjkeaooaa

namespace Go.Proofs.Ytigdgcpjkeaooaa
open Go.RowKit Go.Shelf

attribute [local go_sem] Oper.semAt_some

set_option maxHeartbeats 400000 in
theorem iEmptyTable (w : World) (h c : Nat) (hh : h ≤ 1000) (hc : c ≤ 1000) :
    Calls Try.prog 34 #[.int .i64 (h : Int), .int .i64 (c : Int)] w (CopiedT w (zeroT h c)) := by
  have hmk := run_make_row' (P := Try.prog) 23 29 (.slice none 0 0) 24 Try.underlying23 Try.info_row rfl .i64 .i64 h (by omega) (by omega)
  have hmk2 := run_make_row' (P := Try.prog) 29 3 (.int .i64 0) 8 Try.underlying29 Try.info_int rfl .i64 .i64 c (by omega) (by omega)
  have hzl : (zeroT h c).length = h := by simp [zeroT]
  have HZ := Lib.hid hzl
  clear hzl
  go_enter Try.func34, Try.ntmps34
  go_wp2_with fail
  go_loopw [11] (fun i wr => ∃ us : List Value, us.length ≤ h ∧ i = .int .i64 us.length ∧ PartU wr w.heap.size h (zeroT h c) us ∧ Below w.heap.size w wr) (fun i _ => h - (intOf i).toNat)
  case atStart => exact ⟨[], Nat.zero_le _, rfl, PartU.start w h _, (Below.refl _ _).alloc (Nat.le_refl _) _⟩
  case round =>
    obtain ⟨us, hk, rfl, hp, hbel⟩ := hrel
    have HP := Lib.hid hp
    by_cases hlt : us.length < h
    · have hv1 : OwnI (wr.alloc (.cells (madeCells #[.int .i64 0] c) 3)) wr.heap.size (.slice (some ⟨wr.heap.size, 0, none⟩) c c) ((zeroT h c)[us.length]?.getD []) := by
        have e : (zeroT h c)[us.length]?.getD [] = List.replicate c 0 := by simp [zeroT, hlt]
        rw [e]
        exact OwnI.made wr wr.heap.size c (Nat.le_refl _) (by unfold maxLen; omega)
      have b1 : Below wr.heap.size wr (wr.alloc (.cells (madeCells #[.int .i64 0] c) 3)) := (Below.refl _ _).alloc (Nat.le_refl _) _
      have hst := Lib.hid (HP.out.step hlt b1 hv1)
      have hcell := (b1.cell (p := ⟨w.heap.size, us.length, none⟩) hp.outer.lt).trans (hp.outer.cell hlt)
      have hfro := (b1.frozen (p := ⟨w.heap.size, us.length, none⟩) hp.outer.lt).trans (hp.outer.frozen us.length)
      have hB2 := Lib.hid ((hbel.trans (b1.mono hbel.size)).setCell (p := ⟨w.heap.size, us.length, none⟩) (Nat.le_refl _) (.slice (some ⟨wr.heap.size, 0, none⟩) c c))
      clear hv1 hp b1
      generalize us[us.length]?.getD (.slice none 0 0) = ov at hcell
      go_wp2_with fail
      go_roundw
      case rel => exact ⟨_, by simp; omega, by simp, hst.out, hB2.out⟩
      case measure => simp [intOf]; omega
    · have hfin : Hid (OwnU wr w.heap.size (.slice (some ⟨w.heap.size, 0, none⟩) h h) (zeroT h c) us) := by
        have h1 : PartU wr w.heap.size (zeroT h c).length (zeroT h c) us := by rw [HZ.out]; exact HP.out
        have h2 := h1.done (by rw [HZ.out]; omega) (by rw [HZ.out]; unfold maxLen; omega)
        rw [HZ.out] at h2
        exact h2
      go_wp2_with fail
      go_ret
      exact ⟨_, us, rfl, hfin.out, hbel⟩

theorem cells_mem' {t : List (List Int)} {i j : Nat} (hi : i < t.length) (hj : j < wid t i) : (i, j) ∈ cellsN t := by
  unfold cellsN cellsTo
  rw [List.mem_flatten]
  exact ⟨_, List.mem_map.2 ⟨i, List.mem_range.2 hi, rfl⟩, List.mem_map.2 ⟨j, List.mem_range.2 hj, rfl⟩⟩
/-- the turned table as far as some cells have come -/
def turnTo (t T : List (List Int)) (l : List (Nat × Nat)) : Prop := T.length = wid t 0 ∧ (∀ j, j < wid t 0 → wid T j = t.length) ∧ ∀ p ∈ l, cel T p.2 p.1 = cel t p.1 p.2
theorem turnTo_snoc {t T : List (List Int)} {l : List (Nat × Nat)} (h : turnTo t T l) {i j : Nat} (hi : i < t.length) (hj : j < wid t 0) : turnTo t (setT T j i (cel t i j)) (l ++ [(i, j)]) := by
  obtain ⟨h1, h2, h3⟩ := h
  refine ⟨by rw [setT_len]; exact h1, fun k hk => by rw [setT_wid]; exact h2 k hk, fun p hp => ?_⟩
  rw [setT_cel (by rw [h1]; exact hj) (by rw [h2 j hj]; exact hi)]
  by_cases e : p.2 = j ∧ p.1 = i
  · rw [if_pos e, e.1, e.2]
  · rw [if_neg e]
    rcases List.mem_append.1 hp with hp | hp
    · exact h3 p hp
    · simp at hp; subst hp; exact absurd ⟨rfl, rfl⟩ e
theorem turnTo_all {t T : List (List Int)} (ht : tblOk t) (h : turnTo t T (cellsN t)) : T = turnT t := by
  obtain ⟨h1, h2, h3⟩ := h
  refine tab_ext ⟨by rw [h1, turnT, mkT_len], fun j hj => ?_⟩ (fun j i hj hi => ?_)
  · rw [h1] at hj; rw [h2 j hj, turnT, mkT_wid hj]
  · rw [h1] at hj
    rw [h2 j hj] at hi
    rw [turnT, mkT_cel hj hi]
    exact h3 (i, j) (cells_mem' hi (by rw [(ht.2.2.2.2 i hi).1]; exact hj))

/-- the values of the operations that make the turned table -/
def TurnF (n0 : Nat) (h c b0 o0 cap b2 o2 ci : Nat) : Nat → Value → World → Prop
  | 0, v, _ => v = .slice (some ⟨b0, o0, none⟩) h cap
  | 1, v, _ => v = .pointer (some ⟨b0, o0, none⟩)
  | 2, v, _ => v = .slice (some ⟨b2, o2, none⟩) c ci
  | 3, v, _ => v = .int .i64 (c : Int)
  | 4, v, _ => v = .slice (some ⟨b0, o0, none⟩) h cap
  | 5, v, _ => v = .int .i64 (h : Int)
  | 6, v, W => ∃ g cp us, v = .slice (some ⟨g, 0, none⟩) c cp ∧ OwnU W n0 (.slice (some ⟨g, 0, none⟩) c cp) (zeroT c h) us
  | 7, v, W => ∃ p, v = .pointer (some ⟨p, 0, none⟩) ∧ n0 ≤ p ∧ ∃ u, Boxed W p 23 u
  | _, _, _ => True
theorem turnF_below {n0 h c b0 o0 cap b2 o2 ci : Nat} {W W' : World} (hb : Below W.heap.size W W') : ∀ k v, TurnF n0 h c b0 o0 cap b2 o2 ci k v W → TurnF n0 h c b0 o0 cap b2 o2 ci k v W'
  | 0, _, hf => hf | 1, _, hf => hf | 2, _, hf => hf | 3, _, hf => hf | 4, _, hf => hf | 5, _, hf => hf
  | 6, _, hf => by obtain ⟨g, cp, us, e, ho⟩ := hf; exact ⟨g, cp, us, e, ho.below hb⟩
  | 7, _, hf => by obtain ⟨p, e, hp, u, hu⟩ := hf; exact ⟨p, e, hp, u, boxBelow hu hb hu.lt⟩
  | _ + 8, _, _ => trivial
def TurnJ (W0 : World) (h c b0 o0 cap b2 o2 ci : Nat) (bt : Nat → Bool) (vl : Nat → Value) (W : World) : Prop :=
  Below W0.heap.size W0 W ∧ (∀ k, bt k = true → TurnF W0.heap.size h c b0 o0 cap b2 o2 ci k (vl k) W) ∧ (bt 8 = true → ∃ p, vl 7 = .pointer (some ⟨p, 0, none⟩) ∧ Boxed W p 23 (vl 6))
theorem turnJ_step {W0 : World} {h c b0 o0 cap b2 o2 ci : Nat} {bt : Nat → Bool} {vl : Nat → Value} {W W' : World} (hj : TurnJ W0 h c b0 o0 cap b2 o2 ci bt vl W) {i : Nat} {v : Value} (h8 : i ≠ 8) (hn : bt 8 = true → i ≠ 6 ∧ i ≠ 7) (hb : Below W.heap.size W W')
    (hf : TurnF W0.heap.size h c b0 o0 cap b2 o2 ci i v W') : TurnJ W0 h c b0 o0 cap b2 o2 ci (fun k => if k = i then true else bt k) (fun k => if k = i then v else vl k) W' := by
  obtain ⟨h1, h2, h3⟩ := hj
  refine ⟨h1.trans (hb.mono h1.size), fun k hk => ?_, fun hk => ?_⟩
  · by_cases e : k = i
    · subst e; simpa using hf
    · simp only [if_neg e] at hk ⊢
      exact turnF_below hb k _ (h2 k hk)
  · change (if 8 = i then true else bt 8) = true at hk
    rw [if_neg (Ne.symm h8)] at hk
    obtain ⟨n6, n7⟩ := hn hk
    obtain ⟨p, e, hbx⟩ := h3 hk
    refine ⟨p, ?_, ?_⟩
    · show (if 7 = i then v else vl 7) = _
      rw [if_neg (Ne.symm n7)]; exact e
    · show Boxed W' p _ (if 6 = i then v else vl 6)
      rw [if_neg (Ne.symm n6)]; exact boxBelow hbx hb hbx.lt
theorem turnJ_store {W0 : World} {h c b0 o0 cap b2 o2 ci : Nat} {bt : Nat → Bool} {vl : Nat → Value} {W : World} (hj : TurnJ W0 h c b0 o0 cap b2 o2 ci bt vl W) {p : Nat} {u v : Value} (e7 : vl 7 = .pointer (some ⟨p, 0, none⟩)) (hp : W0.heap.size ≤ p) (hu : Boxed W p 23 u)
    {x : Value} (e6 : vl 6 = x) : TurnJ W0 h c b0 o0 cap b2 o2 ci (fun k => if k = 8 then true else bt k) (fun k => if k = 8 then v else vl k) (W.setCell ⟨p, 0, none⟩ x) := by
  subst e6
  obtain ⟨h1, h2, h3⟩ := hj
  have hg : W.grownBy (W.setCell ⟨p, 0, none⟩ (vl 6)) (some p) := grow_set (grow_refl _ _) _ _
  refine ⟨h1.setCell (p := ⟨p, 0, none⟩) hp _, fun k hk => ?_, fun _ => ⟨p, e7, hu.set _⟩⟩
  have key : ∀ k, k < 8 → bt k = true → TurnF W0.heap.size h c b0 o0 cap b2 o2 ci k (vl k) (W.setCell ⟨p, 0, none⟩ (vl 6)) := by
    intro k hk8 hbk
    have hf := h2 k hbk
    rcases k with _ | _ | _ | _ | _ | _ | _ | _ | k
    · exact hf
    · exact hf
    · exact hf
    · exact hf
    · exact hf
    · exact hf
    · obtain ⟨g, cp, us, e, ho⟩ := hf
      exact ⟨g, cp, us, e, ho.keptB hg (fun q e hb => by cases e; exact box_apart hu ho hb)⟩
    · obtain ⟨q, e, hq, u', hu'⟩ := hf
      have : q = p := by rw [show vl (0 + 1 + 1 + 1 + 1 + 1 + 1 + 1) = vl 7 from rfl, e7] at e; simpa using e.symm
      subst this
      exact ⟨q, e7, hq, _, hu.set _⟩
    · omega
  by_cases e : k = 8
  · subst e; trivial
  · simp only [if_neg e] at hk ⊢
    by_cases hk8 : k < 8
    · exact key k hk8 hk
    · obtain ⟨m, rfl⟩ : ∃ m, k = m + 8 := ⟨k - 8, by omega⟩
      trivial

set_option maxRecDepth 100000 in
set_option maxHeartbeats 4000000 in
theorem iTableTurn (w : World) (P : Nat → Prop) (v : Value) (t : List (List Int)) (h : IntSS w P v t) (hl : lensT t) :
    Calls Try.prog 13 #[v] w fun e w' => Below w.heap.size w w' ∧ ((¬ tblOk t ∧ e = .returned (.tuple #[.slice none 0 0, .bool false])) ∨
      (tblOk t ∧ ∃ g cap us, e = .returned (.tuple #[.slice (some ⟨g, 0, none⟩) (wid t 0) cap, .bool true]) ∧ OwnU w' w.heap.size (.slice (some ⟨g, 0, none⟩) (wid t 0) cap) (turnT t) us)) := by
  have HT := Lib.hid h
  have HL := Lib.hid hl
  obtain ⟨a, cap, rfl, _, _⟩ := h
  clear hl
  refine (callsIn_wide (n := 6)).1 ?_
  refine callsIn_of_wp_marks Try.func13 rfl trivial ?_ rfl
  simp only [Try.ntmps13, List.size_toArray, List.length_cons, List.length_nil, Nat.reduceAdd, Nat.reduceSub, Array.replicate_succ, Array.replicate_zero, List.push_toArray, List.append_toArray, List.nil_append, List.cons_append]
  refine wpIn_noFail (wpIn_wide.2 ?_)
  have kT := Boxed.new w 23 (.slice a t.length cap)
  have c1 := kT.cell
  have hB0 : Below w.heap.size w (w.alloc (.cells #[.slice a t.length cap] 23)) := (Below.refl _ _).alloc (Nat.le_refl _) _
  go_wp2_with fail
  with_reducible refine (iTableValid _ _ _ t (HT.out.below hB0) HL.out).mono ?_
  rintro e w' ⟨rfl, rfl⟩
  by_cases hok : tblOk t
  · have D : Hid (decide (tblOk t) = true) := by unfold Hid; simpa using hok
    rw [D.out]
    have HK := Lib.hid hok
    have hs0 : (w.alloc (.cells #[.slice a t.length cap] 23)).heap.size = w.heap.size + 1 := by simp
    clear hok D
    go_wp2_with fail
    generalize w.alloc (.cells #[.slice a t.length cap] 23) = W0 at *
    have hT0 := HT.out.below hB0
    have HT0 : Hid (∀ X, Below W0.heap.size W0 X → IntSS X (· < w.heap.size) (.slice a t.length cap) t) := fun X hX => ((HT.out.mono (fun _ _ h => h)).below hB0).below hX
    obtain ⟨b0, o0, b2, o2, ci, rfl, _, hr1, _⟩ := hT0.at (i := 0) (j := 0) (by have := HK.out.1; omega) (by have := HK.out.2.2.1; omega)
    rw [Nat.add_zero] at hr1
    clear hT0
    refine region_j (by kernel_rfl) (by kernel_rfl) (by kernel_rfl) (TurnJ W0 t.length (wid t 0) b0 o0 cap b2 o2 ci) ?start ?step ?fin
    case start => exact fun vl => ⟨(Below.refl _ _).drew, fun k hk => (by cases hk), fun hk => (by cases hk)⟩
    case step =>
      intro a W bt vl hj hf hv i o ho hni hcl hdb
      have hbl := hj.1
      have hfs := hj.2.1
      have e1 : a.eval (.tmp 1) = .pointer (some ⟨w.heap.size, 0, none⟩) := hf 1 (by kernel_rfl)
      have kT' := boxBelow kT hbl kT.lt
      have cT := kT'.cell
      have cR := (hbl.cell (p := ⟨b0, o0, none⟩) (World.block_lt_of_cell? _ _ hr1)).trans hr1
      have p0 : 0 < t.length := HK.out.1
      have p0i : (0 : Int) < (t.length : Int) := by omega
      rcases i with _ | i
      · cases ho
        exact ⟨rfl, op_val (v := .slice (some ⟨b0, o0, none⟩) t.length cap) (w' := W) (by simp [go_sem, evT e1, cT]) ⟨_, rfl, turnJ_step hj (by decide) (fun _ => by decide) (Below.refl _ _) rfl⟩⟩
      rcases i with _ | i
      · cases ho
        have h1 : a.eval (.tmp 10) = .slice (some ⟨b0, o0, none⟩) t.length cap := (hv 0 _ 10 rfl rfl).trans (hfs 0 (hdb 0 (by kernel_rfl)))
        exact ⟨rfl, op_val (v := .pointer (some ⟨b0, o0, none⟩)) (w' := W) (by simp [go_sem, evT h1, p0]) ⟨_, rfl, turnJ_step hj (by decide) (fun _ => by decide) (Below.refl _ _) rfl⟩⟩
      rcases i with _ | i
      · cases ho
        have h1 : a.eval (.tmp 11) = .pointer (some ⟨b0, o0, none⟩) := (hv 1 _ 11 rfl rfl).trans (hfs 1 (hdb 1 (by kernel_rfl)))
        exact ⟨rfl, op_val (v := .slice (some ⟨b2, o2, none⟩) (wid t 0) ci) (w' := W) (by simp [go_sem, evT h1, cR]) ⟨_, rfl, turnJ_step hj (by decide) (fun _ => by decide) (Below.refl _ _) rfl⟩⟩
      rcases i with _ | i
      · cases ho
        have h1 : a.eval (.tmp 12) = .slice (some ⟨b2, o2, none⟩) (wid t 0) ci := (hv 2 _ 12 rfl rfl).trans (hfs 2 (hdb 2 (by kernel_rfl)))
        exact ⟨rfl, op_val (v := .int .i64 (wid t 0 : Int)) (w' := W) (by simp [go_sem, evT h1]) ⟨_, rfl, turnJ_step hj (by decide) (fun _ => by decide) (Below.refl _ _) rfl⟩⟩
      rcases i with _ | i
      · cases ho
        exact ⟨rfl, op_val (v := .slice (some ⟨b0, o0, none⟩) t.length cap) (w' := W) (by simp [go_sem, evT e1, cT]) ⟨_, rfl, turnJ_step hj (by decide) (fun _ => by decide) (Below.refl _ _) rfl⟩⟩
      rcases i with _ | i
      · cases ho
        have h1 : a.eval (.tmp 14) = .slice (some ⟨b0, o0, none⟩) t.length cap := (hv 4 _ 14 rfl rfl).trans (hfs 4 (hdb 4 (by kernel_rfl)))
        exact ⟨rfl, op_val (v := .int .i64 (t.length : Int)) (w' := W) (by simp [go_sem, evT h1]) ⟨_, rfl, turnJ_step hj (by decide) (fun _ => by decide) (Below.refl _ _) rfl⟩⟩
      rcases i with _ | i
      · cases ho
        have h1 : a.eval (.tmp 13) = .int .i64 (wid t 0 : Int) := (hv 3 _ 13 rfl rfl).trans (hfs 3 (hdb 3 (by kernel_rfl)))
        have h2 : a.eval (.tmp 15) = .int .i64 (t.length : Int) := (hv 5 _ 15 rfl rfl).trans (hfs 5 (hdb 5 (by kernel_rfl)))
        refine ⟨rfl, op_enter (w' := W) (f := 34) (args := #[.int .i64 (wid t 0 : Int), .int .i64 (t.length : Int)]) (by simp [go_sem, evT h1, evT h2]) ?_⟩
        refine (iEmptyTable W (wid t 0) t.length (by have := HK.out.2.2.2.1; omega) (by have := HK.out.2.1; omega)).mono ?_
        rintro e W2 ⟨v, us, rfl, ho, hb2⟩
        obtain ⟨g, cp, rfl, _, _, _, _⟩ := ho.form
        have hz : (zeroT (wid t 0) t.length).length = wid t 0 := by simp [zeroT]
        rw [hz] at ho
        refine ⟨_, by rw [hz], _, rfl, turnJ_step hj (by decide) (fun h8 => ?_) hb2 ⟨g, cp, us, rfl, ho.mono hbl.size⟩⟩
        have := hcl 8 _ h8 rfl 6 (by kernel_rfl)
        rw [hni] at this; cases this
      rcases i with _ | i
      · cases ho
        refine ⟨rfl, op_val (v := .pointer (some ⟨W.heap.size, 0, none⟩)) (w' := W.alloc (.cells #[.slice none 0 0] 23)) ?_ ⟨_, rfl, turnJ_step hj (by decide) (fun h8 => ?_) ((Below.refl _ _).alloc (Nat.le_refl _) _) ⟨W.heap.size, rfl, hbl.size, _, Boxed.new W _ _⟩⟩⟩
        · simp [go_sem]
        · have := hcl 8 _ h8 rfl 7 (by kernel_rfl)
          rw [hni] at this; cases this
      rcases i with _ | i
      · cases ho
        obtain ⟨g, cp, us, h6, ho⟩ := hfs 6 (hdb 6 (by kernel_rfl))
        obtain ⟨p, h7, hp, u, hu⟩ := hfs 7 (hdb 7 (by kernel_rfl))
        have h1 : a.eval (.tmp 16) = .slice (some ⟨g, 0, none⟩) (wid t 0) cp := (hv 6 _ 16 rfl rfl).trans h6
        have h2 : a.eval (.tmp 4) = .pointer (some ⟨p, 0, none⟩) := (hv 7 _ 4 rfl rfl).trans h7
        have cu := hu.cell
        have fu := hu.frozen
        exact ⟨rfl, op_skip (w' := W.setCell ⟨p, 0, none⟩ (.slice (some ⟨g, 0, none⟩) (wid t 0) cp)) (by simp [go_sem, evT h1, evT h2, cu, fu]) ⟨_, rfl, turnJ_store hj h7 hp hu h6⟩⟩
      · cases ho
    case fin =>
      intro a W bt vl hsz' hdf hj hall hold hv
      obtain ⟨hbl, hfs, hlk⟩ := hj
      obtain ⟨g, cp, us, h6, ho⟩ := hfs 6 (hall 6 (by simp))
      obtain ⟨p, h7, hp, _⟩ := hfs 7 (hall 7 (by simp))
      obtain ⟨p2, h72, hbx⟩ := hlk (hall 8 (by simp))
      obtain rfl : p = p2 := by rw [h7] at h72; simpa using h72
      rw [h6] at hbx
      have h4 := (hv 7 _ 4 rfl rfl).trans h7
      obtain ⟨f, rfl⟩ := frame_lit [10, 11, 12, 13, 14, 15, 16, 4] (by kernel_rfl) hsz' hdf hold
      simp only [List.foldl_cons, List.foldl_nil, List.setIfInBounds_toArray, List.set_cons_succ, List.set_cons_zero] at h4 ⊢
      have h4' : f 4 = .pointer (some ⟨p, 0, none⟩) := h4
      rw [h4']
      have kT2 := boxBelow kT hbl kT.lt
      have cT := kT2.cell
      have hBW : Below w.heap.size w W := hB0.trans (hbl.mono hB0.size)
      have HO := Lib.hid ho
      have HZ : Hid (turnTo t (zeroT (wid t 0) t.length) []) := ⟨by simp [zeroT], fun j hj => zeroT_wid hj, fun p hp => by cases hp⟩
      clear hsz' hdf hall hold hv hfs hlk h6 h7 h72 h4 h4' ho hr1 c1
      go_wp2_with fail
      refine (callsIn_wide.1 (cellsOf_in Fence.wide 6 trivial rfl _ _ _ _)).mono ?_
      rintro e w2 ⟨rfl, rfl⟩
      go_wp2_with fail
      refine (wpIn_wide (n := 6)).1 ?_
      have hB1 : Below w.heap.size w (W.alloc (.cells #[.slice (some ⟨b0, o0, none⟩) t.length cap] 23)) := hBW.alloc hBW.size _
      have bN := Boxed.new W 23 (.slice (some ⟨b0, o0, none⟩) t.length cap)
      have HA2 : IntSS (W.alloc (.cells #[.slice (some ⟨b0, o0, none⟩) t.length cap] 23)) (· < w.heap.size) (.slice (some ⟨b0, o0, none⟩) t.length cap) t := (HT.out.mono (fun _ _ h => h)).below hB1
      have hws := hBW.size
      have hws2 := hbl.size
      refine wpIn_rangeFunc_ownG rfl (by omega) (gf := 42) (lb := #[.pointer (some ⟨W.heap.size, 0, none⟩)]) rfl trivial (enters_of Try.func42 (by kernel_rfl) rfl)
        (cells_stops Fence.wide (6 - 1) trivial rfl (by omega) W.heap.size w.heap.size _ t HL.out _ (by simp) bN.cell HA2) belowK_t (belowK_b (by simp; omega)) (Below.refl _ _) (fun _ => rfl)
        (fun pre V => (Boxed V w.heap.size 23 (.slice (some ⟨b0, o0, none⟩) t.length cap) ∧ Boxed V p 23 (.slice (some ⟨g, 0, none⟩) (wid t 0) cp) ∧ ∃ T, OwnU V W0.heap.size (.slice (some ⟨g, 0, none⟩) (wid t 0) cp) T us ∧ Hid (turnTo t T (pre.map Subtype.val))) ∧ Below w.heap.size w V)
        (fun _ _ _ => False)
        (OwnFrom.and (Own.from (fun s A B row hs hg hr => ⟨boxKept hs.1 hg hr, boxKept hs.2.1 hg hr, by obtain ⟨T, h1, h2⟩ := hs.2.2; exact ⟨T, ownU_own h1 hg hr, h2⟩⟩) _) (ownFrom_below (Nat.le_refl _) (by simp; omega)))
        (fun _ _ _ _ _ hs _ _ => hs)
        ⟨⟨kT2.alloc _, hbx.alloc _, _, HO.out.alloc _, HZ⟩, hB1⟩
        (fun x => { tmps := #[.slice (some ⟨b0, o0, none⟩) t.length cap, .pointer (some ⟨w.heap.size, 0, none⟩), .slice none 0 0, .bool false, .pointer (some ⟨p, 0, none⟩), .int .i64 (x.1.1 : Int), .int .i64 (x.1.2 : Int), .slice (some ⟨b0, o0, none⟩) t.length cap, .bool true, .bool false, f 10, f 11, f 12, f 13, f 14, f 15, f 16, .slice (some ⟨b0, o0, none⟩) t.length cap, .func (.func 42) #[] #[.pointer (some ⟨W.heap.size, 0, none⟩)], .int .i64 (x.1.1 : Int), .int .i64 (x.1.2 : Int), undef, undef, undef, undef, undef, undef, undef, undef, undef, undef, undef, undef, undef, undef], defers := [] }) ?assign ?body ?done ?stop
      case assign =>
        intro l x V K hK
        gi_wp2
        exact hK
      case body =>
        rintro l pre ⟨⟨i, j⟩, hi, hj⟩ V ⟨⟨kT, kO, T, hT, htt⟩, hB⟩ hlen
        simp only at hi hj
        have hw : wid t i = wid t 0 := (HK.out.2.2.2.2 i hi).1
        rw [hw] at hj
        obtain ⟨b1, o1, b2, o2, c1, e, _, hc1, hc2⟩ := (HT.out.below hB).at hi (j := j) (by rw [hw]; exact hj)
        cases e
        rw [hw] at hc1
        obtain ⟨c, hce⟩ : ∃ c, cel t i j = c := ⟨_, rfl⟩
        have hjT : j < T.length := by rw [htt.out.1]; exact hj
        obtain ⟨gi, ci, hu, hrow, hgi, _, _, _, _, _⟩ := hT.rowW hjT
        have hwj : wid T j = t.length := htt.out.2.1 j hj
        obtain ⟨hcel, hfrz⟩ := hT.at hjT hu (j := i) (by unfold wid at hwj; omega)
        rw [hwj] at hrow
        have HTT : Hid (turnTo t (setT T j i c) ((pre ++ [(⟨(i, j), hi, by rw [hw]; exact hj⟩ : Cel t)]).map Subtype.val)) := by
          have := turnTo_snoc htt.out hi hj
          rw [hce] at this
          simpa [Hid] using this
        have HU := Lib.hid hu
        rw [hce] at hc2
        have hap := box_apart kO hT (p := p)
        have kc1 := kT.cell
        have kc2 := kO.cell
        have i1 : (i : Int) < (t.length : Int) := by omega
        have i2 : (j : Int) < (wid t 0 : Int) := by omega
        have HOT := Lib.hid hT
        clear hu hce htt
        gi_wp2
        refine tail_round 13 (by kernel_rfl) (by kernel_rfl) (by kernel_rfl) (by rintro ⟨_, _, h⟩; exact h.elim) ?_
        simp only [List.take_succ_cons, List.take_zero, List.drop_succ_cons, List.drop_zero]
        repeat still_step
        try refine wpStill_nil ?_
        go_wp2
        have hgb : blksU (.slice (some ⟨g, 0, none⟩) (wid t 0) cp) us gi := .inr ⟨j, by rw [HOT.out.len]; exact hjT, by rw [HU.out]; rfl⟩
        have hne : gi ≠ p := fun e => hap (e ▸ hgb)
        have hg1 : V.grownBy (V.setCell ⟨gi, i, none⟩ (.int .i64 c)).drew (some gi) := grow_drew (grow_set (grow_refl _ _) _ _)
        exact ⟨((KeepsOthers.setCell _ _ _).trans (KeepsOthers.drew _)).from _, ((Below.refl _ V).setCell (p := ⟨gi, i, none⟩) (by simp; omega) _).drew, ⟨kT.kept hg1 (by simp; omega), kO.kept hg1 (by simp; omega), _, (OwnU.setT HOT.out hjT HU.out i c).drewN 1, HTT⟩, (hB.setCell (p := ⟨gi, i, none⟩) (by simp; omega) _).drew⟩
      case done =>
        rintro D ys V hD hys ⟨⟨kT, kO, T, hT, htt⟩, hB⟩ hK
        have kc2 := kO.cell
        have HF : Hid (OwnU V w.heap.size (.slice (some ⟨g, 0, none⟩) (wid t 0) cp) (turnT t) us) := by
          have e := htt.out
          rw [hys] at e
          have := turnTo_all HK.out e
          rw [← this]
          exact hT.mono (by omega)
        clear hT htt hys
        go_wp2_with fail
        refine ⟨by simp, .inl ⟨_, _, rfl, run_takeDeferred hK, ?_⟩⟩
        refine ⟨.tuple #[.slice (some ⟨g, 0, none⟩) (wid t 0) cp, .bool true], ?_, hB.trans (belowK_b (w := w) (Nat.le_refl _) V D _ _ (by simp at hD; omega) hK rfl rfl), .inr ⟨HK.out, g, cp, us, rfl, ownU_own HF.out (grownBy_putObj' V D _) (fun r e => by cases e; exact ⟨_, hK, rfl⟩)⟩⟩
        simp [results, Try.f13, go_sem]
      case stop =>
        rintro D c pre V _ _ h _
        exact h.elim
  · have D : Hid (decide (tblOk t) = false) := by unfold Hid; simpa using hok
    rw [D.out]
    clear D
    go_wp2_with fail
    refine ⟨.tuple #[.slice none 0 0, .bool false], ?_, hB0, .inl ⟨hok, rfl⟩⟩
    simp [results, Try.f13, go_sem]

end Go.Proofs.Ytigdgcpjkeaooaa
