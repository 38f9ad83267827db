/- Contracts of ControlFar, of the program and of the reference. -/
import Derived.Test.YtigdgcpjkeaooaaCells
import Derived.Test.YtigdgcpjkeaooaaInRnd
import Derived.Test.YtigdgcpjkeaooaaDraw2
namespace Go.Proofs.Ytigdgcpjkeaooaa
open Go.RowKit Go.Shelf

attribute [local go_sem] Oper.semAt_some

/-- the absolute value of a difference, as Go reckons it -/
def absW (a b : Int) : Int := max (wrap64 (a - b)) (wrap64 (-(wrap64 (a - b))))
/-- the sum of the differences of some cells -/
def farL (a b : List (List Int)) (l : List (Nat × Nat)) : Int := l.foldl (fun n p => wrap64 (n + absW (cel a p.1 p.2) (cel b p.1 p.2))) 0
theorem farL_snoc (a b : List (List Int)) (l : List (Nat × Nat)) (p : Nat × Nat) : farL a b (l ++ [p]) = wrap64 (farL a b l + absW (cel a p.1 p.2) (cel b p.1 p.2)) := by
  unfold farL; rw [List.foldl_append]; rfl
def farOf (a b : List (List Int)) : Int := if same a b then farL a b (cellsN a) else -1

set_option maxRecDepth 100000 in
set_option maxHeartbeats 2000000 in
theorem iControlFar (w : World) (P Q : Nat → Prop) (va vb : Value) (a b : List (List Int)) (ha : IntSS w P va a) (hb : IntSS w Q vb b) (la : lensT a) (lb : lensT b) :
    Calls Try.prog 10 #[va, vb] w fun e w' => e = .returned (.int .i64 (farOf a b)) ∧ Below w.heap.size w w' := by
  have HA := Lib.hid ha
  have HB := Lib.hid hb
  have LA := Lib.hid la
  have LB := Lib.hid lb
  obtain ⟨xa, ca, rfl, _, _⟩ := ha
  obtain ⟨xb, cb, rfl, _, _⟩ := hb
  clear la lb
  refine (callsIn_wide (n := 6)).1 ?_
  refine callsIn_of_wp_marks Try.func10 rfl trivial ?_ rfl
  simp only [Try.ntmps10, List.size_toArray, List.length_cons, List.length_nil, Nat.reduceAdd, Nat.reduceSub, Array.replicate_succ, Array.replicate_zero, List.push_toArray, List.append_toArray, List.nil_append, List.cons_append]
  gi_wp2_with fail
  refine ⟨trivial, ?_⟩
  have g2 : w.grownBy ((w.alloc (.cells #[.slice xa a.length ca] 23)).alloc (.cells #[.slice xb b.length cb] 23)) none := grow_alloc (World.grownBy_alloc _ _ _) _
  with_reducible refine (callsIn_wide.2 (iSame _ _ _ _ _ a b ((HA.out.alloc _).alloc _) ((HB.out.alloc _).alloc _) LA.out LB.out)).mono ?_
  rintro e w' ⟨rfl, rfl⟩
  by_cases hs : same a b
  · have HS := Lib.hid hs
    have D : Hid (decide (same a b) = true) := by simpa [Hid] using hs
    rw [D.out]
    clear hs
    gi_wp2_with fail
    refine ⟨trivial, ?_⟩
    refine (cellsOf_in Fence.wide _ trivial rfl _ _ _ _).mono ?_
    rintro e w' ⟨rfl, rfl⟩
    gi_wp2_with fail
    have bA := ((Boxed.new w 23 (.slice xa a.length ca)).alloc (.cells #[.slice xb b.length cb] 23)).alloc (.cells #[.int .i64 0] 3)
    have bB := (Boxed.new (w.alloc (.cells #[.slice xa a.length ca] 23)) 23 (.slice xb b.length cb)).alloc (.cells #[.int .i64 0] 3)
    have bF := Boxed.new ((w.alloc (.cells #[.slice xa a.length ca] 23)).alloc (.cells #[.slice xb b.length cb] 23)) 3 (.int .i64 0)
    have hB2 : Below w.heap.size w (((w.alloc (.cells #[.slice xa a.length ca] 23)).alloc (.cells #[.slice xb b.length cb] 23)).alloc (.cells #[.int .i64 0] 3)) := (((Below.refl _ w).alloc (Nat.le_refl _) _).alloc (by simp) _).alloc (by simp; omega) _
    rw [World.size_alloc] at bB
    rw [World.size_alloc, World.size_alloc] at bF
    generalize hW2 : ((w.alloc (.cells #[.slice xa a.length ca] 23)).alloc (.cells #[.slice xb b.length cb] 23)).alloc (.cells #[.int .i64 0] 3) = W2 at *
    have hs2 : W2.heap.size = w.heap.size + 3 := by rw [← hW2]; simp
    have bN := Boxed.new W2 23 (.slice xa a.length ca)
    have HA2 : IntSS (W2.alloc (.cells #[.slice xa a.length ca] 23)) (· < w.heap.size) (.slice xa a.length ca) a := ((HA.out.mono (fun _ _ h => h)).below hB2).alloc _
    rw [hs2] at bN
    refine wpIn_rangeFunc_ownG rfl (by omega) (gf := 42) (lb := #[.pointer (some ⟨w.heap.size + 3, 0, none⟩)]) rfl trivial (enters_of Try.func42 (by kernel_rfl) rfl)
      (cells_stops Fence.wide (6 - 1) trivial rfl (by omega) (w.heap.size + 3) w.heap.size _ a LA.out _ (by simp; omega) bN.cell HA2) belowK_t (belowK_b (by simp; omega)) (Below.refl _ _) (fun _ => rfl)
      (fun pre W => (Boxed W w.heap.size 23 (.slice xa a.length ca) ∧ Boxed W (w.heap.size + 1) 23 (.slice xb b.length cb) ∧ Boxed W (w.heap.size + 2) 3 (.int .i64 (farL a b (pre.map Subtype.val)))) ∧ Below w.heap.size w W)
      (fun _ _ _ => False)
      (OwnFrom.and (Own.from (fun s A B row hs hg hr => ⟨boxKept hs.1 hg hr, boxKept hs.2.1 hg hr, boxKept hs.2.2 hg hr⟩) _) (ownFrom_below (Nat.le_refl _) (by simp; omega)))
      (fun _ _ _ _ _ hs _ _ => hs)
      ⟨⟨bA.alloc _, bB.alloc _, bF.alloc _⟩, hB2.alloc (by omega) _⟩
      (fun x => { tmps := #[.slice xa a.length ca, .slice xb b.length cb, .pointer (some ⟨w.heap.size, 0, none⟩), .pointer (some ⟨w.heap.size + 1, 0, none⟩), .int .i64 0, .pointer (some ⟨w.heap.size + 2, 0, none⟩), .int .i64 (x.1.1 : Int), .int .i64 (x.1.2 : Int), undef, .slice xa a.length ca, .slice xb b.length cb, .bool true, .bool false, .slice xa a.length ca, .func (.func 42) #[] #[.pointer (some ⟨w.heap.size + 3, 0, none⟩)], .int .i64 (x.1.1 : Int), .int .i64 (x.1.2 : Int), undef, undef, undef, undef, undef, undef, undef, undef, undef, undef, undef, undef, undef, undef, undef, undef, undef, undef, undef, undef, undef, undef], defers := [] }) ?assign ?body ?done ?stop
    case assign =>
      intro l x W K hK
      gi_wp2
      exact hK
    case body =>
      rintro l pre ⟨⟨i, j⟩, hi, hj⟩ W ⟨⟨kA, kB, kF⟩, hB⟩ _
      simp only at hi hj
      have hj2 : j < wid b i := by rw [← HS.out.2 i hi]; exact hj
      have hi2 : i < b.length := by rw [← HS.out.1]; exact hi
      obtain ⟨b1, o1, b2, o2, c1, rfl, _, hc1, hc2⟩ := (HA.out.below hB).at hi hj
      obtain ⟨b3, o3, b4, o4, c3, rfl, _, hc3, hc4⟩ := (HB.out.below hB).at hi2 hj2
      have kc1 := kA.cell
      have kc2 := kB.cell
      have kc3 := kF.cell
      have kf3 := kF.frozen
      have i1 : (i : Int) < (a.length : Int) := by omega
      have i2 : (i : Int) < (b.length : Int) := by omega
      have i3 : (j : Int) < (wid a i : Int) := by omega
      have i4 : (j : Int) < (wid b i : Int) := by omega
      have HSN := Lib.hid (farL_snoc a b (pre.map Subtype.val) (i, j))
      generalize farL a b (pre.map Subtype.val) = f0 at *
      generalize cel a i j = za at *
      generalize cel b i j = zb at *
      gi_wp2
      refine quiet_round (F := Fence.wide) rfl (by kernel_rfl) (by kernel_rfl) (by kernel_rfl) ?_
      repeat (gi_big_quiet_step (fail))
      refine wpQuietIn_nil ?_
      intro _ hw'
      obtain ⟨nq, hw''⟩ := hw'
      subst hw''
      gi_wp2
      all_goals
        have hab : Hid (farL a b ((pre ++ [(⟨(i, j), hi, hj⟩ : Cel a)]).map Subtype.val) = wrap64 (f0 + absW za zb)) := by unfold Hid; rw [List.map_append]; exact HSN.out
        refine ⟨⟨(KeepsOthers.setCell (W.drewN nq) _ _).size, fun k o _ hk ho => (KeepsOthers.setCell (W.drewN nq) _ _).same k o hk ho⟩, (belowDraws (Below.refl _ W) nq).setCell (p := ⟨w.heap.size + 2, 0, none⟩) (by simp) _, ⟨(boxDraws kA nq).kept (grownBy_setCell' _ _ _) (by simp), (boxDraws kB nq).kept (grownBy_setCell' _ _ _) (by simp), ?_⟩, (belowDraws hB nq).setCell (p := ⟨w.heap.size + 2, 0, none⟩) (by simp) _⟩
        rw [hab.out]
        have hm : absW za zb = max (wrap64 (za - zb)) (wrap64 (-wrap64 (za - zb))) := rfl
        first
          | (rw [show absW za zb = wrap64 (za - zb) by omega]; exact (boxDraws kF nq).set _)
          | (rw [show absW za zb = wrap64 (-wrap64 (za - zb)) by omega]; exact (boxDraws kF nq).set _)
    case done =>
      rintro D ys W hD hys ⟨⟨kA, kB, kF⟩, hB⟩ hK
      have kc3 := kF.cell
      have HF : Hid (farL a b (ys.map Subtype.val) = farOf a b) := by unfold Hid farOf; rw [hys, if_pos HS.out]
      clear hys
      gi_wp2
      refine ⟨by simp, .inl ⟨_, _, rfl, run_takeDeferred hK, ?_⟩⟩
      exact ⟨_, results_tmp rfl _ _ _, by rw [← HF.out]; rfl, hB.trans (belowK_b (w := w) (Nat.le_refl _) W D _ _ (by simp at hD; omega) hK rfl rfl)⟩
    case stop =>
      rintro D c pre W _ _ h _
      exact h.elim
  · have HF : Hid (farOf a b = -1) := if_neg hs
    have D : Hid (decide (same a b) = false) := by simpa [Hid] using hs
    rw [D.out]
    clear hs
    gi_wp2_with fail
    exact ⟨_, results_tmp rfl _ _ _, by rw [HF.out]; rfl, ((Below.refl _ w).alloc (Nat.le_refl _) _).alloc (by simp) _⟩

end Go.Proofs.Ytigdgcpjkeaooaa
