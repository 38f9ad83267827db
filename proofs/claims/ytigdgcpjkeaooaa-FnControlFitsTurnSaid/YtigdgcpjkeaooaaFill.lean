/- The program's iterator over the roundings of a table: its recursive filling. -/
import Derived.Test.YtigdgcpjkeaooaaKeeps
import Derived.Test.YtigdgcpjkeaooaaFits
import Derived.Test.YtigdgcpjkeaooaaRndX
import Derived.Test.YtigdgcpjkeaooaaDrawT2
import Derived.StillTailTactics
namespace Go.Proofs.Ytigdgcpjkeaooaa
open Go.RowKit Go.Shelf

attribute [local go_sem] Oper.semAt_some

theorem lens_ok {t : List (List Int)} (h : tblOk t) : lensT t := by
  refine ⟨by have := h.2.1; omega, fun i => ?_⟩
  by_cases hi : i < t.length
  · rw [(h.2.2.2.2 i hi).1]; have := h.2.2.2.1; omega
  · unfold wid; rw [List.getElem?_eq_none (by omega)]; simp
theorem lens_same {t x : List (List Int)} (h : tblOk t) (hs : same t x) : lensT x := by
  refine ⟨by have := h.2.1; rw [← hs.1]; omega, fun i => ?_⟩
  by_cases hi : i < t.length
  · rw [← hs.2 i hi, (h.2.2.2.2 i hi).1]; have := h.2.2.2.1; omega
  · unfold wid; rw [List.getElem?_eq_none (by rw [← hs.1]; omega)]; simp

/-- what the filling finds: six boxes, the table t, its own table X -/
structure FillW (W : World) (l Bt Bw Bx Bb By Bf base : Nat) (P : Nat → Prop) (vt vx : Value) (t : List (List Int)) (b : Int) (us : List Value) (X : List (List Int)) : Prop where
  bt : Boxed W Bt 23 vt
  bw : Boxed W Bw 3 (.int .i64 (wid t 0 : Int))
  bX : Boxed W Bx 23 vx
  bb : Boxed W Bb 3 (.int .i64 b)
  byy : Boxed W By 41 (.func (.yield l) #[] #[])
  bf : Boxed W Bf 42 (.func (.func 45) #[] #[.pointer (some ⟨Bt, 0, none⟩), .pointer (some ⟨Bw, 0, none⟩), .pointer (some ⟨Bx, 0, none⟩), .pointer (some ⟨Bb, 0, none⟩), .pointer (some ⟨By, 0, none⟩), .pointer (some ⟨Bf, 0, none⟩)])
  tt : IntSS W P vt t
  xx : OwnU W base vx X us
  same : same t X

/-- where all that lies: the iterator's own blocks from s on, below e -/
structure FillB (s e bx Bt Bw Bx Bb By Bf : Nat) (P : Nat → Prop) (vx : Value) (us : List Value) : Prop where
  x1 : bx < s
  t1 : Bt ≠ bx ∧ Bt < s
  b1 : Bb ≠ bx ∧ Bb < s
  w1 : s ≤ Bw ∧ Bw < e
  X1 : s ≤ Bx ∧ Bx < e
  y1 : s ≤ By ∧ By < e
  f1 : s ≤ Bf ∧ Bf < e
  p1 : ∀ k, P k → k ≠ bx ∧ k < s
  u1 : ∀ k, blksU vx us k → s ≤ k ∧ k < e ∧ k ≠ Bw ∧ k ≠ Bx ∧ k ≠ By ∧ k ≠ Bf

theorem FillW.keeps {W W' : World} {l Bt Bw Bx Bb By Bf base : Nat} {P Q : Nat → Prop} {vt vx : Value} {t : List (List Int)} {b : Int} {us : List Value} {X : List (List Int)} (h : FillW W l Bt Bw Bx Bb By Bf base P vt vx t b us X)
    (hk : Keeps Q W W') (h1 : Q Bt) (h2 : Q Bw) (h3 : Q Bx) (h4 : Q Bb) (h5 : Q By) (h6 : Q Bf) (h7 : ∀ k, P k → Q k) (h8 : ∀ k, blksU vx us k → Q k) : FillW W' l Bt Bw Bx Bb By Bf base P vt vx t b us X :=
  ⟨boxKeeps h.bt hk h1, boxKeeps h.bw hk h2, boxKeeps h.bX hk h3, boxKeeps h.bb hk h4, boxKeeps h.byy hk h5, boxKeeps h.bf hk h6, h.tt.keeps hk (fun k _ hp => h7 k hp), h.xx.keeps hk h8, h.same⟩
theorem FillW.below {W W' : World} {l Bt Bw Bx Bb By Bf base : Nat} {P : Nat → Prop} {vt vx : Value} {t : List (List Int)} {b : Int} {us : List Value} {X : List (List Int)} (h : FillW W l Bt Bw Bx Bb By Bf base P vt vx t b us X)
    (hk : Below W.heap.size W W') : FillW W' l Bt Bw Bx Bb By Bf base P vt vx t b us X := h.keeps (Q := fun _ => True) (.of_below hk) trivial trivial trivial trivial trivial trivial (fun _ _ => trivial) (fun _ _ => trivial)
theorem FillW.round {W W' : World} {l s e bx Bt Bw Bx Bb By Bf base : Nat} {P : Nat → Prop} {vt vx : Value} {t : List (List Int)} {b : Int} {us : List Value} {X : List (List Int)} (h : FillW W l Bt Bw Bx Bb By Bf base P vt vx t b us X)
    (hB : FillB s e bx Bt Bw Bx Bb By Bf P vx us) (hk : Keeps (· ≠ bx) W W') : FillW W' l Bt Bw Bx Bb By Bf base P vt vx t b us X := by
  have := hB.x1
  have h2 := hB.w1
  have h3 := hB.X1
  have h5 := hB.y1
  have h6 := hB.f1
  exact h.keeps hk hB.t1.1 (by omega) (by omega) hB.b1.1 (by omega) (by omega) (fun k hp => (hB.p1 k hp).1) (fun k hp => by have := (hB.u1 k hp).1; omega)
theorem FillW.set {W : World} {l s e bx Bt Bw Bx Bb By Bf base : Nat} {P : Nat → Prop} {vt vx : Value} {t : List (List Int)} {b : Int} {us : List Value} {X : List (List Int)} (h : FillW W l Bt Bw Bx Bb By Bf base P vt vx t b us X)
    (hB : FillB s e bx Bt Bw Bx Bb By Bf P vx us) {i : Nat} (hi : i < X.length) {gi n ci : Nat} (hu : us[i]? = some (.slice (some ⟨gi, 0, none⟩) n ci)) (j : Nat) (x : Int) : FillW (W.setCell ⟨gi, j, none⟩ (.int .i64 x)) l Bt Bw Bx Bb By Bf base P vt vx t b us (setT X i j x) := by
  have hg : blksU vx us gi := .inr ⟨i, by rw [h.xx.len]; exact hi, by rw [hu]; rfl⟩
  obtain ⟨u1, u2, u3, u4, u5, u6⟩ := hB.u1 gi hg
  have hk : Keeps (· ≠ gi) W (W.setCell ⟨gi, j, none⟩ (.int .i64 x)) := Keeps.setCell _ _ _ _ (by simp)
  exact ⟨boxKeeps h.bt hk (by have := hB.t1; omega), boxKeeps h.bw hk (Ne.symm u3), boxKeeps h.bX hk (Ne.symm u4), boxKeeps h.bb hk (by have := hB.b1; omega), boxKeeps h.byy hk (Ne.symm u5), boxKeeps h.bf hk (Ne.symm u6),
    h.tt.keeps hk (fun k _ hp => by have := (hB.p1 k hp).2; omega), OwnU.setT h.xx hi hu j x, sameT_set h.same _ _ _⟩

/-- the first p cells are rounded -/
def okTo (t : List (List Int)) (b : Int) (p : Nat) (X : List (List Int)) : Prop := ∀ q, q < p → cOk b (cel t (q / wid t 0) (q % wid t 0)) (cel X (q / wid t 0) (q % wid t 0))
theorem okTo.fits {t X : List (List Int)} {b : Int} (ht : tblOk t) (hb : 2 ≤ b) (hb2 : b ≤ 20) (hs : same t X) (h : okTo t b (t.length * wid t 0) X) : Fits t X b ↔ sumsFit t X b := by
  refine ⟨fun hf => hf.2.2.2.2, fun hf => ⟨ht, ⟨hb, hb2⟩, hs, fun i hi j hj => ?_, hf⟩⟩
  obtain ⟨q, hq, rfl, rfl⟩ := at_cell hi hj
  exact h q hq

/-- what the filling leaves -/
def FillP (l Bt Bw Bx Bb By Bf base : Nat) (P : Nat → Prop) (vt vx : Value) (t : List (List Int)) (b : Int) (us : List Value) (J : List (List (List Int)) → World → Prop) (n p : Nat) (pre : List (List (List Int))) (X : List (List Int)) (e : Ending) (W' : World) : Prop :=
  e = .returned (.bool true) ∧ ∃ X', FillW W' l Bt Bw Bx Bb By Bf base P vt vx t b us X' ∧ agr (wid t 0) p X X' ∧ J (pre ++ fillL t b n p X) W'

set_option maxRecDepth 100000 in
set_option maxHeartbeats 2000000 in
theorem fill_end (s e bx l Bt Bw Bx Bb By Bf base : Nat) (P : Nat → Prop) (vt vx : Value) (t : List (List Int)) (b : Int) (us : List Value) (ht : tblOk t) (hb : 2 ≤ b) (hb2 : b ≤ 20) (hB : FillB s e bx Bt Bw Bx Bb By Bf P vx us)
    (J : List (List (List Int)) → World → Prop) (hJ : ∀ pre A B, J pre A → Keeps (fun k => ¬ (s ≤ k ∧ k < e)) A B → J pre B)
    (hY : ∀ pre v X W1, J pre W1 → Fits t X b → IntSS W1 (fun k => s ≤ k ∧ k < e) v X → YieldAt Fence.wide 6 Try.prog l #[v] W1 fun e' W' => e' = .returned (.bool true) ∧ J (pre ++ [X]) W' ∧ Keeps (· ≠ bx) W1 W')
    (p : Nat) (hp : 0 + p = t.length * wid t 0) (pre : List (List (List Int))) (X : List (List Int)) (W : World) (hS : FillW W l Bt Bw Bx Bb By Bf base P vt vx t b us X) (hok : okTo t b p X) (hJ0 : J pre W) :
    Calls Try.prog 45 #[.int .i64 (p : Int), .pointer (some ⟨Bt, 0, none⟩), .pointer (some ⟨Bw, 0, none⟩), .pointer (some ⟨Bx, 0, none⟩), .pointer (some ⟨Bb, 0, none⟩), .pointer (some ⟨By, 0, none⟩), .pointer (some ⟨Bf, 0, none⟩)] W
      (FillP l Bt Bw Bx Bb By Bf base P vt vx t b us J 0 p pre X) := by
  have HS := Lib.hid hS
  have HB := Lib.hid hB
  have HY := Lib.hid hY
  have HJ := Lib.hid hJ
  have HJ0 := Lib.hid hJ0
  have HT := Lib.hid ht
  have LT : Hid (lensT t) := lens_ok ht
  have LX : Hid (lensT X) := lens_same ht hS.same
  have HPE : Hid (p = t.length * wid t 0) := by unfold Hid; omega
  have HFS : Hid (Fits t X b ↔ sumsFit t X b) := okTo.fits ht hb hb2 hS.same (by rw [← HPE.out]; exact hok)
  have c1 := hS.bt.cell
  have c2 := hS.bw.cell
  have c3 := hS.bX.cell
  have c4 := hS.bb.cell
  have c5 := hS.byy.cell
  obtain ⟨at_, capt, rfl, _, _⟩ := hS.tt
  obtain ⟨gx, capx, rfl, _, _, _, _⟩ := hS.xx.form
  have hm : (t.length : Int) * (wid t 0 : Int) = (p : Int) := by rw [HPE.out]; push_cast; rfl
  have hm2 : (t.length : Int) * (wid t 0 : Int) ≤ 16 := by
    obtain ⟨a1, a2, a3, a4, _⟩ := ht
    have := Nat.mul_le_mul a2 a4
    omega
  have hm3 : (0 : Int) ≤ (t.length : Int) * (wid t 0 : Int) := by omega
  have ce : ((p : Int) == (t.length : Int) * (wid t 0 : Int)) = true := by rw [hm]; simp
  clear hS hB hY hJ hJ0 ht hok hp hm
  refine (callsIn_wide (n := 7)).1 ?_
  refine callsIn_of_wp Try.func45 rfl trivial ?_ rfl
  simp only [Try.ntmps45, List.size_toArray, List.length_cons, List.length_nil, Nat.reduceAdd, Nat.reduceSub, Array.replicate_succ, Array.replicate_zero, List.push_toArray, List.append_toArray, List.nil_append, List.cons_append]
  gi_wp2
  with_reducible refine (callsIn_wide.2 (iFits W P _ _ _ t X b HS.out.tt HS.out.xx.intsB LT.out LX.out)).mono ?_
  rintro e1 W1 ⟨rfl, b1⟩
  have HS1 := Lib.hid (HS.out.below b1)
  have J1 := Lib.hid (HJ.out _ _ _ HJ0.out (.of_below b1))
  clear HS HJ0
  have c3' := HS1.out.bX.cell
  have c5' := HS1.out.byy.cell
  clear c1 c2 c3 c4 c5
  by_cases hf : Fits t X b
  · have D : Hid (decide (Fits t X b) = true) := by unfold Hid; simpa using hf
    have HR : Hid (fillL t b 0 p X = [X]) := by unfold Hid fillL; rw [if_pos (HFS.out.1 hf)]
    rw [D.out]
    obtain ⟨fn, tmps, assign, body, hy, hR⟩ := HY.out pre _ X W1 J1.out hf (HS1.out.xx.intsB.mono (fun k hk _ => ⟨(HB.out.u1 k hk).1, (HB.out.u1 k hk).2.1⟩))
    clear hf D
    gi_wp2
    refine hR.mono ?_
    rintro e2 W2 ⟨rfl, hJ2, hk2⟩
    gi_wp2
    go_ret
    exact ⟨rfl, X, HS1.out.round HB.out hk2, agr_refl _ _ _, by rw [HR.out]; exact hJ2⟩
  · have D : Hid (decide (Fits t X b) = false) := by unfold Hid; simpa using hf
    have HR : Hid (fillL t b 0 p X = []) := by unfold Hid fillL; rw [if_neg (fun h => hf (HFS.out.2 h))]
    rw [D.out]
    clear hf D
    gi_wp2
    go_ret
    exact ⟨rfl, X, HS1.out, agr_refl _ _ _, by rw [HR.out, List.append_nil]; exact J1.out⟩

end Go.Proofs.Ytigdgcpjkeaooaa
