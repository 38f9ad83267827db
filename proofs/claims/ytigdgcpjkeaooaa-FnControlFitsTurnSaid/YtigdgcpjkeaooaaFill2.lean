/- The program's iterator over the roundings of a table: its recursive filling, one cell. -/
import Derived.Test.YtigdgcpjkeaooaaFill
import Derived.Deep.QuietTactic
import Derived.BigQuiet
namespace Go.Proofs.Ytigdgcpjkeaooaa
open Go.RowKit Go.Shelf

/-- a region that draws its order, whose first n operations only read, the rest in one order -/
theorem tail_plain {P : Program} {id : Nat} {Q : Exit → Act → World → Prop} {a : Act} {w : World} {l : List Oper} (n : Nat) (hm : P.follows .mixedOrders = true) (hB : Region.lexTailB .any l.toArray n = true)
    (h : wpStill P l.toArray w.drew (fun a' => wpList P l.toArray Q (l.drop n) a' w.drew) (l.take n) a) : (Code.region id l.toArray true).wp P Q a w := wp_region_still_tail n hm hB h

theorem okTo_set {t X : List (List Int)} {b : Int} (hr : rect t) (hs : same t X) {p : Nat} (hp : p < t.length * wid t 0) (h : okTo t b p X) {v : Int} (hv : cOk b (cel t (p / wid t 0) (p % wid t 0)) v) :
    okTo t b (p + 1) (setT X (p / wid t 0) (p % wid t 0) v) := by
  intro q hq
  by_cases e : q = p
  · subst e; rw [set_at hr hs hp]; exact hv
  · rw [← agr_set_self hr hs hp v q (by omega)]; exact h q (by omega)
theorem okTo_agr {t X Y : List (List Int)} {b : Int} {p : Nat} (h : okTo t b p X) (ha : agr (wid t 0) p X Y) : okTo t b p Y := fun q hq => by rw [← ha q hq]; exact h q hq
theorem rdn_dn {c b : Int} (hb : 2 ≤ b) (hb2 : b ≤ 20) (h0 : 0 ≤ c) (h1 : c ≤ 99) : rdn c b = dn b c := by
  unfold rdn dn; rw [if_pos (by unfold okR; omega)]

set_option maxRecDepth 100000 in
set_option maxHeartbeats 4000000 in
theorem iFill (s e bx l Bt Bw Bx Bb By Bf base : Nat) (P : Nat → Prop) (vt vx : Value) (t : List (List Int)) (b : Int) (us : List Value) (ht : tblOk t) (hb : 2 ≤ b) (hb2 : b ≤ 20) (hB : FillB s e bx Bt Bw Bx Bb By Bf P vx us)
    (J : List (List (List Int)) → World → Prop) (hJ : ∀ pre A B, J pre A → Keeps (fun k => ¬ (s ≤ k ∧ k < e)) A B → J pre B)
    (hY : ∀ pre v X W1, J pre W1 → Fits t X b → IntSS W1 (fun k => s ≤ k ∧ k < e) v X → YieldAt Fence.wide 6 Try.prog l #[v] W1 fun e' W' => e' = .returned (.bool true) ∧ J (pre ++ [X]) W' ∧ Keeps (· ≠ bx) W1 W') :
    ∀ (n p : Nat), n + p = t.length * wid t 0 → ∀ (pi : Int), pi = (p : Int) → ∀ (pre : List (List (List Int))) (X : List (List Int)) (W : World), FillW W l Bt Bw Bx Bb By Bf base P vt vx t b us X → okTo t b p X → J pre W →
    Calls Try.prog 45 #[.int .i64 pi, .pointer (some ⟨Bt, 0, none⟩), .pointer (some ⟨Bw, 0, none⟩), .pointer (some ⟨Bx, 0, none⟩), .pointer (some ⟨Bb, 0, none⟩), .pointer (some ⟨By, 0, none⟩), .pointer (some ⟨Bf, 0, none⟩)] W
      (FillP l Bt Bw Bx Bb By Bf base P vt vx t b us J n p pre X) := by
  intro n
  induction n with
  | zero =>
    rintro p hp pi rfl pre X W hS hok hJ0
    exact fill_end s e bx l Bt Bw Bx Bb By Bf base P vt vx t b us ht hb hb2 hB J hJ hY p hp pre X W hS hok hJ0
  | succ n ih =>
    rintro p hp pi rfl pre X W hS hok hJ0
    have hpl : p < t.length * wid t 0 := by omega
    obtain ⟨hi, hj⟩ := div_bd ht.rect.1 hpl
    have HIH := Lib.hid ih
    have HB := Lib.hid hB
    have HJ := Lib.hid hJ
    have HP := Lib.hid hp
    -- the cell
    obtain ⟨i, hie⟩ : ∃ i, p / wid t 0 = i := ⟨_, rfl⟩
    obtain ⟨j, hje⟩ : ∃ j, p % wid t 0 = j := ⟨_, rfl⟩
    obtain ⟨c, hce⟩ : ∃ c, cel t i j = c := ⟨_, rfl⟩
    obtain ⟨dv, hde⟩ : ∃ d, dn b c = d := ⟨_, rfl⟩
    have hc0 : 0 ≤ c ∧ c ≤ 99 := by rw [← hce, ← hie, ← hje]; exact (ht.2.2.2.2 _ hi).2 _ hj
    have hdb : 0 ≤ dv ∧ dv ≤ c ∧ c < dv + b := by rw [← hde]; exact dn_bd hb hc0.1
    have HRD : Hid (rdn c b = dv) := by unfold Hid; rw [rdn_dn hb hb2 hc0.1 hc0.2, hde]
    have HFL : Hid (fillL t b (n + 1) p X = fillL t b n (p + 1) (setT X i j dv) ++ if c = dv then [] else fillL t b n (p + 1) (setT X i j (dv + b))) := by
      unfold Hid; rw [fillL, hie, hje, hce, hde]
    have HK1 : Hid (∀ Y, same t Y → agr (wid t 0) p X Y → ∀ v, cOk b c v → okTo t b (p + 1) (setT Y i j v) ∧ agr (wid t 0) p X (setT Y i j v) ∧ fillL t b n (p + 1) (setT X i j v) = fillL t b n (p + 1) (setT Y i j v)) := by
      intro Y hY2 ha v hv
      rw [← hce, ← hie, ← hje] at hv
      rw [← hie, ← hje]
      refine ⟨okTo_set ht.rect hY2 hpl (okTo_agr hok ha) hv, ha.trans (agr_set_self ht.rect hY2 hpl v), ?_⟩
      exact fill_agr b ht.rect n (p + 1) _ _ (by omega) (sameT_set hS.same _ _ _) (sameT_set hY2 _ _ _) (agr_set ht.rect hS.same hY2 hpl ha v)
    have HK2 : Hid (∀ Y v, same t Y → agr (wid t 0) (p + 1) (setT X i j v) Y → cel Y i j = v ∧ agr (wid t 0) p X Y) := by
      intro Y v hY2 ha
      rw [← hie, ← hje] at ha ⊢
      refine ⟨?_, (agr_set_self ht.rect hS.same hpl v).trans (ha.less (by omega))⟩
      rw [← ha p (by omega), set_at ht.rect hS.same hpl]
    have HC1 : Hid (cOk b c dv) := .inl hde.symm
    have HC2 : Hid (¬ c = dv → cOk b c (dv + b)) := fun h => .inr ⟨by rw [hde], by rw [hde]; exact h⟩
    have hcell : ∀ Y, same t Y → i < Y.length ∧ j < wid Y i := fun Y hY2 => by have := same_cell ht.rect hY2 hpl; rw [hie, hje] at this; exact this
    have HCE := Lib.hid hcell
    have hwt : wid t i = wid t 0 := by rw [← hie]; exact (ht.2.2.2.2 _ hi).1
    have tq : (p : Int).tdiv (wid t 0 : Int) = (i : Int) := by rw [← hie]; exact (Int.ofNat_tdiv p (wid t 0)).symm
    have tr : (p : Int).tmod (wid t 0 : Int) = (j : Int) := by rw [← hje]; exact (Int.ofNat_tmod p (wid t 0)).symm
    have tq2 : (p : Int) / (wid t 0 : Int) = (i : Int) := by rw [← hie]; rfl
    have tr2 : (p : Int) % (wid t 0 : Int) = (j : Int) := by rw [← hje]; rfl
    have hm2 : (t.length : Int) * (wid t 0 : Int) ≤ 16 := by
      obtain ⟨a1, a2, a3, a4, _⟩ := ht
      have := Nat.mul_le_mul a2 a4
      omega
    have hm3 : (0 : Int) ≤ (t.length : Int) * (wid t 0 : Int) := by omega
    have ce : ((p : Int) == (t.length : Int) * (wid t 0 : Int)) = false := by
      have : (p : Int) < ((t.length * wid t 0 : Nat) : Int) := by omega
      rw [Int.natCast_mul] at this
      simp; omega
    have hp16 : p ≤ 16 := by omega
    have hw1 : 1 ≤ wid t 0 := ht.2.2.1
    have hw4 : wid t 0 ≤ 4 := ht.2.2.2.1
    have hh4 : t.length ≤ 4 := ht.2.1
    rw [hie] at hi
    rw [hje] at hj
    have hj0 := hj
    rw [← hwt] at hj
    obtain ⟨at_, capt, rfl, _, _⟩ := id hS.tt
    obtain ⟨tb, tof, tb2, tof2, tci, rfl, _, ct1, ct2⟩ := hS.tt.at hi hj
    obtain ⟨gx, capx, hvx, _, _, _, _⟩ := id hS.xx.form
    rw [← hS.same.1] at hvx
    subst hvx
    obtain ⟨hxi, hxj⟩ := hcell X hS.same
    obtain ⟨gi, ci, hu, cx1, _, _, _, _, _, _⟩ := hS.xx.row hxi
    obtain ⟨cx2, fx2⟩ := hS.xx.at hxi hu (j := j) hxj
    have HU := Lib.hid hu
    rw [hce] at ct2
    have HCT := Lib.hid hce
    have c1 := hS.bt.cell
    have c2 := hS.bw.cell
    have c3 := hS.bX.cell
    have c4 := hS.bb.cell
    have c6 := hS.bf.cell
    have HS := Lib.hid hS
    have HJ0 := Lib.hid hJ0
    change W.cell? ⟨gx, i, none⟩ = some (.slice (some ⟨gi, 0, none⟩) (wid X i) ci) at cx1
    clear hS hB hY hJ hJ0 ih hok hp hcell hu hie hje hce hde
    go_enter Try.func45, Try.ntmps45
    go_wp2_with fail
    go_quiet (fail)
    go_wp2_with fail
    refine tail_plain 15 (by kernel_rfl) (by kernel_rfl) ?_
    simp only [List.take_succ_cons, List.take_zero, List.drop_succ_cons, List.drop_zero]
    replace HS := Lib.hid (HS.out.keeps (W' := (W.drewN nq).drew) (Q := fun _ => True) (((Keeps.refl _ _).drewN nq).drew) trivial trivial trivial trivial trivial trivial (fun _ _ => trivial) (fun _ _ => trivial))
    replace HJ0 := Lib.hid (HJ.out _ _ _ HJ0.out (((Keeps.refl _ _).drewN nq).drew))
    change (W.drewN nq).drew.cell? _ = _ at ct1 ct2 cx1 cx2 c1 c2 c3 c4 c6
    change (W.drewN nq).drew.frozen? _ = _ at fx2
    generalize (W.drewN nq).drew = Wd at *
    repeat still_step
    still_call ((iRoundDown c b dv _ HRD).mono (fun e w' h => ⟨h.1, h.2.symm⟩))
    repeat still_step
    refine wpStill_nil ?_
    have HS1 := Lib.hid (HS.out.set HB.out hxi HU.out j dv)
    have HJ1 := Lib.hid (HJ.out _ _ _ HJ0.out (Keeps.setCell Wd gi j (.int .i64 dv) (by have := HB.out.u1 gi (.inr ⟨i, by rw [HS.out.xx.len]; exact hxi, by rw [HU.out]; rfl⟩); omega)))
    have c6' := HS1.out.bf.cell
    go_wp2_with fail
    have HK := Lib.hid (HK1.out X HS.out.same (agr_refl _ _ _) dv HC1.out)
    with_reducible refine (HIH.out (p + 1) (by have := HP.out; omega) ((p : Int) + 1) (by push_cast; rfl) pre (setT X i j dv) _ HS1.out HK.out.1 HJ1.out).mono ?_
    clear c1 c2 c3 c4 c6 c6' ct1 ct2 cx1 cx2 fx2 hxi hxj HS HJ0
    rintro e1 W1 ⟨rfl, X1, hS1, ag1, hJ1⟩
    obtain ⟨hv1, ag2⟩ := HK2.out X1 dv hS1.same ag1
    obtain ⟨tb3, tof3, tb4, tof4, tci4, hq, _, ct1, ct2⟩ := hS1.tt.at hi hj
    cases hq
    obtain ⟨hxi, hxj⟩ := HCE.out X1 hS1.same
    obtain ⟨gi1, ci1, hu1, cx1, _, _, _, _, _, _⟩ := hS1.xx.row hxi
    obtain ⟨cx2, fx2⟩ := hS1.xx.at hxi hu1 (j := j) hxj
    change W1.cell? ⟨gx, i, none⟩ = some (.slice (some ⟨gi1, 0, none⟩) (wid X1 i) ci1) at cx1
    change W1.cell? ⟨gi1, j, none⟩ = some (.int .i64 (cel X1 i j)) at cx2
    rw [hv1] at cx2
    rw [HCT.out] at ct2
    have c1 := hS1.bt.cell
    have c3 := hS1.bX.cell
    have c4 := hS1.bb.cell
    have c6 := hS1.bf.cell
    replace HS1 := Lib.hid hS1
    replace HJ1 := Lib.hid hJ1
    have HU1 := Lib.hid hu1
    have HAG := Lib.hid ag2
    clear hS1 hJ1 ag1 hu1 ag2 hv1 HU HK
    by_cases hcd : c = dv
    · have cE : (dv == c) = true := by simp [hcd]
      have HL : Hid (fillL t b (n + 1) p X = fillL t b n (p + 1) (setT X i j dv)) := by unfold Hid; rw [HFL.out, if_pos hcd, List.append_nil]
      clear hcd
      go_wp2_with fail
      go_quiet (fail)
      go_wp2_with fail
      go_ret
      exact ⟨rfl, X1, HS1.out.keeps (Q := fun _ => True) ((Keeps.refl _ _).drewN nq) trivial trivial trivial trivial trivial trivial (fun _ _ => trivial) (fun _ _ => trivial), HAG.out, by rw [HL.out]; exact HJ.out _ _ _ HJ1.out ((Keeps.refl _ _).drewN nq)⟩
    · have cE : (dv == c) = false := by simp; omega
      have HL : Hid (fillL t b (n + 1) p X = fillL t b n (p + 1) (setT X i j dv) ++ fillL t b n (p + 1) (setT X i j (dv + b))) := by unfold Hid; rw [HFL.out, if_neg hcd]
      have HK := Lib.hid (HK1.out X1 HS1.out.same HAG.out (dv + b) (HC2.out hcd))
      clear hcd
      go_wp2_with fail
      go_quiet (fail)
      go_wp2_with fail
      refine tail_plain 10 (by kernel_rfl) (by kernel_rfl) ?_
      simp only [List.take_succ_cons, List.take_zero, List.drop_succ_cons, List.drop_zero]
      replace HS1 := Lib.hid (HS1.out.keeps (W' := (W1.drewN nq).drew) (Q := fun _ => True) (((Keeps.refl _ _).drewN nq).drew) trivial trivial trivial trivial trivial trivial (fun _ _ => trivial) (fun _ _ => trivial))
      replace HJ1 := Lib.hid (HJ.out _ _ _ HJ1.out (((Keeps.refl _ _).drewN nq).drew))
      change (W1.drewN nq).drew.cell? _ = _ at ct1 ct2 cx1 cx2 c1 c3 c4 c6
      change (W1.drewN nq).drew.frozen? _ = _ at fx2
      generalize (W1.drewN nq).drew = We at *
      repeat still_step
      refine wpStill_nil ?_
      have HS2 := Lib.hid (HS1.out.set HB.out hxi HU1.out j (dv + b))
      have HJ2 := Lib.hid (HJ.out _ _ _ HJ1.out (Keeps.setCell We gi1 j (.int .i64 (dv + b)) (by have := HB.out.u1 gi1 (.inr ⟨i, by rw [HS1.out.xx.len]; exact hxi, by rw [HU1.out]; rfl⟩); omega)))
      have c6' := HS2.out.bf.cell
      go_wp2_with fail
      with_reducible refine (HIH.out (p + 1) (by have := HP.out; omega) ((p : Int) + 1) (by push_cast; rfl) _ (setT X1 i j (dv + b)) _ HS2.out HK.out.1 HJ2.out).mono ?_
      clear c1 c3 c4 c6 c6' ct1 ct2 cx1 cx2 fx2 hxi hxj
      rintro e2 W2 ⟨rfl, X2, hS2, ag2, hJ2⟩
      have HS3 := Lib.hid hS2
      have HJ3 := Lib.hid hJ2
      have HA3 := Lib.hid (HK.out.2.1.trans (ag2.less (Nat.le_succ p)))
      clear hS2 hJ2 ag2
      go_wp2_with fail
      go_ret
      refine ⟨rfl, X2, HS3.out, HA3.out, ?_⟩
      rw [HL.out, ← List.append_assoc, HK.out.2.2]
      exact HJ3.out

end Go.Proofs.Ytigdgcpjkeaooaa
