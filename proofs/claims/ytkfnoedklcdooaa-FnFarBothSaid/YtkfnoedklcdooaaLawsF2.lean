/- The walk of the law: a detour is no nearer. -/
import Derived.Test.YtkfnoedklcdooaaFarP
import Derived.Test.YtkfnoedklcdooaaFarS
import Derived.Test.YtkfnoedklcdooaaDrawT3
namespace Go.Proofs.Ytkfnoedklcdooaa
open Go.RowKit

theorem mod_nat (x y : Nat) (h : 1 ≤ y) : ∃ k : Nat, k < y ∧ (x : Int) % (y : Int) = (k : Int) := ⟨x % y, Nat.mod_lt _ h, (Int.natCast_emod x y).symm⟩

theorem iFar_at (w : World) (P Q : Nat → Prop) (va vb : Value) (a b : List (List Int)) (f : Int) (ha : IntSS w P va a) (hb : IntSS w Q vb b) (la : smallT a) (lb : smallT b) (hf : Hid (farOf a b = f)) :
    Calls Try.prog 9 #[va, vb] w fun e w' => e = .returned (.int .i64 f) ∧ Below w.heap.size w w' := by
  rw [← hf.out]; exact iControlFar w P Q va vb a b ha hb la.lens lb.lens
theorem sFar_at (w : World) (P Q : Nat → Prop) (va vb : Value) (a b : List (List Int)) (f : Int) (ha : IntSS w P va a) (hb : IntSS w Q vb b) (la : smallT a) (lb : smallT b) (hf : Hid (farOf a b = f)) :
    Calls Try.prog 7 #[va, vb] w fun e w' => e = .returned (.int .i64 f) ∧ ∃ n, w' = w.drewN n := by
  rw [← hf.out]; exact sControlFar w P Q va vb a b ha hb la.lens lb.lens

set_option maxHeartbeats 2000000 in
theorem wFnFarThree (a : Option Addr) (len cap : Nat) (z : List Int) (a1 : Option Addr) (len1 cap1 : Nat) (z1 : List Int) (w : World) (h : IsRow .u8 w a len cap z) (_ : IsRow .u8 w a1 len1 cap1 z1) :
    Calls Try.prog 4 #[.slice a len cap, .slice a1 len1 cap1] w fun e w' => e = .returned (.bool true) ∧ Below w.heap.size w w' := by
  have H := Lib.hid h; clear h
  by_cases hl : 1048576 < len
  · go_enter Try.func4, Try.ntmps4
    go_wp2_with fail
    go_ret
    exact ⟨rfl, Below.refl _ _⟩
  by_cases hl1 : 1048576 < len1
  · have d1 : decide ((1048576 : Int) < (len1 : Int)) = true := by simp; omega
    go_enter Try.func4, Try.ntmps4
    go_wp2_with fail
    go_ret
    exact ⟨rfl, Below.refl _ _⟩
  have d1 : decide ((1048576 : Int) < (len1 : Int)) = false := by simp; omega
  go_enter Try.func4, Try.ntmps4
  go_wp2_with fail
  refine (drawControlFar _ _ _ _ _ H.out).mono ?_
  rintro e w1 ⟨va, ta, vb, tb, rfl, ha, hb, da, db, b1⟩
  have HA := Lib.hid ha
  have HB := Lib.hid hb
  obtain ⟨xa, ca, rfl, hca, _⟩ := ha
  obtain ⟨xb, cb, rfl, _, _⟩ := hb
  have SA := Lib.hid da.out.small
  have SB := Lib.hid db.out.small
  by_cases hs : same ta tb
  · obtain ⟨f1, f2, f3⟩ := farOf_same SA.out SB.out hs
    have HS := Lib.hid hs
    obtain ⟨f, hf⟩ : ∃ f, farS ta tb = f := ⟨_, rfl⟩
    rw [hf] at f1 f2 f3
    have HF := Lib.hid f1
    have HFS := Lib.hid hf
    clear f1 hs hf
    go_wp2_with fail
    with_reducible refine (iFar_at _ _ _ _ _ ta tb f HA.out HB.out SA.out SB.out HF).mono ?_
    rintro e w2 ⟨rfl, b2⟩
    go_wp2_with fail
    with_reducible refine (sFar_at _ _ _ _ _ ta tb f (HA.out.below b2) (HB.out.below b2) SA.out SB.out HF).mono ?_
    rintro e w3' ⟨rfl, n3, rfl⟩
    have c2 : decide (f < 0) = false := by simp; omega
    have B2 := below_drewN (b1.trans (b2.mono b1.size)) n3
    have BA : Below w1.heap.size w1 (w2.drewN n3) := below_drewN b2 n3
    generalize w2.drewN n3 = w3 at *
    by_cases ht0 : ta.length = 0
    · have hz : ((ta.length : Int) == 0) = true := beq_iff_eq.2 (by omega)
      have dz : decide ((0 : Int) ≤ f) = true := by simp; omega
      go_wp2_with fail
      go_ret
      exact ⟨rfl, B2⟩
    · have hz : ((ta.length : Int) == 0) = false := beq_eq_false_iff_ne.2 (by omega)
      have ht1 : 1 ≤ ta.length := by omega
      have hA3 := HA.out.below BA
      obtain ⟨_, _, e, _, ra⟩ := hA3
      cases e
      obtain ⟨b0, o0, a0, c0, rfl, _, hc0, _⟩ := ra.rowW (i := 0) (by omega)
      have hw0 := (da.out.2 0 (by omega)).1
      have hw04 := (da.out.2 0 (by omega)).2.1
      have hwz : ((wid ta 0 : Int) == 0) = false := by simp; omega
      rw [Nat.add_zero] at hc0
      obtain ⟨k, hkl, hke⟩ := mod_nat len1 ta.length ht1
      have hke2 : (len1 : Int).tmod (ta.length : Int) = (k : Int) := by rw [Int.tmod_eq_emod_of_nonneg (by omega)]; exact hke
      have hwk := (da.out.2 k hkl).1
      have hwk4 := (da.out.2 k hkl).2.1
      have hz0 := (da.out.2 k hkl).2.2 0 (by omega)
      have hla : ta.length ≤ 4 := da.out.1
      have HLEN := Lib.hid da.out.lens.2
      have U1 := Lib.hid (far_up hkl hwk)
      have U2 := Lib.hid (far_up2 (b := tb) hkl hwk)
      have SC := Lib.hid (small_set SA.out hkl hwk (x := cel ta k 0 + 1) (by omega) (by omega))
      have F1 : Hid (farOf ta (setT ta k 0 (cel ta k 0 + 1)) = 1) := by
        have := farOf_same SA.out SC.out (same_set k 0 _)
        unfold Hid; rw [this.1]; exact U1.out
      obtain ⟨y, hy⟩ : ∃ y, farOf (setT ta k 0 (cel ta k 0 + 1)) tb = y := ⟨_, rfl⟩
      have HY : Hid (y = f + 1 ∨ y = f - 1) := by
        have := farOf_same SC.out SB.out (same_set2 HS.out k 0 (cel ta k 0 + 1))
        have u2 := U2.out
        have e := HFS.out
        unfold Hid
        rw [← hy, this.1]; omega
      have FY := Lib.hid hy
      have ZC : Hid (cel ta k 0 = (ta[k]?.getD [])[0]?.getD 0) := rfl
      clear hy ht0 ra
      go_wp2_with fail
      with_reducible refine (lCopyRows _ _ _ ta (HA.out.below BA) (by omega) HLEN.out).mono ?_
      rintro e w4 ⟨vc, uc, rfl, oc, b4⟩
      have OC := Lib.hid oc
      obtain ⟨gc, cc, rfl, hgc, hgcs, hcc1, hcc2⟩ := oc.form
      obtain ⟨gi, ci, hu, hcell, hgi1, hgi2, hgi3, hci1, hci2, hoi⟩ := oc.rowW hkl
      obtain ⟨hcm, hfm⟩ := oc.at hkl hu (j := 0) hwk
      rw [← ZC.out] at hcm
      have HSC := Lib.hid (oc.setT hkl hu 0 (cel ta k 0 + 1))
      generalize hzz : cel ta k 0 = zz at *
      have hki : (k : Int) < (ta.length : Int) := by omega
      have hwki : (0 : Int) < (wid ta k : Int) := by omega
      have e3 := IntWalk.i64_in (zz + 1) (by omega)
      have e4 := IntWalk.i64_in (k : Int) (by omega)
      have B4 : Hid (Below w3.heap.size w3 (w4.setCell ⟨gi, 0, none⟩ (.int .i64 (zz + 1))).drew) := (b4.setCell (p := ⟨gi, 0, none⟩) hgi1 _).drew
      clear hu hoi oc hzz
      go_wp2_with fail
      go_region
      clear e3 e4
      have BB := BA.trans (B4.out.mono BA.size)
      go_wp2_with fail
      with_reducible refine (iFar_at _ _ _ _ _ ta _ 1 (HA.out.below BB) HSC.out.ints.drew SA.out SC.out F1).mono ?_
      rintro e w5 ⟨rfl, b5⟩
      go_wp2_with fail
      with_reducible refine (iFar_at _ _ _ _ _ _ tb y (HSC.out.ints.drew.below b5) ((HB.out.below BB).below b5) SC.out SB.out FY).mono ?_
      rintro e w6 ⟨rfl, b6⟩
      have B6 := Lib.hid (((B2.trans (B4.out.mono B2.size)).trans (b5.mono (B2.trans (B4.out.mono B2.size)).size)).trans (b6.mono ((B2.trans (B4.out.mono B2.size)).trans (b5.mono (B2.trans (B4.out.mono B2.size)).size)).size))
      rcases HY.out with rfl | rfl
      · have c3 : decide (f ≤ 1 + (f + 1)) = true := by simp; omega
        go_wp2_with fail
        go_ret
        exact ⟨rfl, B6.out⟩
      · have c3 : decide (f ≤ 1 + (f - 1)) = true := by simp; omega
        have c4 : (f - 1 == f + 1) = false := beq_eq_false_iff_ne.2 (by omega)
        go_wp2_with fail
        go_ret
        exact ⟨rfl, B6.out⟩
  · have HF := Lib.hid (farOf_diff hs)
    clear hs
    go_wp2_with fail
    with_reducible refine (iFar_at _ _ _ _ _ ta tb _ HA.out HB.out SA.out SB.out HF).mono ?_
    rintro e w2 ⟨rfl, b2⟩
    go_wp2_with fail
    with_reducible refine (sFar_at _ _ _ _ _ ta tb _ (HA.out.below b2) (HB.out.below b2) SA.out SB.out HF).mono ?_
    rintro e w3 ⟨rfl, n3, rfl⟩
    go_wp2_with fail
    go_ret
    exact ⟨rfl, below_drewN (b1.trans (b2.mono b1.size)) n3⟩

end Go.Proofs.Ytkfnoedklcdooaa
