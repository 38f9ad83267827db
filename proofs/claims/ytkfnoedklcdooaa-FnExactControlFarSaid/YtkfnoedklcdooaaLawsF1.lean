/- The walk of the law: the program's ControlFar equals the reference's. -/
import Derived.Test.YtkfnoedklcdooaaFarS
import Derived.Test.YtkfnoedklcdooaaIntss
import Derived.Test.YtkfnoedklcdooaaOpenT
namespace Go.Proofs.Ytkfnoedklcdooaa
open Go.RowKit

theorem lens_mem {t : List (List Int)} {b : Nat} (h : ∀ r ∈ t, r.length ≤ b) : ∀ i, wid t i ≤ b := by
  intro i
  unfold wid
  by_cases hi : i < t.length
  · rw [List.getElem?_eq_getElem hi]; exact h _ (List.getElem_mem hi)
  · rw [List.getElem?_eq_none (by omega)]; simp
theorem lensT_small {t : List (List Int)} {b : Int} (h1 : t.length ≤ 1048576) (h : ∀ j, j < t.length → ((t[j]?.getD []).length : Int) ≤ b) (hb : b ≤ 1048576) : lensT t := by
  refine ⟨by omega, fun i => ?_⟩
  by_cases hi : i < t.length
  · have := h i hi; unfold wid; omega
  · unfold wid; rw [List.getElem?_eq_none (by omega)]; simp

set_option maxHeartbeats 1000000 in
theorem wFnExactControlFar (a : Option Addr) (len cap : Nat) (t : List (List Int)) (a1 : Option Addr) (len1 cap1 : Nat) (t1 : List (List Int)) (w : World) (h : ArgT w a len cap t) (h1 : ArgT w a1 len1 cap1 t1) :
    Calls Try.prog 3 #[.slice a len cap, .slice a1 len1 cap1] w fun e w' => e = .returned (.bool true) ∧ Below w.heap.size w w' := by
  obtain ⟨g1, g2, g3, _⟩ := h
  obtain ⟨k1, k2, k3, _⟩ := h1
  have HI := Lib.hid g1
  have KI := Lib.hid k1
  unfold maxLen at g2 g3 k2 k3
  have H3 := Lib.hid g3
  have K3 := Lib.hid k3
  clear g1 g3 k1 k3
  go_enter Try.func3, Try.ntmps3
  go_wp2_with fail
  with_reducible refine (lSzIntSS _ _ _ t 1048576 HI.out (by omega) (by omega) (by omega) H3.out).mono ?_
  rintro e w' ⟨r, rfl, rfl, r1, r2, hsz⟩
  by_cases hr : r < 0
  · clear hsz
    go_wp2_with fail
    go_ret
    exact ⟨rfl, Below.refl _ _⟩
  obtain ⟨s1, s2⟩ := hsz (by omega)
  have hl : t.length ≤ 1048576 := by omega
  have HL : Hid (∀ j, j < t.length → (t[j]?.getD []).length ≤ 1048576) := fun j hj => by have := s2 j hj; omega
  have HM : Hid (lensT t) := lensT_small hl s2 (by omega)
  clear s1 s2
  go_wp2_with fail
  with_reducible refine (lSzIntSS _ _ _ t1 r KI.out (by omega) (by omega) (by omega) K3.out).mono ?_
  rintro e w' ⟨q, rfl, rfl, q1, q2, hsz1⟩
  by_cases hq : q < 0
  · clear hsz1
    go_wp2_with fail
    go_ret
    exact ⟨rfl, Below.refl _ _⟩
  obtain ⟨s1, s2⟩ := hsz1 (by omega)
  have hl1 : t1.length ≤ 1048576 := by omega
  have HL1 : Hid (∀ j, j < t1.length → (t1[j]?.getD []).length ≤ 1048576) := fun j hj => by have := s2 j hj; omega
  have HM1 : Hid (lensT t1) := lensT_small hl1 s2 (by omega)
  clear s1 s2
  go_wp2_with fail
  with_reducible refine (lToIntSS _ _ _ t HI.out hl HL.out).mono ?_
  rintro e w1 ⟨v1, us1, rfl, o1, b1⟩
  go_wp2_with fail
  with_reducible refine (lToIntSS _ _ _ t1 (KI.out.below b1) hl1 HL1.out).mono ?_
  rintro e w2 ⟨v2, us2, rfl, o2, b2⟩
  have B2 := b1.trans (b2.mono b1.size)
  go_wp2_with fail
  with_reducible refine (sControlFar _ _ _ _ _ t t1 (o1.ints.below b2) o2.ints HM.out HM1.out).mono ?_
  rintro e w' ⟨rfl, n1, rfl⟩
  replace B2 := below_drewN B2 n1
  go_wp2_with fail
  with_reducible refine (lToIntSS _ _ _ t (HI.out.below B2) hl HL.out).mono ?_
  rintro e w3 ⟨v3, us3, rfl, o3, b3⟩
  have B3 := B2.trans (b3.mono B2.size)
  go_wp2_with fail
  with_reducible refine (lToIntSS _ _ _ t1 (KI.out.below B3) hl1 HL1.out).mono ?_
  rintro e w4 ⟨v4, us4, rfl, o4, b4⟩
  have B4 := B3.trans (b4.mono B3.size)
  go_wp2_with fail
  with_reducible refine (iControlFar _ _ _ _ _ t t1 (o3.ints.below b4) o4.ints HM.out HM1.out).mono ?_
  rintro e w5 ⟨rfl, b5⟩
  have B5 := B4.trans (b5.mono B4.size)
  generalize farOf t t1 = fr
  go_wp2_with fail
  with_reducible refine (lToIntSS _ _ _ t (HI.out.below B5) hl HL.out).mono ?_
  rintro e w6 ⟨v6, us6, rfl, o6, b6⟩
  have B6 := B5.trans (b6.mono B5.size)
  go_wp2_with fail
  with_reducible refine (lEqIntSS _ _ _ _ _ t (((o3.ints.below b4).below b5).below b6) o6.ints hl HL.out).mono ?_
  rintro e w7 ⟨rfl, n7, rfl⟩
  replace B6 := below_drewN B6 n7
  go_wp2_with fail
  with_reducible refine (lToIntSS _ _ _ t1 (KI.out.below B6) hl1 HL1.out).mono ?_
  rintro e w8 ⟨v8, us8, rfl, o8, b8⟩
  have B8 := B6.trans (b8.mono B6.size)
  go_wp2_with fail
  with_reducible refine (lEqIntSS _ _ _ _ _ t1 ((((o4.ints.below b5).below b6).drewN n7).below b8) o8.ints hl1 HL1.out).mono ?_
  rintro e w9 ⟨rfl, n9, rfl⟩
  go_wp2_with fail
  go_ret
  exact ⟨rfl, below_drewN B8 n9⟩

end Go.Proofs.Ytkfnoedklcdooaa
