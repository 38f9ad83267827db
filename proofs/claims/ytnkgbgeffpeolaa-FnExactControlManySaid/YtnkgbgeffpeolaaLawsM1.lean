/- The walk of the law: the program's ControlMany equals the reference's. -/
import Derived.Test.YtnkgbgeffpeolaaSpecM
import Derived.Test.YtnkgbgeffpeolaaIntss
import Derived.Test.YtnkgbgeffpeolaaOpenT
namespace Go.Proofs.Ytnkgbgeffpeolaa
open Go.RowKit

theorem lensM_small {t : List (List Int)} {b : Int} (h1 : t.length ≤ 1048576) (h : ∀ j, j < t.length → ((t[j]?.getD []).length : Int) ≤ b) (hb : b ≤ 1048576) : lensT t := by
  refine ⟨by omega, fun i => ?_⟩
  by_cases hi : i < t.length
  · have := h i hi; unfold wid; omega
  · unfold wid; rw [List.getElem?_eq_none (by omega)]; simp

set_option maxHeartbeats 1000000 in
theorem wFnExactControlMany (a : Option Addr) (len cap : Nat) (t : List (List Int)) (b : Int) (w : World) (h : ArgT w a len cap t) (_ : (Lit.int .i64 b).wf = true) :
    Calls Try.prog 3 #[.slice a len cap, .int .i64 b] w fun e w' => e = .returned (.bool true) ∧ Below w.heap.size w w' := by
  obtain ⟨g1, g2, g3, _⟩ := h
  have HI := Lib.hid g1
  unfold maxLen at g2 g3
  have H3 := Lib.hid g3
  clear g1 g3
  go_enter Try.func3, Try.ntmps3
  go_wp2_with fail
  with_reducible refine (lSzIntSS _ _ _ t 1048576 HI.out (by omega) (by omega) (by omega) H3.out).mono ?_
  rintro e w' ⟨r, rfl, rfl, r1, r2, hsz⟩
  by_cases hr : r < 0
  · clear hsz
    go_wp2_with fail
    go_ret
    exact ⟨rfl, Below.refl _ _⟩
  obtain ⟨s1, s2⟩ := hsz (by omega)
  have hl : t.length ≤ 1048576 := by omega
  have HL : Hid (∀ j, j < t.length → (t[j]?.getD []).length ≤ 1048576) := fun j hj => by have := s2 j hj; omega
  have HM : Hid (lensT t) := lensM_small hl s2 (by omega)
  clear s1 s2
  go_wp2_with fail
  with_reducible refine (lToIntSS _ _ _ t HI.out hl HL.out).mono ?_
  rintro e w1 ⟨v1, us1, rfl, o1, b1⟩
  go_wp2_with fail
  with_reducible refine (sControlMany _ _ _ t b o1.ints HM.out).mono ?_
  rintro e w2 ⟨rfl, b2⟩
  have B2 := b1.trans (b2.mono b1.size)
  generalize hm : manyR t b = m
  go_wp2_with fail
  with_reducible refine (lToIntSS _ _ _ t (HI.out.below B2) hl HL.out).mono ?_
  rintro e w3 ⟨v3, us3, rfl, o3, b3⟩
  have B3 := B2.trans (b3.mono B2.size)
  go_wp2_with fail
  with_reducible refine (iControlMany _ _ _ t b o3.ints HM.out).mono ?_
  rintro e w4 ⟨rfl, b4⟩
  have B4 := B3.trans (b4.mono B3.size)
  rw [hm]
  clear hm
  go_wp2_with fail
  with_reducible refine (lToIntSS _ _ _ t (HI.out.below B4) hl HL.out).mono ?_
  rintro e w6 ⟨v6, us6, rfl, o6, b6⟩
  have B6 := B4.trans (b6.mono B4.size)
  go_wp2_with fail
  with_reducible refine (lEqIntSS _ _ _ _ _ t ((o3.ints.below b4).below b6) o6.ints hl HL.out).mono ?_
  rintro e w7 ⟨rfl, n7, rfl⟩
  go_wp2_with fail
  go_ret
  exact ⟨rfl, below_drewN B6 n7⟩

end Go.Proofs.Ytnkgbgeffpeolaa
