/- The walk of the law: the program's KeyRows equals the reference's. -/
import Derived.Test.YtahnabijaoimfaaKeyR2
import Derived.Test.YtahnabijaoimfaaIntss
import Derived.Test.YtahnabijaoimfaaOpenT
namespace Go.Proofs.Ytahnabijaoimfaa
open Go.RowKit

theorem lens_of {t : List (List Int)} {b : Int} {c : Nat} (h : ∀ j, j < t.length → ((t[j]?.getD []).length : Int) ≤ b) (hb : b ≤ c) : ∀ r ∈ t, r.length ≤ c := by
  intro r hr
  obtain ⟨j, hj, rfl⟩ := List.mem_iff_getElem.1 hr
  have := h j hj
  rw [List.getElem?_eq_getElem hj] at this
  simp at this
  omega

set_option maxHeartbeats 400000 in
theorem wFnExactKeyRows (a : Option Addr) (len cap : Nat) (t : List (List Int)) (w : World) (h : ArgT w a len cap t) :
    Calls Try.prog 4 #[.slice a len cap] w fun e w' => e = .returned (.bool true) ∧ Below w.heap.size w w' := by
  obtain ⟨h1, h2, h3, _⟩ := h
  have HI := Lib.hid h1
  have H3 := Lib.hid h3
  unfold maxLen at h2 h3
  have H3 := Lib.hid h3
  clear h1 h3
  go_enter Try.func4, Try.ntmps4
  go_wp2_with fail
  with_reducible refine (lSzIntSS _ _ _ t 1048576 HI.out (by omega) (by omega) (by omega) H3.out).mono ?_
  rintro e w' ⟨r, rfl, rfl, r1, r2, hsz⟩
  by_cases hr : r < 0
  · clear hsz
    go_wp2_with fail
    go_ret
    exact ⟨rfl, Below.refl _ _⟩
  obtain ⟨s1, s2⟩ := hsz (by omega)
  have hl : t.length ≤ 1048576 := by omega
  have HL : Hid (∀ j, j < t.length → (t[j]?.getD []).length ≤ 1048576) := fun j hj => by have := s2 j hj; omega
  have HM := Lib.hid (lens_of (c := 4611686018427387904) s2 (by omega))
  clear s1 s2
  go_wp2_with fail
  with_reducible refine (lToIntSS _ _ _ t HI.out hl HL.out).mono ?_
  rintro e w1 ⟨v1, us1, rfl, o1, b1⟩
  go_wp2_with fail
  with_reducible refine (sKeyRows _ _ _ t o1.ints (by omega) HM.out).mono ?_
  rintro e w' ⟨rfl, rfl⟩
  go_wp2_with fail
  with_reducible refine (lToIntSS _ _ _ t (HI.out.below b1) hl HL.out).mono ?_
  rintro e w2 ⟨v2, us2, rfl, o2, b2⟩
  have B2 := b1.trans (b2.mono b1.size)
  go_wp2_with fail
  with_reducible refine (iKeyRows _ _ _ t o2.ints (by omega) HM.out).mono ?_
  rintro e w' ⟨rfl, rfl⟩
  go_wp2_with fail
  with_reducible refine (lToIntSS _ _ _ t (HI.out.below B2) hl HL.out).mono ?_
  rintro e w3 ⟨v3, us3, rfl, o3, b3⟩
  have B3 := B2.trans (b3.mono B2.size)
  go_wp2_with fail
  with_reducible refine (lEqIntSS _ _ _ _ _ t (o2.ints.below b3) o3.ints hl HL.out).mono ?_
  rintro e w4 ⟨rfl, n, rfl⟩
  go_wp2_with fail
  go_ret
  exact ⟨rfl, below_drewN B3 n⟩

end Go.Proofs.Ytahnabijaoimfaa
