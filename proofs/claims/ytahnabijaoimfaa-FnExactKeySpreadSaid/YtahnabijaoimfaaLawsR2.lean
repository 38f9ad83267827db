/- The walks of the laws: the program's KeyMean and KeySpread equal the reference's. -/
import Derived.Test.YtahnabijaoimfaaKeySp
import Derived.Test.YtahnabijaoimfaaLawsR1
namespace Go.Proofs.Ytahnabijaoimfaa
open Go.RowKit

set_option maxHeartbeats 400000 in
theorem wFnExactKeyMean (a : Option Addr) (len cap : Nat) (t : List (List Int)) (n : Int) (w : World) (h : ArgT w a len cap t) (_ : (Lit.int .i64 n).wf = true) :
    Calls Try.prog 10 #[.slice a len cap, .int .i64 n] w fun e w' => e = .returned (.bool true) ∧ Below w.heap.size w w' := by
  obtain ⟨h1, h2, h3, _⟩ := h
  have HI := Lib.hid h1
  unfold maxLen at h2 h3
  have H3 := Lib.hid h3
  clear h1 h3
  go_enter Try.func10, Try.ntmps10
  go_wp2_with fail
  with_reducible refine (lSzIntSS _ _ _ t 1048576 HI.out (by omega) (by omega) (by omega) H3.out).mono ?_
  rintro e w' ⟨r, rfl, rfl, r1, r2, hsz⟩
  by_cases hr : r < 0
  · clear hsz
    go_wp2_with fail
    go_ret
    exact ⟨rfl, Below.refl _ _⟩
  obtain ⟨s1, s2⟩ := hsz (by omega)
  have hl : t.length ≤ 1048576 := by omega
  have HL : Hid (∀ j, j < t.length → (t[j]?.getD []).length ≤ 1048576) := fun j hj => by have := s2 j hj; omega
  have HM : Hid (lensT t) := ⟨by omega, lens_of (c := 4611686018427387904) s2 (by omega)⟩
  obtain ⟨d, hd⟩ : ∃ d, kmean t n = d := ⟨_, rfl⟩
  have HD := Lib.hid hd
  clear s1 s2 hd
  go_wp2_with fail
  with_reducible refine (lToIntSS _ _ _ t HI.out hl HL.out).mono ?_
  rintro e w1 ⟨v1, us1, rfl, o1, b1⟩
  go_wp2_with fail
  with_reducible refine (sKeyMean _ _ _ t n d o1.ints HM.out HD).mono ?_
  rintro e w' ⟨rfl, rfl⟩
  go_wp2_with fail
  with_reducible refine (lToIntSS _ _ _ t (HI.out.below b1) hl HL.out).mono ?_
  rintro e w2 ⟨v2, us2, rfl, o2, b2⟩
  have B2 := b1.trans (b2.mono b1.size)
  go_wp2_with fail
  with_reducible refine (iKeyMean _ _ _ t n d o2.ints HM.out HD).mono ?_
  rintro e w' ⟨rfl, rfl⟩
  go_wp2_with fail
  with_reducible refine (lToIntSS _ _ _ t (HI.out.below B2) hl HL.out).mono ?_
  rintro e w3 ⟨v3, us3, rfl, o3, b3⟩
  have B3 := B2.trans (b3.mono B2.size)
  go_wp2_with fail
  with_reducible refine (lEqIntSS _ _ _ _ _ t (o2.ints.below b3) o3.ints hl HL.out).mono ?_
  rintro e w4 ⟨rfl, n, rfl⟩
  go_wp2_with fail
  go_ret
  exact ⟨rfl, below_drewN B3 n⟩

set_option maxHeartbeats 400000 in
theorem wFnExactKeySpread (a : Option Addr) (len cap : Nat) (t : List (List Int)) (w : World) (h : ArgT w a len cap t) :
    Calls Try.prog 11 #[.slice a len cap] w fun e w' => e = .returned (.bool true) ∧ Below w.heap.size w w' := by
  obtain ⟨h1, h2, h3, _⟩ := h
  have HI := Lib.hid h1
  unfold maxLen at h2 h3
  have H3 := Lib.hid h3
  clear h1 h3
  go_enter Try.func11, Try.ntmps11
  go_wp2_with fail
  with_reducible refine (lSzIntSS _ _ _ t 1048576 HI.out (by omega) (by omega) (by omega) H3.out).mono ?_
  rintro e w' ⟨r, rfl, rfl, r1, r2, hsz⟩
  by_cases hr : r < 0
  · clear hsz
    go_wp2_with fail
    go_ret
    exact ⟨rfl, Below.refl _ _⟩
  obtain ⟨s1, s2⟩ := hsz (by omega)
  have hl : t.length ≤ 1048576 := by omega
  have HL : Hid (∀ j, j < t.length → (t[j]?.getD []).length ≤ 1048576) := fun j hj => by have := s2 j hj; omega
  have HM : Hid (lensT t) := ⟨by omega, lens_of (c := 4611686018427387904) s2 (by omega)⟩
  obtain ⟨d, hd⟩ : ∃ d, kspread t = d := ⟨_, rfl⟩
  have HD := Lib.hid hd
  clear s1 s2 hd
  go_wp2_with fail
  with_reducible refine (lToIntSS _ _ _ t HI.out hl HL.out).mono ?_
  rintro e w1 ⟨v1, us1, rfl, o1, b1⟩
  go_wp2_with fail
  with_reducible refine (sKeySpread _ _ _ t d o1.ints HM.out HD).mono ?_
  rintro e w' ⟨rfl, n1, rfl⟩
  replace b1 := below_drewN b1 n1
  go_wp2_with fail
  with_reducible refine (lToIntSS _ _ _ t (HI.out.below b1) hl HL.out).mono ?_
  rintro e w2 ⟨v2, us2, rfl, o2, b2⟩
  have B2 := b1.trans (b2.mono b1.size)
  go_wp2_with fail
  with_reducible refine (iKeySpread _ _ _ t d o2.ints HM.out HD).mono ?_
  rintro e w' ⟨rfl, rfl⟩
  go_wp2_with fail
  with_reducible refine (lToIntSS _ _ _ t (HI.out.below B2) hl HL.out).mono ?_
  rintro e w3 ⟨v3, us3, rfl, o3, b3⟩
  have B3 := B2.trans (b3.mono B2.size)
  go_wp2_with fail
  with_reducible refine (lEqIntSS _ _ _ _ _ t (o2.ints.below b3) o3.ints hl HL.out).mono ?_
  rintro e w4 ⟨rfl, n, rfl⟩
  go_wp2_with fail
  go_ret
  exact ⟨rfl, below_drewN B3 n⟩

end Go.Proofs.Ytahnabijaoimfaa
