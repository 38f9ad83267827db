/- The walk of the law: each small table has a rounding. (Printed by wip/tools/mkR8.py.) -/
import Derived.Test.YtihkahojicafiaaRoundA
namespace Go.Proofs.Ytihkahojicafiaa
open Go.RowKit

set_option maxRecDepth 100000 in
set_option maxHeartbeats 4000000 in
theorem wFnControlRound (a : Option Addr) (len cap : Nat) (z : List Int) (w : World) (h : IsRow .u8 w a len cap z) :
    Calls Try.prog 7 #[.slice a len cap] w fun e w' => e = .returned (.bool true) ∧ Below w.heap.size w w' := by
  have H := Lib.hid h; clear h
  by_cases hl : 1048576 < len
  · go_enter Try.func7, Try.ntmps7
    go_wp2_with fail
    go_ret
    exact ⟨rfl, Below.refl _ _⟩
  go_enter Try.func7, Try.ntmps7
  go_wp2_with fail
  refine (drawControlRound _ _ _ _ _ H.out).mono ?_
  rintro e w1 ⟨g, cp, t, us, b, rfl, ho, hd, hb1, hb2, bl1⟩
  have LD := Lib.hid (lensD hd.out)
  have HB1 := Lib.hid bl1
  clear bl1 hl
  go_wp2_with fail
  with_reducible refine (iControlRound _ _ _ t b ho.out.ints LD.out).mono ?_
  rintro e w2 ⟨bl2, hI⟩
  have HO2 := Lib.hid (ho.out.below bl2)
  have HB2 := Lib.hid (HB1.out.trans (bl2.mono HB1.out.size))
  rcases hI with ⟨hn, rfl⟩ | ⟨hs, gy, cy, uy, rfl, hy⟩
  · go_wp2_with fail
    with_reducible refine (sControlRound _ _ _ t b HO2.out.ints LD.out).mono ?_
    rintro e w3 ⟨bl3, hS⟩
    rcases hS with ⟨_, g3, rfl, o3⟩ | ⟨hs, _⟩
    rotate_left
    · exact absurd hs hn
    have HB3 := Lib.hid (HB2.out.trans (bl3.mono HB2.out.size))
    have HO3 := Lib.hid (HO2.out.below bl3)
    have HN := Lib.hid hn
    have O3 := Lib.hid o3
    clear o3 bl2 bl3 ho hn
    go_wp2_with fail
    with_reducible refine (same_c _ (nilSS _) (O3.out).ints lens_nil).mono ?_
    rintro e w' ⟨rfl, n3, rfl⟩
    go_wp2_with fail
    with_reducible refine (same_c _ (nilSS _) (O3.out.drewN n3).ints lens_nil).mono ?_
    rintro e w' ⟨rfl, n4, rfl⟩
    go_wp2_with fail
    go_ret
    exact ⟨rfl, below_drewN HB3.out _⟩
  · go_wp2_with fail
    with_reducible refine (sControlRound _ _ _ t b HO2.out.ints LD.out).mono ?_
    rintro e w3 ⟨bl3, hS⟩
    rcases hS with ⟨hn, _⟩ | ⟨_, g3, c3, u3, rfl, o3⟩
    · exact absurd hs hn
    have HB3 := Lib.hid (HB2.out.trans (bl3.mono HB2.out.size))
    have HO3 := Lib.hid (HO2.out.below bl3)
    have HY3 := Lib.hid (hy.below bl3)
    have HSM := Lib.hid hs
    have HF := Lib.hid (near_fits hs.1 hs.2.2.1 hs.2.2.2)
    have HLY : Hid (t.length = (nearR t b).length) := HF.out.2.2.1.1
    have LY := Lib.hid (lens_same hs.1 HF.out.2.2.1)
    have HLE : Hid (∀ y, Fits t y b → farOf t (nearR t b) ≤ farOf t y) := fun y hf => near_le HSM.out.2.2.1 HSM.out.2.2.2 hf
    rw [HLY.out] at HY3 o3
    obtain ⟨Y, hY⟩ : ∃ Y, nearR t b = Y := ⟨_, rfl⟩
    rw [hY] at HY3 o3 HF HLY LY HLE
    have HNY := Lib.hid hY
    have O3 := Lib.hid o3
    clear o3 bl2 bl3 ho hs hY hy
    rw [HLY.out]
    go_wp2_with fail
    with_reducible refine (same_c _ HY3.out.ints O3.out.ints LY.out).mono ?_
    rintro e w' ⟨rfl, n3, rfl⟩
    have HB4 := Lib.hid (below_drewN HB3.out n3)
    have HO4 := Lib.hid (HO3.out.drewN n3)
    have HY4 := Lib.hid (HY3.out.drewN n3)
    rw [HLY.out] at HO4
    clear HO2 HB2 HO3 HY3 O3 HB3 HB1
    generalize w3.drewN n3 = w4 at *
    go_wp2_with fail
    with_reducible refine (iControlFar _ _ _ _ _ t Y HO4.out.ints HY4.out.ints LD.out LY.out).mono ?_
    rintro e w5 ⟨rfl, bl5⟩
    obtain ⟨e1, hf0, hf1⟩ := far_bd HF.out
    rw [e1]
    generalize farS t Y = fr at *
    have HO5 := Lib.hid (HO4.out.below bl5)
    have HY5 := Lib.hid (HY4.out.below bl5)
    have HB5 := Lib.hid (HB4.out.trans (bl5.mono HB4.out.size))
    go_wp2_with fail
    with_reducible refine (iFits _ _ _ _ _ t Y b HO5.out.ints HY5.out.ints LD.out LY.out).mono ?_
    rintro e w6 ⟨rfl, bl6⟩
    rw [decide_eq_true HF.out]
    have HO6 := Lib.hid (HO5.out.below bl6)
    have HB6 := Lib.hid (HB5.out.trans (bl6.mono HB5.out.size))
    have p0 : 0 < Y.length := by rw [← HLY.out]; exact HF.out.1.1
    have p0i : (0 : Int) < (Y.length : Int) := by omega
    obtain ⟨g0, k0, _, hc0, _⟩ := HO6.out.rowW (i := 0) (by rw [HLY.out]; exact p0)
    obtain ⟨m1, hm1⟩ : ∃ m, b * (Y.length : Int) = m := ⟨_, rfl⟩
    obtain ⟨m2, hm2⟩ : ∃ m, m1 * (wid t 0 : Int) = m := ⟨_, rfl⟩
    rw [HLY.out, hm1, hm2] at hf1
    have q1 : 0 ≤ m1 ∧ m1 ≤ 1000 := by
      have a1 := HF.out.1.2.1
      rw [HLY.out] at a1
      have a2 := HF.out.2.1
      have z1 : 0 ≤ b * (Y.length : Int) := Int.mul_nonneg (by omega) (by omega)
      have z2 : b * (Y.length : Int) ≤ 20 * (Y.length : Int) := Int.mul_le_mul_of_nonneg_right (by omega) (by omega)
      omega
    have q2 : 0 ≤ m2 ∧ m2 ≤ 10000 := by
      have a1 := HF.out.1.2.2.2.1
      have z1 : 0 ≤ m1 * (wid t 0 : Int) := Int.mul_nonneg (by omega) (by omega)
      have z2 : m1 * (wid t 0 : Int) ≤ m1 * 4 := Int.mul_le_mul_of_nonneg_left (by omega) (by omega)
      omega
    have hw1 : IntKind.i64.wrap (b * (Y.length : Int)) = m1 := by rw [hm1, IntKind.wrap_i64]; omega
    have hw2 : IntKind.i64.wrap (m1 * (wid t 0 : Int)) = m2 := by rw [hm2, IntKind.wrap_i64]; omega
    have d0 : decide (0 ≤ fr) = true := by simpa using hf0
    have d1 : decide (fr < m2) = true := by simpa using hf1
    clear bl5 bl6
    go_wp2_with fail
    go_ret
    exact ⟨rfl, HB6.out⟩

end Go.Proofs.Ytihkahojicafiaa
