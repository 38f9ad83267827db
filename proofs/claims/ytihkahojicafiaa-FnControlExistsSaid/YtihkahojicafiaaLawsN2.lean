/- The walk of the law: small tables have roundings. (Printed by wip/tools/mkR8.py.) -/
import Derived.Test.YtihkahojicafiaaRoundA
namespace Go.Proofs.Ytihkahojicafiaa
open Go.RowKit

set_option maxRecDepth 100000 in
set_option maxHeartbeats 4000000 in
theorem wFnControlExists (a : Option Addr) (len cap : Nat) (z : List Int) (w : World) (h : IsRow .u8 w a len cap z) :
    Calls Try.prog 3 #[.slice a len cap] w fun e w' => e = .returned (.bool true) ∧ Below w.heap.size w w' := by
  have H := Lib.hid h; clear h
  by_cases hl : 1048576 < len
  · go_enter Try.func3, Try.ntmps3
    go_wp2_with fail
    go_ret
    exact ⟨rfl, Below.refl _ _⟩
  go_enter Try.func3, Try.ntmps3
  go_wp2_with fail
  refine (drawControlRound _ _ _ _ _ H.out).mono ?_
  rintro e w1 ⟨g, cp, t, us, b, rfl, ho, hd, hb1, hb2, bl1⟩
  have LD := Lib.hid (lensD hd.out)
  have HB1 := Lib.hid bl1
  clear bl1 hl
  go_wp2_with fail
  with_reducible refine (iControlRound _ _ _ t b ho.out.ints LD.out).mono ?_
  rintro e w2 ⟨bl2, hI⟩
  have HO2 := Lib.hid (ho.out.below bl2)
  have HB2 := Lib.hid (HB1.out.trans (bl2.mono HB1.out.size))
  rcases hI with ⟨hn, rfl⟩ | ⟨hs, gy, cy, uy, rfl, hy⟩
  · go_wp2_with fail
    with_reducible refine (sControlRound _ _ _ t b HO2.out.ints LD.out).mono ?_
    rintro e w3 ⟨bl3, hS⟩
    rcases hS with ⟨_, g3, rfl, o3⟩ | ⟨hs, _⟩
    rotate_left
    · exact absurd hs hn
    have HB3 := Lib.hid (HB2.out.trans (bl3.mono HB2.out.size))
    have HO3 := Lib.hid (HO2.out.below bl3)
    have HN := Lib.hid hn
    have O3 := Lib.hid o3
    clear o3 bl2 bl3 ho hn
    go_wp2_with fail
    with_reducible refine (same_c _ (nilSS _) (O3.out).ints lens_nil).mono ?_
    rintro e w' ⟨rfl, n3, rfl⟩
    go_wp2_with fail
    with_reducible refine (iTableValid _ _ _ t (HO3.out.drewN n3).ints LD.out).mono ?_
    rintro e w' ⟨rfl, rfl⟩
    have HB4 := Lib.hid (below_drewN HB3.out n3)
    have HO4 := Lib.hid (HO3.out.drewN n3)
    clear HO2 HB2 HO3 O3 HB3 HB1
    generalize w3.drewN n3 = w4 at *
    have HM : Hid (manyR t b = -1) := by unfold Hid manyR; rw [if_neg HN.out]
    by_cases hok : tblOk t
    · rw [decide_eq_true hok]
      have p0 : 0 < t.length := hok.1
      have p0i : (0 : Int) < (t.length : Int) := by omega
      obtain ⟨g0, k0, _, hc0, _⟩ := HO4.out.rowW (i := 0) p0
      have hm2 : (t.length : Int) * (wid t 0 : Int) ≤ 16 := by
        obtain ⟨a1, a2, a3, a4, _⟩ := hok
        have := Nat.mul_le_mul a2 a4
        omega
      have hm3 : (0 : Int) ≤ (t.length : Int) * (wid t 0 : Int) := Int.mul_nonneg (by omega) (by omega)
      by_cases h9 : t.length * wid t 0 ≤ 9
      · have d2 : decide ((t.length : Int) * (wid t 0 : Int) ≤ 9) = true := by simp; omega
        by_cases hb : 2 ≤ b
        · have d3 : decide (2 ≤ b) = true := by simpa using hb
          have d4 : decide (b ≤ 20) = false := by simp only [decide_eq_false_iff_not]; exact fun h => HN.out ⟨hok, h9, hb, h⟩
          clear hok h9
          go_wp2_with fail
          with_reducible refine (iControlMany _ _ _ t b HO4.out.ints LD.out).mono ?_
          rintro e w5 ⟨rfl, bl5⟩
          rw [HM.out]
          go_wp2_with fail
          go_ret
          exact ⟨rfl, HB4.out.trans (bl5.mono HB4.out.size)⟩
        · have d3 : decide (2 ≤ b) = false := by simpa using hb
          clear hok h9
          go_wp2_with fail
          with_reducible refine (iControlMany _ _ _ t b HO4.out.ints LD.out).mono ?_
          rintro e w5 ⟨rfl, bl5⟩
          rw [HM.out]
          go_wp2_with fail
          go_ret
          exact ⟨rfl, HB4.out.trans (bl5.mono HB4.out.size)⟩
      · have d2 : decide ((t.length : Int) * (wid t 0 : Int) ≤ 9) = false := by simp; omega
        clear hok h9
        go_wp2_with fail
        with_reducible refine (iControlMany _ _ _ t b HO4.out.ints LD.out).mono ?_
        rintro e w5 ⟨rfl, bl5⟩
        rw [HM.out]
        go_wp2_with fail
        go_ret
        exact ⟨rfl, HB4.out.trans (bl5.mono HB4.out.size)⟩
    · rw [decide_eq_false hok]
      clear hok
      go_wp2_with fail
      with_reducible refine (iControlMany _ _ _ t b HO4.out.ints LD.out).mono ?_
      rintro e w5 ⟨rfl, bl5⟩
      rw [HM.out]
      go_wp2_with fail
      go_ret
      exact ⟨rfl, HB4.out.trans (bl5.mono HB4.out.size)⟩
  · go_wp2_with fail
    with_reducible refine (sControlRound _ _ _ t b HO2.out.ints LD.out).mono ?_
    rintro e w3 ⟨bl3, hS⟩
    rcases hS with ⟨hn, _⟩ | ⟨_, g3, c3, u3, rfl, o3⟩
    · exact absurd hs hn
    have HB3 := Lib.hid (HB2.out.trans (bl3.mono HB2.out.size))
    have HO3 := Lib.hid (HO2.out.below bl3)
    have HY3 := Lib.hid (hy.below bl3)
    have HSM := Lib.hid hs
    have HF := Lib.hid (near_fits hs.1 hs.2.2.1 hs.2.2.2)
    have HLY : Hid (t.length = (nearR t b).length) := HF.out.2.2.1.1
    have LY := Lib.hid (lens_same hs.1 HF.out.2.2.1)
    have HLE : Hid (∀ y, Fits t y b → farOf t (nearR t b) ≤ farOf t y) := fun y hf => near_le HSM.out.2.2.1 HSM.out.2.2.2 hf
    rw [HLY.out] at HY3 o3
    obtain ⟨Y, hY⟩ : ∃ Y, nearR t b = Y := ⟨_, rfl⟩
    rw [hY] at HY3 o3 HF HLY LY HLE
    have HNY := Lib.hid hY
    have O3 := Lib.hid o3
    clear o3 bl2 bl3 ho hs hY hy
    rw [HLY.out]
    go_wp2_with fail
    with_reducible refine (same_c _ HY3.out.ints O3.out.ints LY.out).mono ?_
    rintro e w' ⟨rfl, n3, rfl⟩
    have HB4 := Lib.hid (below_drewN HB3.out n3)
    have HO4 := Lib.hid (HO3.out.drewN n3)
    have HY4 := Lib.hid (HY3.out.drewN n3)
    rw [HLY.out] at HO4
    clear HO2 HB2 HO3 HY3 O3 HB3 HB1
    generalize w3.drewN n3 = w4 at *
    go_wp2_with fail
    with_reducible refine (iTableValid _ _ _ t HO4.out.ints LD.out).mono ?_
    rintro e w' ⟨rfl, rfl⟩
    have HM : Hid (manyR t b = (cntR t b : Int)) := by unfold Hid manyR; rw [if_pos HSM.out]
    have hc1 : decide (0 < (cntR t b : Int)) = true := by have := cnt_pos HSM.out.1 HSM.out.2.2.1 HSM.out.2.2.2; simp; omega
    have hok := HSM.out.1
    have h9 := HSM.out.2.1
    have d3 : decide (2 ≤ b) = true := by simpa using HSM.out.2.2.1
    have d4 : decide (b ≤ 20) = true := by simpa using HSM.out.2.2.2
    rw [decide_eq_true hok]
    generalize (cntR t b : Int) = cn at *
    have p0 : 0 < Y.length := by rw [← HLY.out]; exact hok.1
    have p0i : (0 : Int) < (Y.length : Int) := by omega
    obtain ⟨g0, k0, _, hc0, _⟩ := HO4.out.rowW (i := 0) hok.1
    have hm2 : (Y.length : Int) * (wid t 0 : Int) ≤ 16 := by
      rw [← HLY.out]
      obtain ⟨a1, a2, a3, a4, _⟩ := hok
      have := Nat.mul_le_mul a2 a4
      omega
    have hm3 : (0 : Int) ≤ (Y.length : Int) * (wid t 0 : Int) := Int.mul_nonneg (by omega) (by omega)
    have d2 : decide ((Y.length : Int) * (wid t 0 : Int) ≤ 9) = true := by rw [← HLY.out]; simp; omega
    clear hok h9
    go_wp2_with fail
    with_reducible refine (iControlMany _ _ _ t b HO4.out.ints LD.out).mono ?_
    rintro e w5 ⟨rfl, bl5⟩
    rw [HM.out]
    go_wp2_with fail
    go_ret
    exact ⟨rfl, HB4.out.trans (bl5.mono HB4.out.size)⟩

end Go.Proofs.Ytihkahojicafiaa
