/- The walk of the law: each rounding is at least as far as the nearest one. -/
import Derived.Test.YtigdgcpjkeaooaaFitsA
namespace Go.Proofs.Ytigdgcpjkeaooaa
open Go.RowKit

set_option maxRecDepth 100000 in
set_option maxHeartbeats 4000000 in
theorem wFnControlLess (a : Option Addr) (len cap : Nat) (z : List Int) (w : World) (h : IsRow .u8 w a len cap z) :
    Calls Try.prog 3 #[.slice a len cap] w fun e w' => e = .returned (.bool true) ∧ Below w.heap.size w w' := by
  have H := Lib.hid h; clear h
  by_cases hl : 1048576 < len
  · go_enter Try.func3, Try.ntmps3
    go_wp2_with fail
    go_ret
    exact ⟨rfl, Below.refl _ _⟩
  go_enter Try.func3, Try.ntmps3
  go_wp2_with fail
  refine (drawControlFits _ _ _ _ _ H.out).mono ?_
  rintro e w1 ⟨g, cp, t, us, gx, cx, x, xs, b, rfl, ho, hx, hd, hsx, hsm, hb1, hb2, bl1⟩
  have LD := Lib.hid (lensD hd.out)
  have LX := Lib.hid (lens_same' LD.out hsm.out)
  have HB1 := Lib.hid bl1
  have hxl : Hid (x.length = t.length) := by have h := hsm.out; exact h.1.symm
  clear bl1 hl
  go_wp2_with fail
  with_reducible refine (iFits _ _ _ _ _ t x b ho.out.ints hx.out.ints LD.out LX.out).mono ?_
  rintro e w2 ⟨rfl, bl2⟩
  have HO2 := Lib.hid (ho.out.below bl2)
  have HX2 := Lib.hid (hx.out.below bl2)
  have HB2 := Lib.hid (HB1.out.trans (bl2.mono HB1.out.size))
  clear bl2 ho hx HB1
  go_wp2_with fail
  with_reducible refine (sFitsAny _ _ _ _ _ t x b HO2.out.ints HX2.out.ints LD.out hsx.out hxl.out).mono ?_
  rintro e w3 ⟨rfl, bl3⟩
  have HO3 := Lib.hid (HO2.out.below bl3)
  have HX3 := Lib.hid (HX2.out.below bl3)
  have HB3 := Lib.hid (HB2.out.trans (bl3.mono HB2.out.size))
  clear bl3 HO2 HX2 HB2 hxl
  by_cases hf : Fits t x b
  rotate_left
  · rw [decide_eq_false hf]
    go_wp2_with fail
    go_ret
    exact ⟨rfl, HB3.out⟩
  rw [decide_eq_true hf]
  have HF := Lib.hid hf
  clear hf
  go_wp2_with fail
  with_reducible refine (iControlRound _ _ _ t b HO3.out.ints LD.out).mono ?_
  rintro e w4 ⟨bl4, hI⟩
  have HO4 := Lib.hid (HO3.out.below bl4)
  have HX4 := Lib.hid (HX3.out.below bl4)
  have HB4 := Lib.hid (HB3.out.trans (bl4.mono HB3.out.size))
  clear bl4 HO3 HX3 HB3
  have p0 : 0 < t.length := by have := HF.out.1.1; omega
  have p0i : (0 : Int) < (t.length : Int) := by omega
  rcases hI with ⟨hn, rfl⟩ | ⟨hs, gy, cy, uy, rfl, hy⟩
  · obtain ⟨g0, k0, _, hc0, _⟩ := HO4.out.rowW (i := 0) p0
    have hm9 : 9 < t.length * wid t 0 := by
      by_cases h : 9 < t.length * wid t 0
      · exact h
      · exact absurd ⟨HF.out.1, by omega, HF.out.2.1⟩ hn
    have q1 : t.length * wid t 0 ≤ 16 := by
      have a1 := HF.out.1.2.1
      have a2 := HF.out.1.2.2.2.1
      exact Nat.mul_le_mul a1 a2
    have hw : IntKind.i64.wrap ((t.length : Int) * (wid t 0 : Int)) = ((t.length * wid t 0 : Nat) : Int) := by rw [← Int.natCast_mul, IntKind.wrap_i64]; omega
    generalize t.length * wid t 0 = m at *
    have hd9 : decide ((9 : Int) < (m : Int)) = true := by simp; omega
    go_wp2_with fail
    go_ret
    exact ⟨rfl, HB4.out⟩
  · have hle := near_le hs.2.2.1 hs.2.2.2 HF.out
    have hmn : 1 ≤ manyR t b := by
      have := cnt_pos hs.1 hs.2.2.1 hs.2.2.2
      unfold manyR
      rw [if_pos hs]
      omega
    have LY := Lib.hid (lens_same' LD.out (near_fits hs.1 hs.2.2.1 hs.2.2.2).2.2.1)
    have HY4 := Lib.hid hy
    obtain ⟨Y, hY⟩ : ∃ Y, nearR t b = Y := ⟨_, rfl⟩
    rw [hY] at hle LY HY4
    clear hs hy hY
    go_wp2_with fail
    with_reducible refine (iControlFar _ _ _ _ _ t x HO4.out.ints HX4.out.ints LD.out LX.out).mono ?_
    rintro e w5 ⟨rfl, bl5⟩
    have HO5 := Lib.hid (HO4.out.below bl5)
    have HY5 := Lib.hid (HY4.out.below bl5)
    have HB5 := Lib.hid (HB4.out.trans (bl5.mono HB4.out.size))
    generalize farOf t x = f1 at *
    clear bl5
    go_wp2_with fail
    with_reducible refine (iControlFar _ _ _ _ _ t Y HO5.out.ints HY5.out.ints LD.out LY.out).mono ?_
    rintro e w6 ⟨rfl, bl6⟩
    have HO6 := Lib.hid (HO5.out.below bl6)
    have HB6 := Lib.hid (HB5.out.trans (bl6.mono HB5.out.size))
    generalize farOf t Y = f2 at *
    have d1 : decide (f2 ≤ f1) = true := by simpa using hle
    clear bl6 hle
    go_wp2_with fail
    with_reducible refine (iControlMany _ _ _ t b HO6.out.ints LD.out).mono ?_
    rintro e w7 ⟨rfl, bl7⟩
    have HB7 := Lib.hid (HB6.out.trans (bl7.mono HB6.out.size))
    generalize manyR t b = m at *
    have d2 : decide (1 ≤ m) = true := by simpa using hmn
    clear bl7 hmn
    go_wp2_with fail
    go_ret
    exact ⟨rfl, HB7.out⟩

end Go.Proofs.Ytigdgcpjkeaooaa
