/- The walk of the law: roundings turn. -/
import Derived.Test.YtigdgcpjkeaooaaFitsA
import Derived.Test.YtigdgcpjkeaooaaTurnA
namespace Go.Proofs.Ytigdgcpjkeaooaa
open Go.RowKit

set_option maxRecDepth 100000 in
set_option maxHeartbeats 4000000 in
theorem wFnControlFitsTurn (a : Option Addr) (len cap : Nat) (z : List Int) (w : World) (h : IsRow .u8 w a len cap z) :
    Calls Try.prog 5 #[.slice a len cap] w fun e w' => e = .returned (.bool true) ∧ Below w.heap.size w w' := by
  have H := Lib.hid h; clear h
  by_cases hl : 1048576 < len
  · go_enter Try.func5, Try.ntmps5
    go_wp2_with fail
    go_ret
    exact ⟨rfl, Below.refl _ _⟩
  go_enter Try.func5, Try.ntmps5
  go_wp2_with fail
  refine (drawControlFits _ _ _ _ _ H.out).mono ?_
  rintro e w1 ⟨g, cp, t, us, gx, cx, x, xs, b, rfl, ho, hx, hd, hsx, hsm, hb1, hb2, bl1⟩
  have LD := Lib.hid (lensD hd.out)
  have LX := Lib.hid (lens_same' LD.out hsm.out)
  have HB1 := Lib.hid bl1
  have hxl : Hid (x.length = t.length) := by have h := hsm.out; exact h.1.symm
  clear bl1 hl
  go_wp2_with fail
  with_reducible refine (iFits _ _ _ _ _ t x b ho.out.ints hx.out.ints LD.out LX.out).mono ?_
  rintro e w2 ⟨rfl, bl2⟩
  have HO2 := Lib.hid (ho.out.below bl2)
  have HX2 := Lib.hid (hx.out.below bl2)
  have HB2 := Lib.hid (HB1.out.trans (bl2.mono HB1.out.size))
  clear bl2 ho hx HB1
  go_wp2_with fail
  with_reducible refine (sFitsAny _ _ _ _ _ t x b HO2.out.ints HX2.out.ints LD.out hsx.out hxl.out).mono ?_
  rintro e w3 ⟨rfl, bl3⟩
  have HO3 := Lib.hid (HO2.out.below bl3)
  have HX3 := Lib.hid (HX2.out.below bl3)
  have HB3 := Lib.hid (HB2.out.trans (bl3.mono HB2.out.size))
  clear bl3 HO2 HX2 HB2
  by_cases hf : Fits t x b
  rotate_left
  · rw [decide_eq_false hf]
    go_wp2_with fail
    go_ret
    exact ⟨rfl, HB3.out⟩
  rw [decide_eq_true hf]
  have HF := Lib.hid hf
  have HTK := Lib.hid hf.1
  clear hf
  go_wp2_with fail
  with_reducible refine (iTableTurn _ _ _ t HO3.out.ints LD.out).mono ?_
  rintro e w4 ⟨bl4, ⟨hno, _⟩ | ⟨_, gt, ct, ut, rfl, hot⟩⟩
  · exact absurd HTK.out hno
  have HT4 := Lib.hid hot
  have HX4 := Lib.hid (HX3.out.below bl4)
  have HB4 := Lib.hid (HB3.out.trans (bl4.mono HB3.out.size))
  clear hot bl4 HO3 HX3 HB3
  go_wp2_with fail
  with_reducible refine (iTableTurn _ _ _ x HX4.out.ints LX.out).mono ?_
  rintro e w5 ⟨bl5, ⟨hno, rfl⟩ | ⟨hxk, gy, cy, uy, rfl, hoy⟩⟩
  · have HB5 := Lib.hid (HB4.out.trans (bl5.mono HB4.out.size))
    clear bl5
    go_wp2_with fail
    go_ret
    exact ⟨rfl, HB5.out⟩
  · have HB5 := Lib.hid (HB4.out.trans (bl5.mono HB4.out.size))
    have HT5 := Lib.hid (HT4.out.below bl5)
    have HY5 := Lib.hid hoy
    have LT : Hid (lensT (turnT t)) := lens_ok (turn_ok HTK.out)
    have LY : Hid (lensT (turnT x)) := lens_ok (turn_ok hxk)
    clear bl5 hoy hxk
    go_wp2_with fail
    with_reducible refine (iFits _ _ _ _ _ (turnT t) (turnT x) b HT5.out.ints HY5.out.ints LT.out LY.out).mono ?_
    rintro e w6 ⟨rfl, bl6⟩
    rw [decide_eq_true (turn_fits HF.out)]
    have HB6 := Lib.hid (HB5.out.trans (bl6.mono HB5.out.size))
    clear bl6
    go_wp2_with fail
    go_ret
    exact ⟨rfl, HB6.out⟩

end Go.Proofs.Ytigdgcpjkeaooaa
