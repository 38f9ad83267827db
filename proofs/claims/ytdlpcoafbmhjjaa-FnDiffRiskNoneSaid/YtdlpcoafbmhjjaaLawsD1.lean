/- The walk of the law: what is the same has no risk. -/
import Derived.Test.YtdlpcoafbmhjjaaRisk
namespace Go.Proofs.Ytdlpcoafbmhjjaa
open Go.RowKit

set_option maxRecDepth 100000 in
set_option maxHeartbeats 4000000 in
theorem wFnDiffRiskNone (a : Option Addr) (len cap : Nat) (z : List Int) (w : World) (h : IsRow .u8 w a len cap z) :
    Calls Try.prog 4 #[.slice a len cap] w fun e w' => e = .returned (.bool true) ∧ Below w.heap.size w w' := by
  have H := Lib.hid h; clear h
  by_cases hl : 1048576 < len
  · go_enter Try.func4, Try.ntmps4
    go_wp2_with fail
    go_ret
    exact ⟨rfl, Below.refl _ _⟩
  go_enter Try.func4, Try.ntmps4
  go_wp2_with fail
  refine (drawDiffRisk _ _ _ _ _ H.out).mono ?_
  rintro e w1 ⟨va, ta, vb, tb, k, rfl, ha, hb, da, db, bl1⟩
  have HA := Lib.hid ha
  have HB := Lib.hid hb
  have B1 := Lib.hid bl1
  have LA := Lib.hid da.out.small.lens
  have LB := Lib.hid db.out.small.lens
  obtain ⟨xa, ca, rfl, _, _⟩ := ha
  obtain ⟨xb, cb, rfl, _, _⟩ := hb
  obtain ⟨x, hx⟩ : ∃ x, diffR ta tb (k : Int) = x := ⟨_, rfl⟩
  have HX := Lib.hid hx
  clear bl1 hl hx
  go_wp2_with fail
  with_reducible refine (iDiffRisk _ _ _ _ _ ta tb k x HA.out HB.out LA.out LB.out HX).mono ?_
  rintro e w2 ⟨rfl, bl2⟩
  have HA2 := Lib.hid (HA.out.below bl2)
  have HB2 := Lib.hid (HB.out.below bl2)
  have B2 := Lib.hid (B1.out.trans (bl2.mono B1.out.size))
  clear bl2 HA HB B1
  go_wp2_with fail
  with_reducible refine (sDiffRisk _ _ _ _ _ ta tb k x HA2.out HB2.out LA.out LB.out HX).mono ?_
  rintro e w3 ⟨rfl, bl3⟩
  have HA3 := Lib.hid (HA2.out.below bl3)
  have HB3 := Lib.hid (HB2.out.below bl3)
  have B3 := Lib.hid (B2.out.trans (bl3.mono B2.out.size))
  clear bl3 HA2 HB2 B2
  by_cases hok : diffOk ta tb
  rotate_left
  · have hn : x < 0 := by rw [← HX.out]; exact diffR_neg.2 hok
    have d1 : decide (x < 0) = true := by simpa using hn
    clear hok hn
    go_wp2_with fail
    go_ret
    exact ⟨rfl, B3.out⟩
  have hn : ¬ x < 0 := by rw [← HX.out]; exact fun h => diffR_neg.1 h hok
  have d1 : decide (x < 0) = false := by simpa using hn
  have R0 := Lib.hid (diffR_self hok (k : Int))
  have R1 := Lib.hid (diffR_one hok)
  have KD := Lib.hid hok.2.2.2
  have HXL : Hid (x ≤ totalT (subT ta tb)) := by
    unfold Hid
    rw [← HX.out]
    unfold diffR
    rw [if_pos hok]
    exact riskN_le KD.out _
  clear hn
  go_wp2_with fail
  with_reducible refine (iDiffTable _ _ _ _ _ ta tb HA3.out HB3.out LA.out LB.out).mono ?_
  rintro e w4 ⟨bl4, ⟨hno, _⟩ | ⟨_, g, cp, us, rfl, ho⟩⟩
  · exact absurd hok hno
  have HO4 := Lib.hid ho
  have HA4 := Lib.hid (HA3.out.below bl4)
  have HB4 := Lib.hid (HB3.out.below bl4)
  have B4 := Lib.hid (B3.out.trans (bl4.mono B3.out.size))
  generalize subT ta tb = d at *
  clear bl4 HA3 HB3 B3 ho hok
  go_wp2_with fail
  with_reducible refine (iDiffRisk _ _ _ _ _ ta ta k 0 HA4.out HA4.out LA.out LA.out R0).mono ?_
  rintro e w5 ⟨rfl, bl5⟩
  have HO5 := Lib.hid (HO4.out.below bl5)
  have HA5 := Lib.hid (HA4.out.below bl5)
  have HB5 := Lib.hid (HB4.out.below bl5)
  have B5 := Lib.hid (B4.out.trans (bl5.mono B4.out.size))
  clear bl5 HA4 HB4 B4 HO4
  go_wp2_with fail
  with_reducible refine (iDiffRisk _ _ _ _ _ ta tb 1 0 HA5.out HB5.out LA.out LB.out R1).mono ?_
  rintro e w6 ⟨rfl, bl6⟩
  have HO6 := Lib.hid (HO5.out.below bl6)
  have B6 := Lib.hid (B5.out.trans (bl6.mono B5.out.size))
  clear bl6 HA5 HB5 B5 HO5
  have hxl := HXL.out
  obtain ⟨y, hy⟩ : ∃ y, totalT d = y := ⟨_, rfl⟩
  rw [hy] at hxl
  have HY : Hid ((if tblOk d then totalT d else -1) = y) := by unfold Hid; rw [if_pos KD.out]; exact hy
  have d2 : decide (x ≤ y) = true := by simpa using hxl
  clear hxl hy
  go_wp2_with fail
  with_reducible refine (iTableTotal _ _ _ d y HO6.out.ints (lensK KD.out) HY).mono ?_
  rintro e w7 ⟨rfl, bl7⟩
  have B7 := Lib.hid (B6.out.trans (bl7.mono B6.out.size))
  clear bl7
  go_wp2_with fail
  go_ret
  exact ⟨rfl, B7.out⟩

end Go.Proofs.Ytdlpcoafbmhjjaa
