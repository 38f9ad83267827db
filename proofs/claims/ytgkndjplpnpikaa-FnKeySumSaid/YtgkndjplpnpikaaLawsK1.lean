/- The walk of the law: the program's KeySum equals the reference's. -/
import Derived.Test.YtgkndjplpnpikaaKeyS
namespace Go.Proofs.Ytgkndjplpnpikaa
open Go.RowKit

theorem ksV_form (zs : List Int) : ∃ g t, ksV zs = .tuple #[.int .i64 g, .bool t] := by
  unfold ksV; split
  · exact ⟨_, _, rfl⟩
  · exact ⟨_, _, rfl⟩

set_option maxHeartbeats 400000 in
theorem wFnExactKeySum (a : Option Addr) (len cap : Nat) (z : List Int) (w : World) (h : IsRow .i64 w a len cap z) :
    Calls Try.prog 3 #[.slice a len cap] w fun e w' => e = .returned (.bool true) ∧ Below w.heap.size w w' := by
  have hs := IntS.of_isRow h
  clear h
  by_cases hl : 1048576 < len
  · go_enter Try.func3, Try.ntmps3
    go_wp2_with fail
    go_ret
    exact ⟨rfl, Below.refl _ _⟩
  have hlen : (z.take len).length ≤ 1048576 := Nat.le_trans (List.length_take_le _ _) (by omega)
  generalize z.take len = zs at hs hlen
  obtain ⟨g, t, hk⟩ := ksV_form zs
  have HK := Lib.hid hk; clear hk
  have HS := Lib.hid hs; clear hs
  go_enter Try.func3, Try.ntmps3
  go_wp2_with fail
  refine (lToIntS _ _ _ zs HS.out hlen).mono ?_
  rintro e w1 ⟨v1, rfl, o1, b1⟩
  have i1 := Lib.hid (IntS.of_owns o1)
  go_wp2_with fail
  refine (sKeySum _ _ _ zs i1.out (by omega)).mono ?_
  rintro e w' ⟨rfl, rfl⟩
  rw [HK.out]
  go_wp2_with fail
  refine (lToIntS _ _ _ zs (HS.out.below b1) hlen).mono ?_
  rintro e w2 ⟨v2, rfl, o2, b2⟩
  have i2 := Lib.hid (IntS.of_owns o2)
  have B2 := b1.trans (b2.mono b1.size)
  go_wp2_with fail
  refine (iKeySum _ _ _ zs i2.out (by omega)).mono ?_
  rintro e w' ⟨rfl, rfl⟩
  rw [HK.out]
  go_wp2_with fail
  refine (lToIntS _ _ _ zs (HS.out.below B2) hlen).mono ?_
  rintro e w3 ⟨v3, rfl, o3, b3⟩
  have i3 := Lib.hid (IntS.of_owns o3)
  have B3 := B2.trans (b3.mono B2.size)
  go_wp2_with fail
  refine (lEqIntS _ _ _ _ _ zs (i2.out.below b3) i3.out (by omega)).mono ?_
  rintro e w4 ⟨rfl, n, rfl⟩
  go_wp2_with fail
  go_ret
  exact ⟨rfl, below_drewN B3 n⟩

end Go.Proofs.Ytgkndjplpnpikaa
