/- Contracts of the rounding functions of the program and of the reference. -/
import Derived.Test.YtigdgcpjkeaooaaRows
import Derived.Test.YtigdgcpjkeaooaaPlain
import Derived.WalkKit
import Derived.WalkSpells
import Derived.WalkLawsBesides
import Derived.Lib.Hide
import Derived.Test.YtigdgcpjkeaooaaIn
namespace Go.Proofs.Ytigdgcpjkeaooaa
open Go.RowKit

theorem ret_int {k : IntKind} {a b : Int} (h : a = b) : Ending.returned (.int k a) = .returned (.int k b) := by rw [h]

set_option maxHeartbeats 400000 in
theorem iIsBase_t (b : Int) (w : World) (h1 : 2 ≤ b) (h2 : b ≤ 20) :
    Calls Try.prog 20 #[.int .i64 b] w fun e w' => e = .returned (.bool true) ∧ w = w' := by
  have d : decide (b ≤ 20) = true := by simpa using h2
  go_enter Try.func20, Try.ntmps20
  go_wp2
  go_ret
  exact ⟨rfl, rfl⟩

set_option maxHeartbeats 400000 in
theorem iIsBase_f (b : Int) (w : World) (h : b < 2 ∨ 20 < b) :
    Calls Try.prog 20 #[.int .i64 b] w fun e w' => e = .returned (.bool false) ∧ w = w' := by
  by_cases h1 : b < 2
  · clear h
    go_enter Try.func20, Try.ntmps20
    go_wp2
    go_ret
    exact ⟨rfl, rfl⟩
  · have d : decide (b ≤ 20) = false := by simp; omega
    clear h
    go_enter Try.func20, Try.ntmps20
    go_wp2
    go_ret
    exact ⟨rfl, rfl⟩

set_option maxHeartbeats 400000 in
theorem iRoundDown (x b d : Int) (w : World) (hd : Hid (rdn x b = d)) :
    Calls Try.prog 23 #[.int .i64 x, .int .i64 b] w fun e w' => e = .returned (.int .i64 d) ∧ w = w' := by
  by_cases h : okR x b
  · have hr := rdn_in h
    obtain ⟨m1, m2, m3⟩ := mod_bd h
    obtain ⟨a1, a2, b1, b2⟩ := h
    rw [hd.out] at hr; subst hr; clear hd
    go_enter Try.func23, Try.ntmps23
    go_wp2_with (go_at_call 20; (with_reducible refine (iIsBase_t _ _ b1 b2).mono ?_); rintro e w' ⟨rfl, rfl⟩)
    go_ret
    exact ⟨rfl, rfl⟩
  · have hr := rdn_out h
    rw [hd.out] at hr; subst hr; clear hd
    by_cases h1 : x < 0
    · clear h
      go_enter Try.func23, Try.ntmps23
      go_wp2
      go_ret
      exact ⟨rfl, rfl⟩
    by_cases h2 : 10000 < x
    · clear h
      go_enter Try.func23, Try.ntmps23
      go_wp2
      go_ret
      exact ⟨rfl, rfl⟩
    have h3 : b < 2 ∨ 20 < b := by unfold okR at h; omega
    clear h
    go_enter Try.func23, Try.ntmps23
    go_wp2_with (go_at_call 20; (with_reducible refine (iIsBase_f _ _ h3).mono ?_); rintro e w' ⟨rfl, rfl⟩)
    go_ret
    exact ⟨rfl, rfl⟩

/-! ### the reference -/

end Go.Proofs.Ytigdgcpjkeaooaa
