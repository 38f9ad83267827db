/- The walks of the five laws: the program's rounding functions equal the reference's. -/
import Derived.Test.YteebhkndimdeaaaRound2
namespace Go.Proofs.Yteebhkndimdeaaa
open Go.RowKit

set_option maxHeartbeats 400000 in
theorem wFnExactRoundDown (x b : Int) (_ : (Lit.int .i64 x).wf = true) (_ : (Lit.int .i64 b).wf = true) (w : World) :
    Calls Try.prog 3 #[.int .i64 x, .int .i64 b] w fun e w' => e = .returned (.bool true) ∧ Grown w w' := by
  obtain ⟨d, hd⟩ : ∃ d, Hid (rdn x b = d) := ⟨_, rfl⟩
  go_enter Try.func3, Try.ntmps3
  go_wp2_with (first | (go_at_call 15; (with_reducible refine (sRoundDown _ _ _ _ hd).mono ?_); rintro e w' ⟨rfl, rfl⟩) | (go_at_call 16; (with_reducible refine (iRoundDown _ _ _ _ hd).mono ?_); rintro e w' ⟨rfl, rfl⟩))
  go_ret
  exact ⟨rfl, Grown.refl _⟩

set_option maxHeartbeats 400000 in
theorem wFnExactRoundNear (x b : Int) (_ : (Lit.int .i64 x).wf = true) (_ : (Lit.int .i64 b).wf = true) (w : World) :
    Calls Try.prog 5 #[.int .i64 x, .int .i64 b] w fun e w' => e = .returned (.bool true) ∧ Grown w w' := by
  obtain ⟨d, hd⟩ : ∃ d, Hid (rnr x b = d) := ⟨_, rfl⟩
  go_enter Try.func5, Try.ntmps5
  go_wp2_with (first | (go_at_call 19; (with_reducible refine (sRoundNear _ _ _ _ hd).mono ?_); rintro e w' ⟨rfl, rfl⟩) | (go_at_call 20; (with_reducible refine (iRoundNear _ _ _ _ hd).mono ?_); rintro e w' ⟨rfl, rfl⟩))
  go_ret
  exact ⟨rfl, Grown.refl _⟩

set_option maxHeartbeats 400000 in
theorem wFnExactRoundLow (x b : Int) (_ : (Lit.int .i64 x).wf = true) (_ : (Lit.int .i64 b).wf = true) (w : World) :
    Calls Try.prog 4 #[.int .i64 x, .int .i64 b] w fun e w' => e = .returned (.bool true) ∧ Grown w w' := by
  obtain ⟨d, hd⟩ : ∃ d, Hid (rlo x b = d) := ⟨_, rfl⟩
  go_enter Try.func4, Try.ntmps4
  go_wp2_with (first | (go_at_call 17; (with_reducible refine (sRoundLow _ _ _ _ hd).mono ?_); rintro e w' ⟨rfl, rfl⟩) | (go_at_call 18; (with_reducible refine (iRoundLow _ _ _ _ hd).mono ?_); rintro e w' ⟨rfl, rfl⟩))
  go_ret
  exact ⟨rfl, Grown.refl _⟩

set_option maxHeartbeats 400000 in
theorem wFnExactRoundHigh (x b : Int) (_ : (Lit.int .i64 x).wf = true) (_ : (Lit.int .i64 b).wf = true) (w : World) :
    Calls Try.prog 6 #[.int .i64 x, .int .i64 b] w fun e w' => e = .returned (.bool true) ∧ Grown w w' := by
  obtain ⟨d, hd⟩ : ∃ d, Hid (rhi x b = d) := ⟨_, rfl⟩
  go_enter Try.func6, Try.ntmps6
  go_wp2_with (first | (go_at_call 21; (with_reducible refine (sRoundHigh _ _ _ _ hd).mono ?_); rintro e w' ⟨rfl, rfl⟩) | (go_at_call 22; (with_reducible refine (iRoundHigh _ _ _ _ hd).mono ?_); rintro e w' ⟨rfl, rfl⟩))
  go_ret
  exact ⟨rfl, Grown.refl _⟩

set_option maxHeartbeats 400000 in
theorem wFnExactRoundDraw (x b l : Int) (_ : (Lit.int .i64 x).wf = true) (_ : (Lit.int .i64 b).wf = true) (_ : (Lit.int .i64 l).wf = true) (w : World) :
    Calls Try.prog 7 #[.int .i64 x, .int .i64 b, .int .i64 l] w fun e w' => e = .returned (.bool true) ∧ Grown w w' := by
  obtain ⟨d, hd⟩ : ∃ d, Hid (rdw x b l = d) := ⟨_, rfl⟩
  go_enter Try.func7, Try.ntmps7
  go_wp2_with (first | (go_at_call 23; (with_reducible refine (sRoundDraw _ _ _ _ _ hd).mono ?_); rintro e w' ⟨rfl, rfl⟩) | (go_at_call 24; (with_reducible refine (iRoundDraw _ _ _ _ _ hd).mono ?_); rintro e w' ⟨rfl, rfl⟩))
  go_ret
  exact ⟨rfl, Grown.refl _⟩

end Go.Proofs.Yteebhkndimdeaaa
