/- Contracts of the rounding functions of the program and of the reference. -/
import Derived.Test.YtomchjbgnccpnaaRows
import Derived.Test.YtomchjbgnccpnaaPlain
import Derived.WalkKit
import Derived.WalkSpells
import Derived.WalkLawsBesides
import Derived.Lib.Hide
namespace Go.Proofs.Ytomchjbgnccpnaa
open Go.RowKit

theorem ret_int {k : IntKind} {a b : Int} (h : a = b) : Ending.returned (.int k a) = .returned (.int k b) := by rw [h]

set_option maxHeartbeats 400000 in
theorem iIsBase_t (b : Int) (w : World) (h1 : 2 ≤ b) (h2 : b ≤ 20) :
    Calls Try.prog 32 #[.int .i64 b] w fun e w' => e = .returned (.bool true) ∧ w = w' := by
  have d : decide (b ≤ 20) = true := by simpa using h2
  go_enter Try.func32, Try.ntmps32
  go_wp2
  go_ret
  exact ⟨rfl, rfl⟩

set_option maxHeartbeats 400000 in
theorem iIsBase_f (b : Int) (w : World) (h : b < 2 ∨ 20 < b) :
    Calls Try.prog 32 #[.int .i64 b] w fun e w' => e = .returned (.bool false) ∧ w = w' := by
  by_cases h1 : b < 2
  · clear h
    go_enter Try.func32, Try.ntmps32
    go_wp2
    go_ret
    exact ⟨rfl, rfl⟩
  · have d : decide (b ≤ 20) = false := by simp; omega
    clear h
    go_enter Try.func32, Try.ntmps32
    go_wp2
    go_ret
    exact ⟨rfl, rfl⟩

set_option maxHeartbeats 400000 in
theorem iRoundDown (x b d : Int) (w : World) (hd : Hid (rdn x b = d)) :
    Calls Try.prog 29 #[.int .i64 x, .int .i64 b] w fun e w' => e = .returned (.int .i64 d) ∧ w = w' := by
  by_cases h : okR x b
  · have hr := rdn_in h
    obtain ⟨m1, m2, m3⟩ := mod_bd h
    obtain ⟨a1, a2, b1, b2⟩ := h
    rw [hd.out] at hr; subst hr; clear hd
    go_enter Try.func29, Try.ntmps29
    go_wp2_with (go_at_call 32; (with_reducible refine (iIsBase_t _ _ b1 b2).mono ?_); rintro e w' ⟨rfl, rfl⟩)
    go_ret
    exact ⟨rfl, rfl⟩
  · have hr := rdn_out h
    rw [hd.out] at hr; subst hr; clear hd
    by_cases h1 : x < 0
    · clear h
      go_enter Try.func29, Try.ntmps29
      go_wp2
      go_ret
      exact ⟨rfl, rfl⟩
    by_cases h2 : 10000 < x
    · clear h
      go_enter Try.func29, Try.ntmps29
      go_wp2
      go_ret
      exact ⟨rfl, rfl⟩
    have h3 : b < 2 ∨ 20 < b := by unfold okR at h; omega
    clear h
    go_enter Try.func29, Try.ntmps29
    go_wp2_with (go_at_call 32; (with_reducible refine (iIsBase_f _ _ h3).mono ?_); rintro e w' ⟨rfl, rfl⟩)
    go_ret
    exact ⟨rfl, rfl⟩

set_option maxHeartbeats 400000 in
theorem iRoundNear (x b d : Int) (w : World) (hd : Hid (rnr x b = d)) :
    Calls Try.prog 20 #[.int .i64 x, .int .i64 b] w fun e w' => e = .returned (.int .i64 d) ∧ w = w' := by
  by_cases h : okR x b
  · have hr := Lib.hid (rdn_in h)
    obtain ⟨m1, m2, m3⟩ := mod_bd h
    by_cases hu : b ≤ 2 * (x % b)
    · have hv := rnr_up h hu
      obtain ⟨a1, a2, b1, b2⟩ := h
      rw [hd.out] at hv; subst hv; clear hd
      generalize x % b = r at *
      have c1 : decide (b ≤ 2 * (x - (x - r))) = true := by simp; omega
      go_enter Try.func20, Try.ntmps20
      go_wp2_with (go_at_call 29; (with_reducible refine (iRoundDown _ _ _ _ hr).mono ?_); rintro e w' ⟨rfl, rfl⟩)
      go_ret
      exact ⟨rfl, rfl⟩
    · have hv := rnr_dn h (by omega)
      obtain ⟨a1, a2, b1, b2⟩ := h
      rw [hd.out] at hv; subst hv; clear hd
      generalize x % b = r at *
      have c1 : decide (b ≤ 2 * (x - (x - r))) = false := by simp; omega
      go_enter Try.func20, Try.ntmps20
      go_wp2_with (go_at_call 29; (with_reducible refine (iRoundDown _ _ _ _ hr).mono ?_); rintro e w' ⟨rfl, rfl⟩)
      go_ret
      exact ⟨rfl, rfl⟩
  · have hr := Lib.hid (rdn_out h)
    have hv := rnr_out h
    rw [hd.out] at hv; subst hv; clear hd h
    go_enter Try.func20, Try.ntmps20
    go_wp2_with (go_at_call 29; (with_reducible refine (iRoundDown _ _ _ _ hr).mono ?_); rintro e w' ⟨rfl, rfl⟩)
    go_ret
    exact ⟨rfl, rfl⟩

/-! ### the reference -/

set_option maxHeartbeats 400000 in
theorem sIn_t (n lo hi : Int) (w : World) (h1 : lo ≤ n) (h2 : n ≤ hi) :
    Calls Try.prog 30 #[.int .i64 n, .int .i64 lo, .int .i64 hi] w fun e w' => e = .returned (.bool true) ∧ w = w' := by
  have d : decide (n ≤ hi) = true := by simpa using h2
  go_enter Try.func30, Try.ntmps30
  go_wp2
  go_ret
  exact ⟨rfl, rfl⟩

set_option maxHeartbeats 400000 in
theorem sIn_f (n lo hi : Int) (w : World) (h : n < lo ∨ hi < n) :
    Calls Try.prog 30 #[.int .i64 n, .int .i64 lo, .int .i64 hi] w fun e w' => e = .returned (.bool false) ∧ w = w' := by
  by_cases h1 : n < lo
  · clear h
    go_enter Try.func30, Try.ntmps30
    go_wp2
    go_ret
    exact ⟨rfl, rfl⟩
  · have d : decide (n ≤ hi) = false := by simp; omega
    clear h
    go_enter Try.func30, Try.ntmps30
    go_wp2
    go_ret
    exact ⟨rfl, rfl⟩

set_option maxHeartbeats 400000 in
theorem sOk_t (x b : Int) (w : World) (h : okR x b) :
    Calls Try.prog 28 #[.int .i64 x, .int .i64 b] w fun e w' => e = .returned (.bool true) ∧ w = w' := by
  obtain ⟨h1, h2, h3, h4⟩ := h
  go_enter Try.func28, Try.ntmps28
  go_wp2_with (go_at_call 30; (with_reducible refine (sIn_t _ _ _ _ (by omega) (by omega)).mono ?_); rintro e w' ⟨rfl, rfl⟩)
  go_ret
  exact ⟨rfl, rfl⟩

set_option maxHeartbeats 400000 in
theorem sOk_f (x b : Int) (w : World) (h : ¬ okR x b) :
    Calls Try.prog 28 #[.int .i64 x, .int .i64 b] w fun e w' => e = .returned (.bool false) ∧ w = w' := by
  unfold okR at h
  by_cases h1 : x < 0 ∨ 10000 < x
  · clear h
    go_enter Try.func28, Try.ntmps28
    go_wp2_with (go_at_call 30; (with_reducible refine (sIn_f _ _ _ _ h1).mono ?_); rintro e w' ⟨rfl, rfl⟩)
    go_ret
    exact ⟨rfl, rfl⟩
  · have h2 : b < 2 ∨ 20 < b := by omega
    clear h
    go_enter Try.func28, Try.ntmps28
    go_wp2_with (go_at_call 30; first | ((with_reducible refine (sIn_f _ _ _ _ h2).mono ?_); rintro e w' ⟨rfl, rfl⟩) | ((with_reducible refine (sIn_t _ _ _ _ (by omega) (by omega)).mono ?_); rintro e w' ⟨rfl, rfl⟩))
    go_ret
    exact ⟨rfl, rfl⟩

set_option maxHeartbeats 400000 in
theorem sRoundNear (x b d : Int) (w : World) (hd : Hid (rnr x b = d)) :
    Calls Try.prog 21 #[.int .i64 x, .int .i64 b] w fun e w' => e = .returned (.int .i64 d) ∧ w = w' := by
  by_cases h : okR x b
  · obtain ⟨m1, m2, m3⟩ := mod_bd h
    have hk := h
    by_cases hu : b ≤ 2 * (x % b)
    · have hv := rnr_up h hu
      obtain ⟨a1, a2, b1, b2⟩ := h
      rw [hd.out] at hv; subst hv; clear hd
      go_enter Try.func21, Try.ntmps21
      go_wp2_with (go_at_call 28; (with_reducible refine (sOk_t _ _ _ hk).mono ?_); rintro e w' ⟨rfl, rfl⟩)
      go_ret
      exact ⟨rfl, rfl⟩
    · have hv := rnr_dn h (by omega)
      obtain ⟨a1, a2, b1, b2⟩ := h
      rw [hd.out] at hv; subst hv; clear hd
      go_enter Try.func21, Try.ntmps21
      go_wp2_with (go_at_call 28; (with_reducible refine (sOk_t _ _ _ hk).mono ?_); rintro e w' ⟨rfl, rfl⟩)
      go_ret
      exact ⟨rfl, rfl⟩
  · have hv := rnr_out h
    rw [hd.out] at hv; subst hv; clear hd
    have hk := Lib.hid h; clear h
    go_enter Try.func21, Try.ntmps21
    go_wp2_with (go_at_call 28; (with_reducible refine (sOk_f _ _ _ hk.out).mono ?_); rintro e w' ⟨rfl, rfl⟩)
    go_ret
    exact ⟨rfl, rfl⟩

end Go.Proofs.Ytomchjbgnccpnaa
