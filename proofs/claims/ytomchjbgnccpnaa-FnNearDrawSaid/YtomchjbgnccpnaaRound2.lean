/- Contracts of RoundDraw, RoundLow and RoundHigh, of the program and of the reference. -/
import Derived.Test.YtomchjbgnccpnaaRound
namespace Go.Proofs.Ytomchjbgnccpnaa
open Go.RowKit

set_option maxHeartbeats 400000 in
theorem iRoundDraw (x b l d : Int) (w : World) (hd : Hid (rdw x b l = d)) :
    Calls Try.prog 17 #[.int .i64 x, .int .i64 b, .int .i64 l] w fun e w' => e = .returned (.int .i64 d) ∧ w = w' := by
  by_cases h : okR x b
  · have hr := Lib.hid (rdn_in h)
    obtain ⟨m1, m2, m3⟩ := mod_bd h
    by_cases hl : 0 ≤ l ∧ l < b
    · by_cases hu : l < x % b
      · have hv := rdw_up ⟨h, hl⟩ hu
        obtain ⟨a1, a2, b1, b2⟩ := h
        obtain ⟨l1, l2⟩ := hl
        rw [hd.out] at hv; subst hv; clear hd
        generalize x % b = r at *
        have c1 : decide (b ≤ l) = false := by simp; omega
        go_enter Try.func17, Try.ntmps17
        go_wp2_with (go_at_call 29; (with_reducible refine (iRoundDown _ _ _ _ hr).mono ?_); rintro e w' ⟨rfl, rfl⟩)
        go_ret
        exact ⟨rfl, rfl⟩
      · have hv := rdw_dn ⟨h, hl⟩ (by omega)
        obtain ⟨a1, a2, b1, b2⟩ := h
        obtain ⟨l1, l2⟩ := hl
        rw [hd.out] at hv; subst hv; clear hd
        generalize x % b = r at *
        have c1 : decide (b ≤ l) = false := by simp; omega
        go_enter Try.func17, Try.ntmps17
        go_wp2_with (go_at_call 29; (with_reducible refine (iRoundDown _ _ _ _ hr).mono ?_); rintro e w' ⟨rfl, rfl⟩)
        go_ret
        exact ⟨rfl, rfl⟩
    · have hv := rdw_out (x := x) (b := b) (l := l) (fun k => hl k.2)
      obtain ⟨a1, a2, b1, b2⟩ := h
      rw [hd.out] at hv; subst hv; clear hd
      generalize x % b = r at *
      by_cases l1 : l < 0
      · clear hl
        go_enter Try.func17, Try.ntmps17
        go_wp2_with (go_at_call 29; (with_reducible refine (iRoundDown _ _ _ _ hr).mono ?_); rintro e w' ⟨rfl, rfl⟩)
        go_ret
        exact ⟨rfl, rfl⟩
      · have c1 : decide (b ≤ l) = true := by simp; omega
        have l2 : b ≤ l := by omega
        clear hl
        go_enter Try.func17, Try.ntmps17
        go_wp2_with (go_at_call 29; (with_reducible refine (iRoundDown _ _ _ _ hr).mono ?_); rintro e w' ⟨rfl, rfl⟩)
        go_ret
        exact ⟨rfl, rfl⟩
  · have hr := Lib.hid (rdn_out h)
    have hv := rdw_out (x := x) (b := b) (l := l) (fun k => h k.1)
    rw [hd.out] at hv; subst hv; clear hd h
    go_enter Try.func17, Try.ntmps17
    go_wp2_with (go_at_call 29; (with_reducible refine (iRoundDown _ _ _ _ hr).mono ?_); rintro e w' ⟨rfl, rfl⟩)
    go_ret
    exact ⟨rfl, rfl⟩

set_option maxHeartbeats 400000 in
theorem sRoundDraw (x b l d : Int) (w : World) (hd : Hid (rdw x b l = d)) :
    Calls Try.prog 18 #[.int .i64 x, .int .i64 b, .int .i64 l] w fun e w' => e = .returned (.int .i64 d) ∧ w = w' := by
  by_cases h : okR x b
  · obtain ⟨m1, m2, m3⟩ := mod_bd h
    have hk := h
    by_cases hl : 0 ≤ l ∧ l < b
    · by_cases hu : l < x % b
      · have hv := rdw_up ⟨h, hl⟩ hu
        obtain ⟨a1, a2, b1, b2⟩ := h
        obtain ⟨l1, l2⟩ := hl
        rw [hd.out] at hv; subst hv; clear hd
        go_enter Try.func18, Try.ntmps18
        go_wp2_with (first | (go_at_call 28; (with_reducible refine (sOk_t _ _ _ hk).mono ?_); rintro e w' ⟨rfl, rfl⟩) | (go_at_call 30; (with_reducible refine (sIn_t _ _ _ _ (by omega) (by omega)).mono ?_); rintro e w' ⟨rfl, rfl⟩))
        go_ret
        exact ⟨rfl, rfl⟩
      · have hv := rdw_dn ⟨h, hl⟩ (by omega)
        obtain ⟨a1, a2, b1, b2⟩ := h
        obtain ⟨l1, l2⟩ := hl
        rw [hd.out] at hv; subst hv; clear hd
        go_enter Try.func18, Try.ntmps18
        go_wp2_with (first | (go_at_call 28; (with_reducible refine (sOk_t _ _ _ hk).mono ?_); rintro e w' ⟨rfl, rfl⟩) | (go_at_call 30; (with_reducible refine (sIn_t _ _ _ _ (by omega) (by omega)).mono ?_); rintro e w' ⟨rfl, rfl⟩))
        go_ret
        exact ⟨rfl, rfl⟩
    · have hv := rdw_out (x := x) (b := b) (l := l) (fun k => hl k.2)
      obtain ⟨a1, a2, b1, b2⟩ := h
      rw [hd.out] at hv; subst hv; clear hd
      have l2 : l < 0 ∨ b - 1 < l := by omega
      clear hl
      go_enter Try.func18, Try.ntmps18
      go_wp2_with (first | (go_at_call 28; (with_reducible refine (sOk_t _ _ _ hk).mono ?_); rintro e w' ⟨rfl, rfl⟩) | (go_at_call 30; (with_reducible refine (sIn_f _ _ _ _ l2).mono ?_); rintro e w' ⟨rfl, rfl⟩))
      go_ret
      exact ⟨rfl, rfl⟩
  · have hv := rdw_out (x := x) (b := b) (l := l) (fun k => h k.1)
    rw [hd.out] at hv; subst hv; clear hd
    have hk := Lib.hid h; clear h
    go_enter Try.func18, Try.ntmps18
    go_wp2_with (go_at_call 28; (with_reducible refine (sOk_f _ _ _ hk.out).mono ?_); rintro e w' ⟨rfl, rfl⟩)
    go_ret
    exact ⟨rfl, rfl⟩

set_option maxHeartbeats 400000 in
theorem iRoundLow (y b d : Int) (w : World) (hd : Hid (rlo y b = d)) :
    Calls Try.prog 13 #[.int .i64 y, .int .i64 b] w fun e w' => e = .returned (.int .i64 d) ∧ w = w' := by
  by_cases h : okR y b
  · have hr := Lib.hid (rdn_in h)
    obtain ⟨m1, m2, m3⟩ := mod_bd h
    by_cases hm : y % b = 0
    · have hv := rlo_in h hm
      obtain ⟨a1, a2, b1, b2⟩ := h
      rw [hd.out] at hv; subst hv; clear hd
      have hr' : Hid (rdn y b = y) := by have := hr.out; unfold Hid; omega
      have hm' := Lib.hid hm; clear hm hr m1 m2 m3
      go_enter Try.func13, Try.ntmps13
      go_wp2_with (go_at_call 29; (with_reducible refine (iRoundDown _ _ _ _ hr').mono ?_); rintro e w' ⟨rfl, rfl⟩)
      all_goals
        go_ret
        exact ⟨ret_int (by omega), rfl⟩
    · have hv := rlo_out (y := y) (b := b) (fun k => hm k.2)
      obtain ⟨a1, a2, b1, b2⟩ := h
      rw [hd.out] at hv; subst hv; clear hd
      have c1 : (y - y % b != y) = true := by simp; omega
      go_enter Try.func13, Try.ntmps13
      go_wp2_with (go_at_call 29; (with_reducible refine (iRoundDown _ _ _ _ hr).mono ?_); rintro e w' ⟨rfl, rfl⟩)
      go_ret
      exact ⟨rfl, rfl⟩
  · have hr := Lib.hid (rdn_out h)
    have hv := rlo_out (y := y) (b := b) (fun k => h k.1)
    rw [hd.out] at hv; subst hv; clear hd h
    by_cases h1 : y = -1
    · subst h1
      go_enter Try.func13, Try.ntmps13
      go_wp2_with (go_at_call 29; (with_reducible refine (iRoundDown _ _ _ _ hr).mono ?_); rintro e w' ⟨rfl, rfl⟩)
      go_ret
      exact ⟨rfl, rfl⟩
    · have c1 : ((-1 : Int) != y) = true := by simp; omega
      clear h1
      go_enter Try.func13, Try.ntmps13
      go_wp2_with (go_at_call 29; (with_reducible refine (iRoundDown _ _ _ _ hr).mono ?_); rintro e w' ⟨rfl, rfl⟩)
      go_ret
      exact ⟨rfl, rfl⟩

set_option maxHeartbeats 400000 in
theorem sRoundLow (y b d : Int) (w : World) (hd : Hid (rlo y b = d)) :
    Calls Try.prog 14 #[.int .i64 y, .int .i64 b] w fun e w' => e = .returned (.int .i64 d) ∧ w = w' := by
  by_cases h : okR y b
  · have hk := h
    by_cases hm : y % b = 0
    · have hv := rlo_in h hm
      obtain ⟨a1, a2, b1, b2⟩ := h
      rw [hd.out] at hv; subst hv; clear hd
      have c1 : (y % b != 0) = false := by simp; omega
      clear hm
      go_enter Try.func14, Try.ntmps14
      go_wp2_with (go_at_call 28; (with_reducible refine (sOk_t _ _ _ hk).mono ?_); rintro e w' ⟨rfl, rfl⟩)
      all_goals
        go_ret
        exact ⟨ret_int (by omega), rfl⟩
    · have hv := rlo_out (y := y) (b := b) (fun k => hm k.2)
      obtain ⟨a1, a2, b1, b2⟩ := h
      rw [hd.out] at hv; subst hv; clear hd
      have c1 : (y % b != 0) = true := by simp; omega
      clear hm
      go_enter Try.func14, Try.ntmps14
      go_wp2_with (go_at_call 28; (with_reducible refine (sOk_t _ _ _ hk).mono ?_); rintro e w' ⟨rfl, rfl⟩)
      go_ret
      exact ⟨rfl, rfl⟩
  · have hv := rlo_out (y := y) (b := b) (fun k => h k.1)
    rw [hd.out] at hv; subst hv; clear hd
    have hk := Lib.hid h; clear h
    go_enter Try.func14, Try.ntmps14
    go_wp2_with (go_at_call 28; (with_reducible refine (sOk_f _ _ _ hk.out).mono ?_); rintro e w' ⟨rfl, rfl⟩)
    go_ret
    exact ⟨rfl, rfl⟩

set_option maxHeartbeats 400000 in
theorem iRoundHigh (y b d : Int) (w : World) (hd : Hid (rhi y b = d)) :
    Calls Try.prog 15 #[.int .i64 y, .int .i64 b] w fun e w' => e = .returned (.int .i64 d) ∧ w = w' := by
  by_cases h : okR y b ∧ y % b = 0
  · have hr := Lib.hid (rlo_in h.1 h.2)
    have hv := rhi_in h.1 h.2
    obtain ⟨⟨a1, a2, b1, b2⟩, hm⟩ := h
    rw [hd.out] at hv; subst hv; clear hd hm
    generalize hg : max 0 (y - b + 1) = lo at *
    have hlo : 0 ≤ lo := by omega
    clear hg
    go_enter Try.func15, Try.ntmps15
    go_wp2_with (go_at_call 13; (with_reducible refine (iRoundLow _ _ _ _ hr).mono ?_); rintro e w' ⟨rfl, rfl⟩)
    all_goals
      go_ret
      exact ⟨ret_int (by omega), rfl⟩
  · have hr := Lib.hid (rlo_out h)
    have hv := rhi_out h
    rw [hd.out] at hv; subst hv; clear hd h
    go_enter Try.func15, Try.ntmps15
    go_wp2_with (go_at_call 13; (with_reducible refine (iRoundLow _ _ _ _ hr).mono ?_); rintro e w' ⟨rfl, rfl⟩)
    go_ret
    exact ⟨rfl, rfl⟩

set_option maxHeartbeats 400000 in
theorem sRoundHigh (y b d : Int) (w : World) (hd : Hid (rhi y b = d)) :
    Calls Try.prog 23 #[.int .i64 y, .int .i64 b] w fun e w' => e = .returned (.int .i64 d) ∧ w = w' := by
  by_cases h : okR y b
  · have hk := h
    by_cases hm : y % b = 0
    · have hv := rhi_in h hm
      obtain ⟨a1, a2, b1, b2⟩ := h
      rw [hd.out] at hv; subst hv; clear hd
      have c1 : (y % b != 0) = false := by simp; omega
      clear hm
      go_enter Try.func23, Try.ntmps23
      go_wp2_with (go_at_call 28; (with_reducible refine (sOk_t _ _ _ hk).mono ?_); rintro e w' ⟨rfl, rfl⟩)
      all_goals
        go_ret
        exact ⟨ret_int (by omega), rfl⟩
    · have hv := rhi_out (y := y) (b := b) (fun k => hm k.2)
      obtain ⟨a1, a2, b1, b2⟩ := h
      rw [hd.out] at hv; subst hv; clear hd
      have c1 : (y % b != 0) = true := by simp; omega
      clear hm
      go_enter Try.func23, Try.ntmps23
      go_wp2_with (go_at_call 28; (with_reducible refine (sOk_t _ _ _ hk).mono ?_); rintro e w' ⟨rfl, rfl⟩)
      go_ret
      exact ⟨rfl, rfl⟩
  · have hv := rhi_out (y := y) (b := b) (fun k => h k.1)
    rw [hd.out] at hv; subst hv; clear hd
    have hk := Lib.hid h; clear h
    go_enter Try.func23, Try.ntmps23
    go_wp2_with (go_at_call 28; (with_reducible refine (sOk_f _ _ _ hk.out).mono ?_); rintro e w' ⟨rfl, rfl⟩)
    go_ret
    exact ⟨rfl, rfl⟩

end Go.Proofs.Ytomchjbgnccpnaa
