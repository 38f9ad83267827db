/- The walks of the laws on drawn roundings and on ranges. -/
import Derived.Test.YtomchjbgnccpnaaDraw3
import Derived.Test.YtomchjbgnccpnaaPlain3
namespace Go.Proofs.Ytomchjbgnccpnaa
open Go.RowKit

set_option maxHeartbeats 400000 in
theorem wFnRangeWidth (a : Option Addr) (len cap : Nat) (z : List Int) (w : World) (h : IsRow .u8 w a len cap z) :
    Calls Try.prog 3 #[.slice a len cap] w fun e w' => e = .returned (.bool true) ∧ Below w.heap.size w w' := by
  have H := Lib.hid h; clear h
  by_cases hl : 1048576 < len
  · go_enter Try.func3, Try.ntmps3
    go_wp2_with fail
    go_ret
    exact ⟨rfl, Below.refl _ _⟩
  go_enter Try.func3, Try.ntmps3
  go_wp2_with fail
  refine (drawLow _ _ _ _ _ H.out).mono ?_
  rintro e w1 ⟨x, b, rfl, x1, x2, b1, b2, hb⟩
  by_cases hk : okR x b ∧ x % b = 0
  · have hd := Lib.hid (rlo_in hk.1 hk.2)
    have hh := Lib.hid (rhi_in hk.1 hk.2)
    obtain ⟨⟨k1, k2, k3, k4⟩, hm⟩ := hk
    clear hm
    obtain ⟨lo, hlo⟩ : ∃ lo, max 0 (x - b + 1) = lo := ⟨_, rfl⟩
    obtain ⟨hi, hhi⟩ : ∃ hi, min 10000 (x + b - 1) = hi := ⟨_, rfl⟩
    rw [hlo] at hd; rw [hhi] at hh
    have c0 : 0 ≤ lo := by omega
    have c1 : hi - lo ≤ 2 * b - 2 := by omega
    have c2 : lo ≤ hi := by omega
    have c3 : hi ≤ 10000 := by omega
    by_cases t1 : x < b
    · clear hlo hhi
      go_wp2_with fail
      with_reducible refine (iRoundLow _ _ _ _ hd).mono ?_
      rintro e w' ⟨rfl, rfl⟩
      go_wp2_with fail
      with_reducible refine (sRoundLow _ _ _ _ hd).mono ?_
      rintro e w' ⟨rfl, rfl⟩
      go_wp2_with fail
      with_reducible refine (iRoundHigh _ _ _ _ hh).mono ?_
      rintro e w' ⟨rfl, rfl⟩
      go_wp2_with fail
      all_goals
        go_ret
        exact ⟨rfl, hb⟩
    by_cases t2 : 10000 - b < x
    · clear hlo hhi
      go_wp2_with fail
      with_reducible refine (iRoundLow _ _ _ _ hd).mono ?_
      rintro e w' ⟨rfl, rfl⟩
      go_wp2_with fail
      with_reducible refine (sRoundLow _ _ _ _ hd).mono ?_
      rintro e w' ⟨rfl, rfl⟩
      go_wp2_with fail
      with_reducible refine (iRoundHigh _ _ _ _ hh).mono ?_
      rintro e w' ⟨rfl, rfl⟩
      go_wp2_with fail
      all_goals
        go_ret
        exact ⟨rfl, hb⟩
    · have c4 : (hi - lo == 2 * b - 2) = true := by simp; omega
      clear hlo hhi
      go_wp2_with fail
      with_reducible refine (iRoundLow _ _ _ _ hd).mono ?_
      rintro e w' ⟨rfl, rfl⟩
      go_wp2_with fail
      with_reducible refine (sRoundLow _ _ _ _ hd).mono ?_
      rintro e w' ⟨rfl, rfl⟩
      go_wp2_with fail
      with_reducible refine (iRoundHigh _ _ _ _ hh).mono ?_
      rintro e w' ⟨rfl, rfl⟩
      go_wp2_with fail
      all_goals
        go_ret
        exact ⟨rfl, hb⟩
  · have hd := Lib.hid (rlo_out hk)
    clear hk
    go_wp2_with fail
    with_reducible refine (iRoundLow _ _ _ _ hd).mono ?_
    rintro e w' ⟨rfl, rfl⟩
    go_wp2_with fail
    with_reducible refine (sRoundLow _ _ _ _ hd).mono ?_
    rintro e w' ⟨rfl, rfl⟩
    go_wp2_with fail
    all_goals
      go_ret
      exact ⟨rfl, hb⟩

set_option maxHeartbeats 400000 in
theorem wFnDraw (a : Option Addr) (len cap : Nat) (z : List Int) (w : World) (h : IsRow .u8 w a len cap z) :
    Calls Try.prog 4 #[.slice a len cap] w fun e w' => e = .returned (.bool true) ∧ Below w.heap.size w w' := by
  have H := Lib.hid h; clear h
  by_cases hl : 1048576 < len
  · go_enter Try.func4, Try.ntmps4
    go_wp2_with fail
    go_ret
    exact ⟨rfl, Below.refl _ _⟩
  go_enter Try.func4, Try.ntmps4
  go_wp2_with fail
  refine (drawDraw _ _ _ _ _ H.out).mono ?_
  rintro e w1 ⟨x, b, l, rfl, x1, x2, b1, b2, l1, l2, hb⟩
  by_cases hk : okR x b ∧ 0 ≤ l ∧ l < b
  · obtain ⟨p, hp, p0, p1, p2⟩ := split_x hk.1
    have hm := mod_at hp p1 p2
    have hp' := mul_up hp
    obtain ⟨n, hn⟩ : ∃ n, Hid (rdw x b (l + 1) = n) := ⟨_, rfl⟩
    have hnb := rdw_bd x b (l + 1)
    rw [hn.out] at hnb
    obtain ⟨n1, n2⟩ := hnb
    rcases rdw_cases hk.1 hp p1 p2 hk.2.1 hk.2.2 with ⟨u, e⟩ | ⟨u, e⟩
    · have hd := Lib.hid e
      have hnp : n ≤ p := by
        have := hn.out
        by_cases hl : l + 1 < b
        · rw [rdw_of1 hk.1 hp p1 p2 (by omega) hl (by omega)] at this; omega
        · rw [rdw_out (by omega)] at this; omega
      obtain ⟨⟨k1, k2, k3, k4⟩, l3, l4⟩ := hk
      have c1 : (p % b == 0) = true := by rw [hp]; rfl
      by_cases hxp : x = p
      · subst hxp
        have c2 : (x % b != 0) = false := by rw [hm]; simp
        clear hm hp hp' e
        go_wp2_with fail
        with_reducible refine (iRoundDraw _ _ _ _ _ hd).mono ?_
        rintro e w' ⟨rfl, rfl⟩
        go_wp2_with fail
        with_reducible refine (sRoundDraw _ _ _ _ _ hd).mono ?_
        rintro e w' ⟨rfl, rfl⟩
        go_wp2_with fail
        with_reducible refine (iRoundDraw _ _ _ _ _ hn).mono ?_
        rintro e w' ⟨rfl, rfl⟩
        go_wp2_with fail
        all_goals
          go_ret
          exact ⟨rfl, hb⟩
      · have c2 : (x % b != 0) = true := by rw [hm]; simp; omega
        clear hm hp hp' e
        go_wp2_with fail
        with_reducible refine (iRoundDraw _ _ _ _ _ hd).mono ?_
        rintro e w' ⟨rfl, rfl⟩
        go_wp2_with fail
        with_reducible refine (sRoundDraw _ _ _ _ _ hd).mono ?_
        rintro e w' ⟨rfl, rfl⟩
        go_wp2_with fail
        with_reducible refine (iRoundDraw _ _ _ _ _ hn).mono ?_
        rintro e w' ⟨rfl, rfl⟩
        go_wp2_with fail
        all_goals
          go_ret
          exact ⟨rfl, hb⟩
    · have hd := Lib.hid e
      have hnp : n ≤ p + b := by
        have := hn.out
        by_cases hl : l + 1 < b
        · rcases rdw_cases hk.1 hp p1 p2 (l := l + 1) (by omega) hl with ⟨_, e2⟩ | ⟨_, e2⟩ <;> omega
        · rw [rdw_out (by omega)] at this; omega
      obtain ⟨⟨k1, k2, k3, k4⟩, l3, l4⟩ := hk
      have c1 : (p % b == 0) = true := by rw [hp]; rfl
      have c2 : (x % b != 0) = true := by rw [hm]; simp; omega
      clear hm hp hp' e
      go_wp2_with fail
      with_reducible refine (iRoundDraw _ _ _ _ _ hd).mono ?_
      rintro e w' ⟨rfl, rfl⟩
      go_wp2_with fail
      with_reducible refine (sRoundDraw _ _ _ _ _ hd).mono ?_
      rintro e w' ⟨rfl, rfl⟩
      go_wp2_with fail
      with_reducible refine (iRoundDraw _ _ _ _ _ hn).mono ?_
      rintro e w' ⟨rfl, rfl⟩
      go_wp2_with fail
      all_goals
        go_ret
        exact ⟨rfl, hb⟩
  · have hd := Lib.hid (rdw_out hk)
    clear hk
    go_wp2_with fail
    with_reducible refine (iRoundDraw _ _ _ _ _ hd).mono ?_
    rintro e w' ⟨rfl, rfl⟩
    go_wp2_with fail
    with_reducible refine (sRoundDraw _ _ _ _ _ hd).mono ?_
    rintro e w' ⟨rfl, rfl⟩
    go_wp2_with fail
    all_goals
      go_ret
      exact ⟨rfl, hb⟩

set_option maxHeartbeats 400000 in
theorem wFnDrawCount (a : Option Addr) (len cap : Nat) (z : List Int) (w : World) (h : IsRow .u8 w a len cap z) :
    Calls Try.prog 5 #[.slice a len cap] w fun e w' => e = .returned (.bool true) ∧ Below w.heap.size w w' := by
  have H := Lib.hid h; clear h
  by_cases hl : 1048576 < len
  · go_enter Try.func5, Try.ntmps5
    go_wp2_with fail
    go_ret
    exact ⟨rfl, Below.refl _ _⟩
  go_enter Try.func5, Try.ntmps5
  go_wp2_with fail
  refine (drawDraw _ _ _ _ _ H.out).mono ?_
  rintro e w1 ⟨x, b, l, rfl, x1, x2, b1, b2, l1, l2, hb⟩
  by_cases hk : okR x b ∧ 0 ≤ l ∧ l < b
  · obtain ⟨d, hd⟩ : ∃ d, Hid (rdw x b l = d) := ⟨_, rfl⟩
    have hd0 : 0 ≤ d := by
      obtain ⟨p, hp, p0, p1, p2⟩ := split_x hk.1
      have := hd.out
      rcases rdw_cases hk.1 hp p1 p2 hk.2.1 hk.2.2 with ⟨_, e⟩ | ⟨_, e⟩ <;> omega
    obtain ⟨B, rfl⟩ := Int.eq_ofNat_of_zero_le (show 0 ≤ b by omega)
    have hall := Lib.hid (cnt_all hk.1)
    obtain ⟨⟨k1, k2, k3, k4⟩, l3, l4⟩ := hk
    go_wp2_with fail
    with_reducible refine (iRoundDraw _ _ _ _ _ hd).mono ?_
    rintro e w' ⟨rfl, rfl⟩
    go_wp2_with fail
    with_reducible refine (sRoundDraw _ _ _ _ _ hd).mono ?_
    rintro e w' ⟨rfl, rfl⟩
    go_wp2_with fail
    go_loop [8, 9] (fun n i => ∃ k : Nat, k ≤ B ∧ n = .int .i64 (cnt x B k) ∧ i = .int .i64 k) (fun _ i => B - (intOf i).toNat)
    case atStart => exact ⟨0, Nat.zero_le _, rfl, rfl⟩
    case round =>
      obtain ⟨k, hkB, rfl, rfl⟩ := hrel
      have cb := cnt_bd x B k
      obtain ⟨cb1, cb2⟩ := cb
      by_cases hlt : k < B
      · obtain ⟨v, hv⟩ : ∃ v, Hid (rdw x B k = v) := ⟨_, rfl⟩
        have hvb := rdw_bd x B k
        rw [hv.out] at hvb
        obtain ⟨v1, v2⟩ := hvb
        by_cases hg : x < v
        · have HS : Hid (cnt x B (k + 1) = cnt x B k + 1) := by show cnt x B k + _ = _; rw [hv.out, if_pos hg]
          go_wp2_with fail
          with_reducible refine (iRoundDraw _ _ _ _ _ hv).mono ?_
          rintro e w' ⟨rfl, rfl⟩
          go_wp2_with fail
          go_round
          case rel => exact ⟨k + 1, by omega, by rw [HS.out], by go_num⟩
          case measure => simp [intOf]; omega
        · have HS : Hid (cnt x B (k + 1) = cnt x B k) := by show cnt x B k + _ = _; rw [hv.out, if_neg hg]; omega
          go_wp2_with fail
          with_reducible refine (iRoundDraw _ _ _ _ _ hv).mono ?_
          rintro e w' ⟨rfl, rfl⟩
          go_wp2_with fail
          go_round
          case rel => exact ⟨k + 1, by omega, by rw [HS.out], by go_num⟩
          case measure => simp [intOf]; omega
      · obtain rfl : k = B := by omega
        have c1 : (cnt x k k == x % k) = true := by rw [hall.out]; simp
        go_wp2_with fail
        go_ret
        exact ⟨rfl, hb⟩
  · have hd := Lib.hid (rdw_out hk)
    clear hk
    go_wp2_with fail
    with_reducible refine (iRoundDraw _ _ _ _ _ hd).mono ?_
    rintro e w' ⟨rfl, rfl⟩
    go_wp2_with fail
    with_reducible refine (sRoundDraw _ _ _ _ _ hd).mono ?_
    rintro e w' ⟨rfl, rfl⟩
    go_wp2_with fail
    all_goals
      go_ret
      exact ⟨rfl, hb⟩

set_option maxHeartbeats 400000 in
theorem wFnDrawMean (a : Option Addr) (len cap : Nat) (z : List Int) (w : World) (h : IsRow .u8 w a len cap z) :
    Calls Try.prog 6 #[.slice a len cap] w fun e w' => e = .returned (.bool true) ∧ Below w.heap.size w w' := by
  have H := Lib.hid h; clear h
  by_cases hl : 1048576 < len
  · go_enter Try.func6, Try.ntmps6
    go_wp2_with fail
    go_ret
    exact ⟨rfl, Below.refl _ _⟩
  go_enter Try.func6, Try.ntmps6
  go_wp2_with fail
  refine (drawDraw _ _ _ _ _ H.out).mono ?_
  rintro e w1 ⟨x, b, l, rfl, x1, x2, b1, b2, l1, l2, hb⟩
  by_cases hk : okR x b ∧ 0 ≤ l ∧ l < b
  · obtain ⟨d, hd⟩ : ∃ d, Hid (rdw x b l = d) := ⟨_, rfl⟩
    have hd0 : 0 ≤ d := by
      obtain ⟨p, hp, p0, p1, p2⟩ := split_x hk.1
      have := hd.out
      rcases rdw_cases hk.1 hp p1 p2 hk.2.1 hk.2.2 with ⟨_, e⟩ | ⟨_, e⟩ <;> omega
    obtain ⟨B, rfl⟩ := Int.eq_ofNat_of_zero_le (show 0 ≤ b by omega)
    have hall := Lib.hid (smd_all hk.1)
    obtain ⟨⟨k1, k2, k3, k4⟩, l3, l4⟩ := hk
    go_wp2_with fail
    with_reducible refine (iRoundDraw _ _ _ _ _ hd).mono ?_
    rintro e w' ⟨rfl, rfl⟩
    go_wp2_with fail
    with_reducible refine (sRoundDraw _ _ _ _ _ hd).mono ?_
    rintro e w' ⟨rfl, rfl⟩
    go_wp2_with fail
    go_loop [8, 9] (fun n i => ∃ k : Nat, k ≤ B ∧ n = .int .i64 (smd x B k) ∧ i = .int .i64 k) (fun _ i => B - (intOf i).toNat)
    case atStart => exact ⟨0, Nat.zero_le _, rfl, rfl⟩
    case round =>
      obtain ⟨k, hkB, rfl, rfl⟩ := hrel
      have cb := smd_bd x B k
      obtain ⟨cb1, cb2⟩ := cb
      by_cases hlt : k < B
      · obtain ⟨v, hv⟩ : ∃ v, Hid (rdw x B k = v) := ⟨_, rfl⟩
        have hvb := rdw_bd x B k
        rw [hv.out] at hvb
        obtain ⟨v1, v2⟩ := hvb
        have HS : Hid (smd x B (k + 1) = smd x B k + v) := by show smd x B k + _ = _; rw [hv.out]
        go_wp2_with fail
        with_reducible refine (iRoundDraw _ _ _ _ _ hv).mono ?_
        rintro e w' ⟨rfl, rfl⟩
        go_wp2_with fail
        go_round
        case rel => exact ⟨k + 1, by omega, by rw [HS.out], by go_num⟩
        case measure => simp [intOf]; omega
      · obtain rfl : k = B := by omega
        have e1 : 0 ≤ x * k := Int.mul_nonneg (by omega) (by omega)
        have e2 : x * k ≤ 10000 * 20 := Int.mul_le_mul (by omega) (by omega) (by omega) (by omega)
        have c1 : (smd x k k == x * k) = true := by rw [hall.out]; simp
        go_wp2_with fail
        go_ret
        exact ⟨rfl, hb⟩
  · have hd := Lib.hid (rdw_out hk)
    clear hk
    go_wp2_with fail
    with_reducible refine (iRoundDraw _ _ _ _ _ hd).mono ?_
    rintro e w' ⟨rfl, rfl⟩
    go_wp2_with fail
    with_reducible refine (sRoundDraw _ _ _ _ _ hd).mono ?_
    rintro e w' ⟨rfl, rfl⟩
    go_wp2_with fail
    all_goals
      go_ret
      exact ⟨rfl, hb⟩

set_option maxHeartbeats 400000 in
theorem wFnNearDraw (a : Option Addr) (len cap : Nat) (z : List Int) (w : World) (h : IsRow .u8 w a len cap z) :
    Calls Try.prog 8 #[.slice a len cap] w fun e w' => e = .returned (.bool true) ∧ Below w.heap.size w w' := by
  have H := Lib.hid h; clear h
  by_cases hl : 1048576 < len
  · go_enter Try.func8, Try.ntmps8
    go_wp2_with fail
    go_ret
    exact ⟨rfl, Below.refl _ _⟩
  go_enter Try.func8, Try.ntmps8
  go_wp2_with fail
  refine (drawNear _ _ _ _ _ H.out).mono ?_
  rintro e w1 ⟨x, b, rfl, x1, x2, b1, b2, hb⟩
  by_cases hk : okR x b
  · obtain ⟨d, hd⟩ : ∃ d, Hid (rnr x b = d) := ⟨_, rfl⟩
    have hd0 := rnr_bd x b hk
    rw [hd.out] at hd0
    obtain ⟨B, rfl⟩ := Int.eq_ofNat_of_zero_le (show 0 ≤ b by omega)
    have hall := near_drawn hk
    rw [hd.out] at hall
    obtain ⟨d1, d2⟩ := hd0
    have hall := Lib.hid hall
    obtain ⟨k1, k2, k3, k4⟩ := hk
    go_wp2_with fail
    with_reducible refine (iRoundNear _ _ _ _ hd).mono ?_
    rintro e w' ⟨rfl, rfl⟩
    go_wp2_with fail
    with_reducible refine (sRoundNear _ _ _ _ hd).mono ?_
    rintro e w' ⟨rfl, rfl⟩
    go_wp2_with fail
    go_loop [7, 8] (fun f i => ∃ k : Nat, k ≤ B ∧ f = .bool (fnd x B d k) ∧ i = .int .i64 k) (fun _ i => B - (intOf i).toNat)
    case atStart => exact ⟨0, Nat.zero_le _, rfl, rfl⟩
    case round =>
      obtain ⟨k, hkB, rfl, rfl⟩ := hrel
      by_cases hlt : k < B
      · obtain ⟨v, hv⟩ : ∃ v, Hid (rdw x B k = v) := ⟨_, rfl⟩
        have HS : Hid (fnd x B d (k + 1) = (fnd x B d k || (v == d))) := by show (fnd x B d k || _) = _; rw [hv.out]
        generalize fnd x B d k = f at *
        cases f
        · go_wp2_with fail
          with_reducible refine (iRoundDraw _ _ _ _ _ hv).mono ?_
          rintro e w' ⟨rfl, rfl⟩
          go_wp2_with fail
          go_round
          case rel => exact ⟨k + 1, by omega, by rw [HS.out]; rfl, by go_num⟩
          case measure => simp [intOf]; omega
        · go_wp2_with fail
          go_round
          case rel => exact ⟨k + 1, by omega, by rw [HS.out]; rfl, by go_num⟩
          case measure => simp [intOf]; omega
      · obtain rfl : k = B := by omega
        have c1 := hall.out
        go_wp2_with fail
        go_ret
        exact ⟨rfl, hb⟩
  · have hd := Lib.hid (rnr_out hk)
    clear hk
    go_wp2_with fail
    with_reducible refine (iRoundNear _ _ _ _ hd).mono ?_
    rintro e w' ⟨rfl, rfl⟩
    go_wp2_with fail
    with_reducible refine (sRoundNear _ _ _ _ hd).mono ?_
    rintro e w' ⟨rfl, rfl⟩
    go_wp2_with fail
    all_goals
      go_ret
      exact ⟨rfl, hb⟩

set_option maxHeartbeats 400000 in
theorem wFnRange (a : Option Addr) (len cap : Nat) (z : List Int) (w : World) (h : IsRow .u8 w a len cap z) :
    Calls Try.prog 10 #[.slice a len cap] w fun e w' => e = .returned (.bool true) ∧ Below w.heap.size w w' := by
  have H := Lib.hid h; clear h
  by_cases hl : 1048576 < len
  · go_enter Try.func10, Try.ntmps10
    go_wp2_with fail
    go_ret
    exact ⟨rfl, Below.refl _ _⟩
  go_enter Try.func10, Try.ntmps10
  go_wp2_with fail
  refine (drawDraw _ _ _ _ _ H.out).mono ?_
  rintro e w1 ⟨x, b, l, rfl, x1, x2, b1, b2, l1, l2, hb⟩
  by_cases hk : okR x b ∧ 0 ≤ l ∧ l < b
  · obtain ⟨p, hp, p0, p1, p2⟩ := split_x hk.1
    obtain ⟨d, hdm, hd, u1, u2, u3⟩ : ∃ d, d % b = 0 ∧ Hid (rdw x b l = d) ∧ 0 ≤ d ∧ d - b < x ∧ x < d + b := by
      obtain ⟨⟨k1, k2, k3, k4⟩, l3, l4⟩ := id hk
      rcases rdw_cases hk.1 hp p1 p2 hk.2.1 hk.2.2 with ⟨u, e⟩ | ⟨u, e⟩
      · exact ⟨p, hp, e, by omega, by omega, by omega⟩
      · exact ⟨p + b, mul_up hp, e, by omega, by omega, by omega⟩
    obtain ⟨⟨k1, k2, k3, k4⟩, l3, l4⟩ := hk
    by_cases t : 10000 < d
    · clear hp hdm
      go_wp2_with fail
      with_reducible refine (iRoundDraw _ _ _ _ _ hd).mono ?_
      rintro e w' ⟨rfl, rfl⟩
      go_wp2_with fail
      with_reducible refine (sRoundDraw _ _ _ _ _ hd).mono ?_
      rintro e w' ⟨rfl, rfl⟩
      go_wp2_with fail
      all_goals
        go_ret
        exact ⟨rfl, hb⟩
    · have hok : okR d b := by unfold okR; omega
      have h1 := Lib.hid (rlo_in hok hdm)
      have h2 := Lib.hid (rhi_in hok hdm)
      obtain ⟨lo, hlo⟩ : ∃ lo, max 0 (d - b + 1) = lo := ⟨_, rfl⟩
      obtain ⟨hi, hhi⟩ : ∃ hi, min 10000 (d + b - 1) = hi := ⟨_, rfl⟩
      rw [hlo] at h1; rw [hhi] at h2
      have c1 : lo ≤ x := by omega
      have c2 : x ≤ hi := by omega
      have c3 : decide (x ≤ hi) = true := by simp; omega
      clear hp hdm hok hlo hhi
      go_wp2_with fail
      with_reducible refine (iRoundDraw _ _ _ _ _ hd).mono ?_
      rintro e w' ⟨rfl, rfl⟩
      go_wp2_with fail
      with_reducible refine (sRoundDraw _ _ _ _ _ hd).mono ?_
      rintro e w' ⟨rfl, rfl⟩
      go_wp2_with fail
      with_reducible refine (iRoundLow _ _ _ _ h1).mono ?_
      rintro e w' ⟨rfl, rfl⟩
      go_wp2_with fail
      with_reducible refine (iRoundHigh _ _ _ _ h2).mono ?_
      rintro e w' ⟨rfl, rfl⟩
      go_wp2_with fail
      all_goals
        go_ret
        exact ⟨rfl, hb⟩
  · have hd := Lib.hid (rdw_out hk)
    clear hk
    go_wp2_with fail
    with_reducible refine (iRoundDraw _ _ _ _ _ hd).mono ?_
    rintro e w' ⟨rfl, rfl⟩
    go_wp2_with fail
    with_reducible refine (sRoundDraw _ _ _ _ _ hd).mono ?_
    rintro e w' ⟨rfl, rfl⟩
    go_wp2_with fail
    all_goals
      go_ret
      exact ⟨rfl, hb⟩

set_option maxHeartbeats 400000 in
theorem wFnLow (a : Option Addr) (len cap : Nat) (z : List Int) (w : World) (h : IsRow .u8 w a len cap z) :
    Calls Try.prog 7 #[.slice a len cap] w fun e w' => e = .returned (.bool true) ∧ Below w.heap.size w w' := by
  have H := Lib.hid h; clear h
  by_cases hl : 1048576 < len
  · go_enter Try.func7, Try.ntmps7
    go_wp2_with fail
    go_ret
    exact ⟨rfl, Below.refl _ _⟩
  go_enter Try.func7, Try.ntmps7
  go_wp2_with fail
  refine (drawLow _ _ _ _ _ H.out).mono ?_
  rintro e w1 ⟨x, b, rfl, x1, x2, b1, b2, hb⟩
  by_cases hk : okR x b ∧ x % b = 0
  · have hd0 := rlo_in hk.1 hk.2
    obtain ⟨⟨k1, k2, k3, k4⟩, hm⟩ := hk
    obtain ⟨B, rfl⟩ := Int.eq_ofNat_of_zero_le (show 0 ≤ b by omega)
    obtain ⟨d, hd⟩ : ∃ d, max 0 (x - (B : Int) + 1) = d := ⟨_, rfl⟩
    rw [hd] at hd0
    have hd0 := Lib.hid hd0
    have d1 : 0 ≤ d := by omega
    have d2 : d ≤ 10000 := by omega
    have f1 : Hid (fnd d B x B = true) := drawn_in (by unfold okR; omega) hm (by omega) (by omega)
    have f2 : 0 < d → Hid (fnd (d - 1) B x B = false) := fun h => drawn_out hm (by omega) (by omega)
    clear hm hd
    go_wp2_with fail
    with_reducible refine (iRoundLow _ _ _ _ hd0).mono ?_
    rintro e w' ⟨rfl, rfl⟩
    go_wp2_with fail
    with_reducible refine (sRoundLow _ _ _ _ hd0).mono ?_
    rintro e w' ⟨rfl, rfl⟩
    go_wp2_with fail
    go_loop [7, 8, 9] (fun f g i => ∃ k : Nat, k ≤ B ∧ f = .bool (fnd d B x k) ∧ g = .bool (fnd (d - 1) B x k) ∧ i = .int .i64 k) (fun _ _ i => B - (intOf i).toNat)
    case atStart => exact ⟨0, Nat.zero_le _, rfl, rfl, rfl⟩
    case round =>
      obtain ⟨k, hkB, rfl, rfl, rfl⟩ := hrel
      by_cases hlt : k < B
      · obtain ⟨v, hv⟩ : ∃ v, Hid (rdw d B k = v) := ⟨_, rfl⟩
        obtain ⟨u, hu⟩ : ∃ u, Hid (rdw (d - 1) B k = u) := ⟨_, rfl⟩
        have HS : Hid (fnd d B x (k + 1) = (fnd d B x k || (v == x))) := by show (fnd d B x k || _) = _; rw [hv.out]
        have HT : Hid (fnd (d - 1) B x (k + 1) = (fnd (d - 1) B x k || (u == x))) := by show (fnd (d - 1) B x k || _) = _; rw [hu.out]
        generalize fnd d B x k = f at *
        generalize fnd (d - 1) B x k = g at *
        cases f <;> cases g
        · go_wp2_with fail
          with_reducible refine (iRoundDraw _ _ _ _ _ hv).mono ?_
          rintro e w' ⟨rfl, rfl⟩
          go_wp2_with fail
          with_reducible refine (iRoundDraw _ _ _ _ _ hu).mono ?_
          rintro e w' ⟨rfl, rfl⟩
          go_wp2_with fail
          go_round
          case rel => exact ⟨k + 1, by omega, by rw [HS.out]; rfl, by rw [HT.out]; rfl, by go_num⟩
          case measure => simp [intOf]; omega
        · go_wp2_with fail
          with_reducible refine (iRoundDraw _ _ _ _ _ hv).mono ?_
          rintro e w' ⟨rfl, rfl⟩
          go_wp2_with fail
          go_round
          case rel => exact ⟨k + 1, by omega, by rw [HS.out]; rfl, by rw [HT.out]; rfl, by go_num⟩
          case measure => simp [intOf]; omega
        · go_wp2_with fail
          with_reducible refine (iRoundDraw _ _ _ _ _ hu).mono ?_
          rintro e w' ⟨rfl, rfl⟩
          go_wp2_with fail
          go_round
          case rel => exact ⟨k + 1, by omega, by rw [HS.out]; rfl, by rw [HT.out]; rfl, by go_num⟩
          case measure => simp [intOf]; omega
        · go_wp2_with fail
          go_round
          case rel => exact ⟨k + 1, by omega, by rw [HS.out]; rfl, by rw [HT.out]; rfl, by go_num⟩
          case measure => simp [intOf]; omega
      · obtain rfl : k = B := by omega
        have c1 := f1.out
        by_cases z : d = 0
        · subst z
          clear f2
          go_wp2_with fail
          go_ret
          exact ⟨rfl, hb⟩
        · have c2 : (d == 0) = false := by simp; omega
          have c3 := (f2 (by omega)).out
          clear f2 z
          go_wp2_with fail
          go_ret
          exact ⟨rfl, hb⟩
  · have hd := Lib.hid (rlo_out hk)
    clear hk
    go_wp2_with fail
    with_reducible refine (iRoundLow _ _ _ _ hd).mono ?_
    rintro e w' ⟨rfl, rfl⟩
    go_wp2_with fail
    with_reducible refine (sRoundLow _ _ _ _ hd).mono ?_
    rintro e w' ⟨rfl, rfl⟩
    go_wp2_with fail
    all_goals
      go_ret
      exact ⟨rfl, hb⟩

set_option maxHeartbeats 400000 in
theorem wFnHigh (a : Option Addr) (len cap : Nat) (z : List Int) (w : World) (h : IsRow .u8 w a len cap z) :
    Calls Try.prog 11 #[.slice a len cap] w fun e w' => e = .returned (.bool true) ∧ Below w.heap.size w w' := by
  have H := Lib.hid h; clear h
  by_cases hl : 1048576 < len
  · go_enter Try.func11, Try.ntmps11
    go_wp2_with fail
    go_ret
    exact ⟨rfl, Below.refl _ _⟩
  go_enter Try.func11, Try.ntmps11
  go_wp2_with fail
  refine (drawHigh _ _ _ _ _ H.out).mono ?_
  rintro e w1 ⟨x, b, rfl, x1, x2, b1, b2, hb⟩
  by_cases hk : okR x b ∧ x % b = 0
  · have hd0 := rhi_in hk.1 hk.2
    obtain ⟨⟨k1, k2, k3, k4⟩, hm⟩ := hk
    obtain ⟨B, rfl⟩ := Int.eq_ofNat_of_zero_le (show 0 ≤ b by omega)
    obtain ⟨d, hd⟩ : ∃ d, min 10000 (x + (B : Int) - 1) = d := ⟨_, rfl⟩
    rw [hd] at hd0
    have hd0 := Lib.hid hd0
    have d1 : 0 ≤ d := by omega
    have d2 : d ≤ 10000 := by omega
    have f1 : Hid (fnd d B x B = true) := drawn_in (by unfold okR; omega) hm (by omega) (by omega)
    have f2 : Hid (fnd (d + 1) B x B = false) := by
      by_cases t : d = 10000
      · apply fnd_false
        intro j hj e
        rw [rdw_out (fun k => by have := k.1.2.1; omega)] at e
        omega
      · exact drawn_out hm (by omega) (by omega)
    clear hm hd
    go_wp2_with fail
    with_reducible refine (iRoundHigh _ _ _ _ hd0).mono ?_
    rintro e w' ⟨rfl, rfl⟩
    go_wp2_with fail
    with_reducible refine (sRoundHigh _ _ _ _ hd0).mono ?_
    rintro e w' ⟨rfl, rfl⟩
    go_wp2_with fail
    go_loop [7, 8, 9] (fun f g i => ∃ k : Nat, k ≤ B ∧ f = .bool (fnd d B x k) ∧ g = .bool (fnd (d + 1) B x k) ∧ i = .int .i64 k) (fun _ _ i => B - (intOf i).toNat)
    case atStart => exact ⟨0, Nat.zero_le _, rfl, rfl, rfl⟩
    case round =>
      obtain ⟨k, hkB, rfl, rfl, rfl⟩ := hrel
      by_cases hlt : k < B
      · obtain ⟨v, hv⟩ : ∃ v, Hid (rdw d B k = v) := ⟨_, rfl⟩
        obtain ⟨u, hu⟩ : ∃ u, Hid (rdw (d + 1) B k = u) := ⟨_, rfl⟩
        have HS : Hid (fnd d B x (k + 1) = (fnd d B x k || (v == x))) := by show (fnd d B x k || _) = _; rw [hv.out]
        have HT : Hid (fnd (d + 1) B x (k + 1) = (fnd (d + 1) B x k || (u == x))) := by show (fnd (d + 1) B x k || _) = _; rw [hu.out]
        generalize fnd d B x k = f at *
        generalize fnd (d + 1) B x k = g at *
        cases f <;> cases g
        · go_wp2_with fail
          with_reducible refine (iRoundDraw _ _ _ _ _ hv).mono ?_
          rintro e w' ⟨rfl, rfl⟩
          go_wp2_with fail
          with_reducible refine (iRoundDraw _ _ _ _ _ hu).mono ?_
          rintro e w' ⟨rfl, rfl⟩
          go_wp2_with fail
          go_round
          case rel => exact ⟨k + 1, by omega, by rw [HS.out]; rfl, by rw [HT.out]; rfl, by go_num⟩
          case measure => simp [intOf]; omega
        · go_wp2_with fail
          with_reducible refine (iRoundDraw _ _ _ _ _ hv).mono ?_
          rintro e w' ⟨rfl, rfl⟩
          go_wp2_with fail
          go_round
          case rel => exact ⟨k + 1, by omega, by rw [HS.out]; rfl, by rw [HT.out]; rfl, by go_num⟩
          case measure => simp [intOf]; omega
        · go_wp2_with fail
          with_reducible refine (iRoundDraw _ _ _ _ _ hu).mono ?_
          rintro e w' ⟨rfl, rfl⟩
          go_wp2_with fail
          go_round
          case rel => exact ⟨k + 1, by omega, by rw [HS.out]; rfl, by rw [HT.out]; rfl, by go_num⟩
          case measure => simp [intOf]; omega
        · go_wp2_with fail
          go_round
          case rel => exact ⟨k + 1, by omega, by rw [HS.out]; rfl, by rw [HT.out]; rfl, by go_num⟩
          case measure => simp [intOf]; omega
      · obtain rfl : k = B := by omega
        have c1 := f1.out
        have c3 := f2.out
        go_wp2_with fail
        go_ret
        exact ⟨rfl, hb⟩
  · have hd := Lib.hid (rhi_out hk)
    clear hk
    go_wp2_with fail
    with_reducible refine (iRoundHigh _ _ _ _ hd).mono ?_
    rintro e w' ⟨rfl, rfl⟩
    go_wp2_with fail
    with_reducible refine (sRoundHigh _ _ _ _ hd).mono ?_
    rintro e w' ⟨rfl, rfl⟩
    go_wp2_with fail
    all_goals
      go_ret
      exact ⟨rfl, hb⟩

set_option maxHeartbeats 400000 in
theorem wFnRangeMultiple (a : Option Addr) (len cap : Nat) (z : List Int) (a1 : Option Addr) (len1 cap1 : Nat) (z1 : List Int) (w : World) (h : IsRow .u8 w a len cap z) (_ : IsRow .u8 w a1 len1 cap1 z1) :
    Calls Try.prog 9 #[.slice a len cap, .slice a1 len1 cap1] w fun e w' => e = .returned (.bool true) ∧ Below w.heap.size w w' := by
  have H := Lib.hid h; clear h
  by_cases hl : 1048576 < len
  · go_enter Try.func9, Try.ntmps9
    go_wp2_with fail
    go_ret
    exact ⟨rfl, Below.refl _ _⟩
  by_cases hl1 : 1048576 < len1
  · have d1 : decide ((1048576 : Int) < (len1 : Int)) = true := by simp; omega
    go_enter Try.func9, Try.ntmps9
    go_wp2_with fail
    go_ret
    exact ⟨rfl, Below.refl _ _⟩
  have d1 : decide ((1048576 : Int) < (len1 : Int)) = false := by simp; omega
  go_enter Try.func9, Try.ntmps9
  go_wp2_with fail
  refine (drawLow _ _ _ _ _ H.out).mono ?_
  rintro e w1 ⟨x, b, rfl, x1, x2, b1, b2, hb⟩
  by_cases hk : okR x b ∧ x % b = 0
  · have hd0 := rlo_in hk.1 hk.2
    have hh0 := rhi_in hk.1 hk.2
    obtain ⟨⟨k1, k2, k3, k4⟩, hm⟩ := hk
    obtain ⟨B, rfl⟩ := Int.eq_ofNat_of_zero_le (show 0 ≤ b by omega)
    obtain ⟨lo, hlo⟩ : ∃ lo, max 0 (x - (B : Int) + 1) = lo := ⟨_, rfl⟩
    obtain ⟨hi, hhi⟩ : ∃ hi, min 10000 (x + (B : Int) - 1) = hi := ⟨_, rfl⟩
    rw [hlo] at hd0; rw [hhi] at hh0
    have hd0 := Lib.hid hd0
    have hh0 := Lib.hid hh0
    have c0 : 0 ≤ lo := by omega
    have c1 : lo ≤ x := by omega
    have c2 : x ≤ hi := by omega
    have c3 : hi ≤ 10000 := by omega
    have m1 := Int.emod_nonneg (len1 : Int) (show hi - lo + 1 ≠ 0 by omega)
    have m2 := Int.emod_lt_of_pos (len1 : Int) (show 0 < hi - lo + 1 by omega)
    obtain ⟨t, ht⟩ : ∃ t, lo + (len1 : Int) % (hi - lo + 1) = t := ⟨_, rfl⟩
    have f1 : Hid (fnd t B x B = true) := drawn_in (by unfold okR; omega) hm (by omega) (by omega)
    have t0 : 0 ≤ t := by omega
    have t9 : t ≤ 10000 := by omega
    clear hlo hhi hm
    go_wp2_with fail
    with_reducible refine (iRoundLow _ _ _ _ hd0).mono ?_
    rintro e w' ⟨rfl, rfl⟩
    go_wp2_with fail
    with_reducible refine (sRoundLow _ _ _ _ hd0).mono ?_
    rintro e w' ⟨rfl, rfl⟩
    go_wp2_with fail
    with_reducible refine (iRoundHigh _ _ _ _ hh0).mono ?_
    rintro e w' ⟨rfl, rfl⟩
    go_wp2_with fail
    go_loop [11, 12] (fun f i => ∃ k : Nat, k ≤ B ∧ f = .bool (fnd t B x k) ∧ i = .int .i64 k) (fun _ i => B - (intOf i).toNat)
    case atStart => exact ⟨0, Nat.zero_le _, rfl, rfl⟩
    case round =>
      obtain ⟨k, hkB, rfl, rfl⟩ := hrel
      by_cases hlt : k < B
      · obtain ⟨v, hv⟩ : ∃ v, Hid (rdw t B k = v) := ⟨_, rfl⟩
        have HS : Hid (fnd t B x (k + 1) = (fnd t B x k || (v == x))) := by show (fnd t B x k || _) = _; rw [hv.out]
        generalize fnd t B x k = f at *
        cases f
        · go_wp2_with fail
          with_reducible refine (iRoundDraw _ _ _ _ _ hv).mono ?_
          rintro e w' ⟨rfl, rfl⟩
          go_wp2_with fail
          go_round
          case rel => exact ⟨k + 1, by omega, by rw [HS.out]; rfl, by go_num⟩
          case measure => simp [intOf]; omega
        · go_wp2_with fail
          go_round
          case rel => exact ⟨k + 1, by omega, by rw [HS.out]; rfl, by go_num⟩
          case measure => simp [intOf]; omega
      · obtain rfl : k = B := by omega
        have c4 := f1.out
        go_wp2_with fail
        go_ret
        exact ⟨rfl, hb⟩
  · have hd := Lib.hid (rlo_out hk)
    clear hk
    go_wp2_with fail
    with_reducible refine (iRoundLow _ _ _ _ hd).mono ?_
    rintro e w' ⟨rfl, rfl⟩
    go_wp2_with fail
    with_reducible refine (sRoundLow _ _ _ _ hd).mono ?_
    rintro e w' ⟨rfl, rfl⟩
    go_wp2_with fail
    all_goals
      go_ret
      exact ⟨rfl, hb⟩

end Go.Proofs.Ytomchjbgnccpnaa
