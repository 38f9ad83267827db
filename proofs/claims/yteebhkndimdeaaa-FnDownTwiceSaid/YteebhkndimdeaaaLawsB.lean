/- The walks of the laws on roundings whose inputs are drawn out of a code. -/
import Derived.Test.YteebhkndimdeaaaDraw3
import Derived.Test.YteebhkndimdeaaaPlain2
namespace Go.Proofs.Yteebhkndimdeaaa
open Go.RowKit

set_option maxHeartbeats 400000 in
theorem wFnDown (a : Option Addr) (len cap : Nat) (z : List Int) (w : World) (h : IsRow .u8 w a len cap z) :
    Calls Try.prog 8 #[.slice a len cap] w fun e w' => e = .returned (.bool true) ∧ Below w.heap.size w w' := by
  have H := Lib.hid h; clear h
  by_cases hl : 1048576 < len
  · go_enter Try.func8, Try.ntmps8
    go_wp2_with fail
    go_ret
    exact ⟨rfl, Below.refl _ _⟩
  go_enter Try.func8, Try.ntmps8
  go_wp2_with fail
  refine (drawDown _ _ _ _ _ H.out).mono ?_
  rintro e w1 ⟨x, b, rfl, x1, x2, b1, b2, hb⟩
  by_cases hk : okR x b
  · obtain ⟨p, hp, p0, p1, p2⟩ := split_x hk
    have hd := Lib.hid (rdn_of hk hp p1 p2)
    obtain ⟨k1, k2, k3, k4⟩ := hk
    have c1 : (p % b == 0) = true := by rw [hp]; rfl
    have c2 : decide (x - b < p) = true := by simp; omega
    clear hp
    go_wp2_with fail
    with_reducible refine (iRoundDown _ _ _ _ hd).mono ?_
    rintro e w' ⟨rfl, rfl⟩
    go_wp2_with fail
    with_reducible refine (sRoundDown _ _ _ _ hd).mono ?_
    rintro e w' ⟨rfl, rfl⟩
    go_wp2_with fail
    all_goals
      go_ret
      exact ⟨rfl, hb⟩
  · have hd := Lib.hid (rdn_out hk)
    clear hk
    go_wp2_with fail
    with_reducible refine (iRoundDown _ _ _ _ hd).mono ?_
    rintro e w' ⟨rfl, rfl⟩
    go_wp2_with fail
    with_reducible refine (sRoundDown _ _ _ _ hd).mono ?_
    rintro e w' ⟨rfl, rfl⟩
    go_wp2_with fail
    all_goals
      go_ret
      exact ⟨rfl, hb⟩

set_option maxHeartbeats 400000 in
theorem wFnDownRises (a : Option Addr) (len cap : Nat) (z : List Int) (w : World) (h : IsRow .u8 w a len cap z) :
    Calls Try.prog 9 #[.slice a len cap] w fun e w' => e = .returned (.bool true) ∧ Below w.heap.size w w' := by
  have H := Lib.hid h; clear h
  by_cases hl : 1048576 < len
  · go_enter Try.func9, Try.ntmps9
    go_wp2_with fail
    go_ret
    exact ⟨rfl, Below.refl _ _⟩
  go_enter Try.func9, Try.ntmps9
  go_wp2_with fail
  refine (drawDown _ _ _ _ _ H.out).mono ?_
  rintro e w1 ⟨x, b, rfl, x1, x2, b1, b2, hb⟩
  by_cases hk : okR x b
  · obtain ⟨p, hp, p0, p1, p2⟩ := split_x hk
    have hd := Lib.hid (rdn_of hk hp p1 p2)
    have hd3 := Lib.hid (rdn_of (x := p) (b := b) (p := p) (by unfold okR at hk ⊢; omega) hp (by omega) (by unfold okR at hk; omega))
    by_cases hx : x = 10000
    · subst hx
      obtain ⟨k1, k2, k3, k4⟩ := hk
      have hd2 := Lib.hid (rdn_out (x := 10001) (b := b) (by unfold okR; omega))
      clear hp
      go_wp2_with fail
      with_reducible refine (iRoundDown _ _ _ _ hd).mono ?_
      rintro e w' ⟨rfl, rfl⟩
      go_wp2_with fail
      with_reducible refine (sRoundDown _ _ _ _ hd).mono ?_
      rintro e w' ⟨rfl, rfl⟩
      go_wp2_with fail
      with_reducible refine (iRoundDown _ _ _ _ hd2).mono ?_
      rintro e w' ⟨rfl, rfl⟩
      go_wp2_with fail
      with_reducible refine (iRoundDown _ _ _ _ hd3).mono ?_
      rintro e w' ⟨rfl, rfl⟩
      go_wp2_with fail
      all_goals
        go_ret
        exact ⟨rfl, hb⟩
    · have hx2 : x < 10000 := by unfold okR at hk; omega
      have cx : (x == 10000) = false := by simp; omega
      obtain ⟨p', hp', q1, q2, q3⟩ := next_mul hp p1 p2
      have hd2 := Lib.hid (rdn_of (x := x + 1) (b := b) (p := p') (by unfold okR at hk ⊢; omega) hp' q1 q2)
      obtain ⟨k1, k2, k3, k4⟩ := hk
      have c1 : p ≤ p' := by omega
      have c2 : p' ≤ p + b := by omega
      have c3 : decide (p' ≤ p + b) = true := by simp; omega
      clear hp hp' q3 hx
      go_wp2_with fail
      with_reducible refine (iRoundDown _ _ _ _ hd).mono ?_
      rintro e w' ⟨rfl, rfl⟩
      go_wp2_with fail
      with_reducible refine (sRoundDown _ _ _ _ hd).mono ?_
      rintro e w' ⟨rfl, rfl⟩
      go_wp2_with fail
      with_reducible refine (iRoundDown _ _ _ _ hd2).mono ?_
      rintro e w' ⟨rfl, rfl⟩
      go_wp2_with fail
      with_reducible refine (iRoundDown _ _ _ _ hd3).mono ?_
      rintro e w' ⟨rfl, rfl⟩
      go_wp2_with fail
      all_goals
        go_ret
        exact ⟨rfl, hb⟩
  · have hd := Lib.hid (rdn_out hk)
    clear hk
    go_wp2_with fail
    with_reducible refine (iRoundDown _ _ _ _ hd).mono ?_
    rintro e w' ⟨rfl, rfl⟩
    go_wp2_with fail
    with_reducible refine (sRoundDown _ _ _ _ hd).mono ?_
    rintro e w' ⟨rfl, rfl⟩
    go_wp2_with fail
    all_goals
      go_ret
      exact ⟨rfl, hb⟩

set_option maxHeartbeats 400000 in
theorem wFnDownTwice (a : Option Addr) (len cap : Nat) (z : List Int) (w : World) (h : IsRow .u8 w a len cap z) :
    Calls Try.prog 10 #[.slice a len cap] w fun e w' => e = .returned (.bool true) ∧ Below w.heap.size w w' := by
  have H := Lib.hid h; clear h
  by_cases hl : 1048576 < len
  · go_enter Try.func10, Try.ntmps10
    go_wp2_with fail
    go_ret
    exact ⟨rfl, Below.refl _ _⟩
  go_enter Try.func10, Try.ntmps10
  go_wp2_with fail
  refine (drawDown _ _ _ _ _ H.out).mono ?_
  rintro e w1 ⟨x, b, rfl, x1, x2, b1, b2, hb⟩
  by_cases hk : okR x b
  · obtain ⟨p, hp, p0, p1, p2⟩ := split_x hk
    have hd := Lib.hid (rdn_of hk hp p1 p2)
    by_cases hB : 20 < 2 * b
    · obtain ⟨k1, k2, k3, k4⟩ := hk
      have c1 : decide (p ≤ x) = true := by simp; omega
      clear hp
      go_wp2_with fail
      with_reducible refine (iRoundDown _ _ _ _ hd).mono ?_
      rintro e w' ⟨rfl, rfl⟩
      go_wp2_with fail
      with_reducible refine (sRoundDown _ _ _ _ hd).mono ?_
      rintro e w' ⟨rfl, rfl⟩
      go_wp2_with fail
      all_goals
        go_ret
        exact ⟨rfl, hb⟩
    · have hk2 : okR x (2 * b) := by unfold okR at hk ⊢; omega
      obtain ⟨y, hy, y0, y1, y2⟩ := split_x hk2
      have hyb := mul_half hy
      have hpy : p = y ∨ p = y + b := by
        by_cases h : x < y + b
        · exact Or.inl (mul_one hp hyb p1 p2 y1 h)
        · exact Or.inr (mul_one hp (mul_up hyb) p1 p2 (by omega) (by omega))
      have hd2 := Lib.hid (rdn_of hk2 hy y1 y2)
      obtain ⟨k1, k2, k3, k4⟩ := hk
      have hd3 := Lib.hid (rdn_of (x := p) (b := 2 * b) (p := y) (by unfold okR; omega) hy (by omega) (by omega))
      have hd4 := Lib.hid (rdn_of (x := y) (b := b) (p := y) (by unfold okR; omega) hyb (by omega) (by omega))
      have c1 : y ≤ p := by omega
      have c2 : p - y ≤ b := by omega
      have c3 : decide (p - y ≤ b) = true := by simp; omega
      clear hp hy hyb hpy
      go_wp2_with fail
      with_reducible refine (iRoundDown _ _ _ _ hd).mono ?_
      rintro e w' ⟨rfl, rfl⟩
      go_wp2_with fail
      with_reducible refine (sRoundDown _ _ _ _ hd).mono ?_
      rintro e w' ⟨rfl, rfl⟩
      go_wp2_with fail
      with_reducible refine (iRoundDown _ _ _ _ hd2).mono ?_
      rintro e w' ⟨rfl, rfl⟩
      go_wp2_with fail
      with_reducible refine (iRoundDown _ _ _ _ hd3).mono ?_
      rintro e w' ⟨rfl, rfl⟩
      go_wp2_with fail
      with_reducible refine (iRoundDown _ _ _ _ hd4).mono ?_
      rintro e w' ⟨rfl, rfl⟩
      go_wp2_with fail
      all_goals
        go_ret
        exact ⟨rfl, hb⟩
  · have hd := Lib.hid (rdn_out hk)
    clear hk
    go_wp2_with fail
    with_reducible refine (iRoundDown _ _ _ _ hd).mono ?_
    rintro e w' ⟨rfl, rfl⟩
    go_wp2_with fail
    with_reducible refine (sRoundDown _ _ _ _ hd).mono ?_
    rintro e w' ⟨rfl, rfl⟩
    go_wp2_with fail
    all_goals
      go_ret
      exact ⟨rfl, hb⟩

set_option maxHeartbeats 400000 in
theorem wFnNear (a : Option Addr) (len cap : Nat) (z : List Int) (w : World) (h : IsRow .u8 w a len cap z) :
    Calls Try.prog 11 #[.slice a len cap] w fun e w' => e = .returned (.bool true) ∧ Below w.heap.size w w' := by
  have H := Lib.hid h; clear h
  by_cases hl : 1048576 < len
  · go_enter Try.func11, Try.ntmps11
    go_wp2_with fail
    go_ret
    exact ⟨rfl, Below.refl _ _⟩
  go_enter Try.func11, Try.ntmps11
  go_wp2_with fail
  refine (drawNear _ _ _ _ _ H.out).mono ?_
  rintro e w1 ⟨x, b, rfl, x1, x2, b1, b2, hb⟩
  by_cases hk : okR x b
  · obtain ⟨p, hp, p0, p1, p2⟩ := split_x hk
    have hp' := mul_up hp
    by_cases hu : 2 * (x - p) < b
    · have hd := Lib.hid (rnr_of1 hk hp p1 p2 hu)
      obtain ⟨k1, k2, k3, k4⟩ := hk
      have c1 : (p % b == 0) = true := by rw [hp]; rfl
      clear hp hp'
      go_wp2_with fail
      with_reducible refine (iRoundNear _ _ _ _ hd).mono ?_
      rintro e w' ⟨rfl, rfl⟩
      go_wp2_with fail
      with_reducible refine (sRoundNear _ _ _ _ hd).mono ?_
      rintro e w' ⟨rfl, rfl⟩
      go_wp2_with fail
      all_goals
        go_ret
        exact ⟨rfl, hb⟩
    · have hd := Lib.hid (rnr_of2 hk hp p1 p2 (by omega))
      obtain ⟨k1, k2, k3, k4⟩ := hk
      have c1 : (p % b == 0) = true := by rw [hp]; rfl
      have c2 : decide (x < p + b) = true := by simp; omega
      clear hp hp'
      go_wp2_with fail
      with_reducible refine (iRoundNear _ _ _ _ hd).mono ?_
      rintro e w' ⟨rfl, rfl⟩
      go_wp2_with fail
      with_reducible refine (sRoundNear _ _ _ _ hd).mono ?_
      rintro e w' ⟨rfl, rfl⟩
      go_wp2_with fail
      all_goals
        go_ret
        exact ⟨rfl, hb⟩
  · have hd := Lib.hid (rnr_out hk)
    clear hk
    go_wp2_with fail
    with_reducible refine (iRoundNear _ _ _ _ hd).mono ?_
    rintro e w' ⟨rfl, rfl⟩
    go_wp2_with fail
    with_reducible refine (sRoundNear _ _ _ _ hd).mono ?_
    rintro e w' ⟨rfl, rfl⟩
    go_wp2_with fail
    all_goals
      go_ret
      exact ⟨rfl, hb⟩

set_option maxHeartbeats 400000 in
theorem wFnNearDown (a : Option Addr) (len cap : Nat) (z : List Int) (w : World) (h : IsRow .u8 w a len cap z) :
    Calls Try.prog 12 #[.slice a len cap] w fun e w' => e = .returned (.bool true) ∧ Below w.heap.size w w' := by
  have H := Lib.hid h; clear h
  by_cases hl : 1048576 < len
  · go_enter Try.func12, Try.ntmps12
    go_wp2_with fail
    go_ret
    exact ⟨rfl, Below.refl _ _⟩
  go_enter Try.func12, Try.ntmps12
  go_wp2_with fail
  refine (drawNear _ _ _ _ _ H.out).mono ?_
  rintro e w1 ⟨x, b, rfl, x1, x2, b1, b2, hb⟩
  by_cases hk : okR x b
  · obtain ⟨p, hp, p0, p1, p2⟩ := split_x hk
    have hm := mod_at hp p1 p2
    have hd1 := Lib.hid (rdn_of hk hp p1 p2)
    by_cases hu : 2 * (x - p) < b
    · have hd := Lib.hid (rnr_of1 hk hp p1 p2 hu)
      obtain ⟨k1, k2, k3, k4⟩ := hk
      clear hp
      by_cases hxp : x = p
      · subst hxp
        have c1 : (x % b != 0) = false := by rw [hm]; simp
        clear hm
        go_wp2_with fail
        with_reducible refine (iRoundNear _ _ _ _ hd).mono ?_
        rintro e w' ⟨rfl, rfl⟩
        go_wp2_with fail
        with_reducible refine (sRoundNear _ _ _ _ hd).mono ?_
        rintro e w' ⟨rfl, rfl⟩
        go_wp2_with fail
        with_reducible refine (iRoundDown _ _ _ _ hd1).mono ?_
        rintro e w' ⟨rfl, rfl⟩
        go_wp2_with fail
        all_goals
          go_ret
          exact ⟨rfl, hb⟩
      · have c1 : (x % b != 0) = true := by rw [hm]; simp; omega
        clear hm
        go_wp2_with fail
        with_reducible refine (iRoundNear _ _ _ _ hd).mono ?_
        rintro e w' ⟨rfl, rfl⟩
        go_wp2_with fail
        with_reducible refine (sRoundNear _ _ _ _ hd).mono ?_
        rintro e w' ⟨rfl, rfl⟩
        go_wp2_with fail
        with_reducible refine (iRoundDown _ _ _ _ hd1).mono ?_
        rintro e w' ⟨rfl, rfl⟩
        go_wp2_with fail
        all_goals
          go_ret
          exact ⟨rfl, hb⟩
    · have hd := Lib.hid (rnr_of2 hk hp p1 p2 (by omega))
      obtain ⟨k1, k2, k3, k4⟩ := hk
      have c1 : (x % b != 0) = true := by rw [hm]; simp; omega
      have c2 : (p + b == p) = false := by simp; omega
      clear hm hp
      go_wp2_with fail
      with_reducible refine (iRoundNear _ _ _ _ hd).mono ?_
      rintro e w' ⟨rfl, rfl⟩
      go_wp2_with fail
      with_reducible refine (sRoundNear _ _ _ _ hd).mono ?_
      rintro e w' ⟨rfl, rfl⟩
      go_wp2_with fail
      with_reducible refine (iRoundDown _ _ _ _ hd1).mono ?_
      rintro e w' ⟨rfl, rfl⟩
      go_wp2_with fail
      all_goals
        go_ret
        exact ⟨rfl, hb⟩
  · have hd := Lib.hid (rnr_out hk)
    clear hk
    go_wp2_with fail
    with_reducible refine (iRoundNear _ _ _ _ hd).mono ?_
    rintro e w' ⟨rfl, rfl⟩
    go_wp2_with fail
    with_reducible refine (sRoundNear _ _ _ _ hd).mono ?_
    rintro e w' ⟨rfl, rfl⟩
    go_wp2_with fail
    all_goals
      go_ret
      exact ⟨rfl, hb⟩

set_option maxHeartbeats 400000 in
theorem wFnNearRises (a : Option Addr) (len cap : Nat) (z : List Int) (w : World) (h : IsRow .u8 w a len cap z) :
    Calls Try.prog 13 #[.slice a len cap] w fun e w' => e = .returned (.bool true) ∧ Below w.heap.size w w' := by
  have H := Lib.hid h; clear h
  by_cases hl : 1048576 < len
  · go_enter Try.func13, Try.ntmps13
    go_wp2_with fail
    go_ret
    exact ⟨rfl, Below.refl _ _⟩
  go_enter Try.func13, Try.ntmps13
  go_wp2_with fail
  refine (drawNear _ _ _ _ _ H.out).mono ?_
  rintro e w1 ⟨x, b, rfl, x1, x2, b1, b2, hb⟩
  by_cases hk : okR x b
  · obtain ⟨d, d2, f, hd, hd2, hf, g1, g2, g3⟩ := near_rises hk
    have hdb := rnr_bd x b hk
    rw [hd] at hdb
    obtain ⟨hdb1, hdb2⟩ := hdb
    obtain ⟨k1, k2, k3, k4⟩ := hk
    have HD := Lib.hid hd; have HD2 := Lib.hid hd2; have HF := Lib.hid hf
    clear hd hd2 hf
    by_cases hx : x = 10000
    · subst hx
      obtain rfl : d2 = -1 := g2 rfl
      have HD2 : Hid (rnr 10001 b = -1) := HD2.out
      clear g1 g2
      by_cases hh : 10000 < 10000 + b / 2
      · clear g3
        go_wp2_with fail
        with_reducible refine (iRoundNear _ _ _ _ HD).mono ?_
        rintro e w' ⟨rfl, rfl⟩
        go_wp2_with fail
        with_reducible refine (sRoundNear _ _ _ _ HD).mono ?_
        rintro e w' ⟨rfl, rfl⟩
        go_wp2_with fail
        with_reducible refine (iRoundNear _ _ _ _ HD2).mono ?_
        rintro e w' ⟨rfl, rfl⟩
        go_wp2_with fail
        all_goals
          go_ret
          exact ⟨rfl, hb⟩
      · omega
    · have hx2 : x < 10000 := by omega
      have cx : (x == 10000) = false := by simp; omega
      have g1' := g1 hx2
      clear g1 g2 hx
      by_cases hh : 10000 < x + b / 2
      · clear g3
        go_wp2_with fail
        with_reducible refine (iRoundNear _ _ _ _ HD).mono ?_
        rintro e w' ⟨rfl, rfl⟩
        go_wp2_with fail
        with_reducible refine (sRoundNear _ _ _ _ HD).mono ?_
        rintro e w' ⟨rfl, rfl⟩
        go_wp2_with fail
        with_reducible refine (iRoundNear _ _ _ _ HD2).mono ?_
        rintro e w' ⟨rfl, rfl⟩
        go_wp2_with fail
        all_goals
          go_ret
          exact ⟨rfl, hb⟩
      · rcases g3 (by omega) with g | g
        · subst g
          go_wp2_with fail
          with_reducible refine (iRoundNear _ _ _ _ HD).mono ?_
          rintro e w' ⟨rfl, rfl⟩
          go_wp2_with fail
          with_reducible refine (sRoundNear _ _ _ _ HD).mono ?_
          rintro e w' ⟨rfl, rfl⟩
          go_wp2_with fail
          with_reducible refine (iRoundNear _ _ _ _ HD2).mono ?_
          rintro e w' ⟨rfl, rfl⟩
          go_wp2_with fail
          with_reducible refine (iRoundDown _ _ _ _ HF).mono ?_
          rintro e w' ⟨rfl, rfl⟩
          go_wp2_with fail
          all_goals
            go_ret
            exact ⟨rfl, hb⟩
        · have c1 : (b % 2 == 1) = true := by rw [g]; rfl
          clear g g3
          by_cases hfd : f = d
          · subst hfd
            go_wp2_with fail
            with_reducible refine (iRoundNear _ _ _ _ HD).mono ?_
            rintro e w' ⟨rfl, rfl⟩
            go_wp2_with fail
            with_reducible refine (sRoundNear _ _ _ _ HD).mono ?_
            rintro e w' ⟨rfl, rfl⟩
            go_wp2_with fail
            with_reducible refine (iRoundNear _ _ _ _ HD2).mono ?_
            rintro e w' ⟨rfl, rfl⟩
            go_wp2_with fail
            with_reducible refine (iRoundDown _ _ _ _ HF).mono ?_
            rintro e w' ⟨rfl, rfl⟩
            go_wp2_with fail
            all_goals
              go_ret
              exact ⟨rfl, hb⟩
          · have c2 : (f == d) = false := by simp; omega
            clear hfd
            go_wp2_with fail
            with_reducible refine (iRoundNear _ _ _ _ HD).mono ?_
            rintro e w' ⟨rfl, rfl⟩
            go_wp2_with fail
            with_reducible refine (sRoundNear _ _ _ _ HD).mono ?_
            rintro e w' ⟨rfl, rfl⟩
            go_wp2_with fail
            with_reducible refine (iRoundNear _ _ _ _ HD2).mono ?_
            rintro e w' ⟨rfl, rfl⟩
            go_wp2_with fail
            with_reducible refine (iRoundDown _ _ _ _ HF).mono ?_
            rintro e w' ⟨rfl, rfl⟩
            go_wp2_with fail
            all_goals
              go_ret
              exact ⟨rfl, hb⟩
  · have hd := Lib.hid (rnr_out hk)
    clear hk
    go_wp2_with fail
    with_reducible refine (iRoundNear _ _ _ _ hd).mono ?_
    rintro e w' ⟨rfl, rfl⟩
    go_wp2_with fail
    with_reducible refine (sRoundNear _ _ _ _ hd).mono ?_
    rintro e w' ⟨rfl, rfl⟩
    go_wp2_with fail
    all_goals
      go_ret
      exact ⟨rfl, hb⟩

set_option maxHeartbeats 400000 in
theorem wFnDownAdd (a : Option Addr) (len cap : Nat) (z : List Int) (a1 : Option Addr) (len1 cap1 : Nat) (z1 : List Int) (w : World) (h : IsRow .u8 w a len cap z) (_ : IsRow .u8 w a1 len1 cap1 z1) :
    Calls Try.prog 14 #[.slice a len cap, .slice a1 len1 cap1] w fun e w' => e = .returned (.bool true) ∧ Below w.heap.size w w' := by
  have H := Lib.hid h; clear h
  by_cases hl : 1048576 < len
  · go_enter Try.func14, Try.ntmps14
    go_wp2_with fail
    go_ret
    exact ⟨rfl, Below.refl _ _⟩
  by_cases hl1 : 1048576 < len1
  · have d1 : decide ((1048576 : Int) < (len1 : Int)) = true := by simp; omega
    go_enter Try.func14, Try.ntmps14
    go_wp2_with fail
    go_ret
    exact ⟨rfl, Below.refl _ _⟩
  have d1 : decide ((1048576 : Int) < (len1 : Int)) = false := by simp; omega
  go_enter Try.func14, Try.ntmps14
  go_wp2_with fail
  refine (drawDown _ _ _ _ _ H.out).mono ?_
  rintro e w1 ⟨x, b, rfl, x1, x2, b1, b2, hb⟩
  by_cases hk : okR x b
  · obtain ⟨p, hp, p0, p1, p2⟩ := split_x hk
    have hd := Lib.hid (rdn_of hk hp p1 p2)
    have lt0 : 0 ≤ (len1 : Int) % b := Int.emod_nonneg _ (by omega)
    have lt1 : (len1 : Int) % b < b := Int.emod_lt_of_pos _ (by omega)
    by_cases hB : 10000 < x + b
    · obtain ⟨k1, k2, k3, k4⟩ := hk
      have c1 : decide (0 ≤ p) = true := by simp; omega
      clear hp
      go_wp2_with fail
      with_reducible refine (iRoundDown _ _ _ _ hd).mono ?_
      rintro e w' ⟨rfl, rfl⟩
      go_wp2_with fail
      with_reducible refine (sRoundDown _ _ _ _ hd).mono ?_
      rintro e w' ⟨rfl, rfl⟩
      go_wp2_with fail
      all_goals
        go_ret
        exact ⟨rfl, hb⟩
    · have hk2 : okR (x + b) b := by unfold okR at hk ⊢; omega
      have hd2 := Lib.hid (rdn_of hk2 (mul_up hp) (by omega) (by omega))
      obtain ⟨n, hn, hn2⟩ : ∃ n, Hid (rnr x b = n) ∧ Hid (rnr (x + b) b = n + b) ∧ True := by
        by_cases hu : 2 * (x - p) < b
        · exact ⟨p, rnr_of1 hk hp p1 p2 hu, rnr_of1 hk2 (mul_up hp) (by omega) (by omega) (by omega), trivial⟩
        · exact ⟨p + b, rnr_of2 hk hp p1 p2 (by omega), rnr_of2 hk2 (mul_up hp) (by omega) (by omega) (by omega), trivial⟩
      obtain ⟨hn2, _⟩ := hn2
      obtain ⟨m, hm, hm2⟩ : ∃ m, Hid (rdw x b ((len1 : Int) % b) = m) ∧ Hid (rdw (x + b) b ((len1 : Int) % b) = m + b) ∧ (0 ≤ m ∧ m ≤ x + b) := by
        by_cases hu : x - p ≤ (len1 : Int) % b
        · exact ⟨p, rdw_of1 hk hp p1 p2 lt0 lt1 hu, rdw_of1 hk2 (mul_up hp) (by omega) (by omega) lt0 lt1 (by omega), by omega, by omega⟩
        · exact ⟨p + b, rdw_of2 hk hp p1 p2 lt0 lt1 (by omega), rdw_of2 hk2 (mul_up hp) (by omega) (by omega) lt0 lt1 (by omega), by omega, by omega⟩
      obtain ⟨hm2, hm3, hm4⟩ := hm2
      have hn3 : 0 ≤ n ∧ n ≤ x + b := by have := hn.out; have := rnr_bd x b hk; omega
      obtain ⟨hn4, hn5⟩ := hn3
      obtain ⟨k1, k2, k3, k4⟩ := hk
      clear hp
      go_wp2_with fail
      with_reducible refine (iRoundDown _ _ _ _ hd).mono ?_
      rintro e w' ⟨rfl, rfl⟩
      go_wp2_with fail
      with_reducible refine (sRoundDown _ _ _ _ hd).mono ?_
      rintro e w' ⟨rfl, rfl⟩
      go_wp2_with fail
      with_reducible refine (iRoundDown _ _ _ _ hd2).mono ?_
      rintro e w' ⟨rfl, rfl⟩
      go_wp2_with fail
      with_reducible refine (iRoundNear _ _ _ _ hn2).mono ?_
      rintro e w' ⟨rfl, rfl⟩
      go_wp2_with fail
      with_reducible refine (iRoundNear _ _ _ _ hn).mono ?_
      rintro e w' ⟨rfl, rfl⟩
      go_wp2_with fail
      with_reducible refine (iRoundDraw _ _ _ _ _ hm2).mono ?_
      rintro e w' ⟨rfl, rfl⟩
      go_wp2_with fail
      with_reducible refine (iRoundDraw _ _ _ _ _ hm).mono ?_
      rintro e w' ⟨rfl, rfl⟩
      go_wp2_with fail
      all_goals
        go_ret
        exact ⟨rfl, hb⟩
  · have hd := Lib.hid (rdn_out hk)
    clear hk
    go_wp2_with fail
    with_reducible refine (iRoundDown _ _ _ _ hd).mono ?_
    rintro e w' ⟨rfl, rfl⟩
    go_wp2_with fail
    with_reducible refine (sRoundDown _ _ _ _ hd).mono ?_
    rintro e w' ⟨rfl, rfl⟩
    go_wp2_with fail
    all_goals
      go_ret
      exact ⟨rfl, hb⟩

end Go.Proofs.Yteebhkndimdeaaa
