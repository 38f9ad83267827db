/- The walk of the law: one row is rounded so that the sum is near. -/
import Derived.Test.YtnkgbgeffpeolaaOne
namespace Go.Proofs.Ytnkgbgeffpeolaa
open Go.RowKit

theorem aL_bd : ∀ n : Nat, n < 5 → ∀ i : Nat, i < 5 → 0 ≤ aL (n : Int) i ∧ aL (n : Int) i ≤ 10 ∧ -100 ≤ aL (n : Int) i * ((n : Int) - (i : Int)) ∧ aL (n : Int) i * ((n : Int) - (i : Int)) ≤ 100 := by decide
theorem aL_div : ∀ n : Nat, n < 5 → ∀ i : Nat, i < 5 → -100 ≤ (aL (n : Int) i * ((n : Int) - (i : Int))).tdiv ((i : Int) + 1) ∧ (aL (n : Int) i * ((n : Int) - (i : Int))).tdiv ((i : Int) + 1) ≤ 100 := by decide
theorem aL_succ (n : Int) (i : Nat) : aL n (i + 1) = (aL n i * (n - (i : Int))).tdiv ((i : Int) + 1) := rfl

set_option maxRecDepth 100000 in
set_option maxHeartbeats 4000000 in
theorem wFnControlOne (a : Option Addr) (len cap : Nat) (z : List Int) (w : World) (h : IsRow .u8 w a len cap z) :
    Calls Try.prog 4 #[.slice a len cap] w fun e w' => e = .returned (.bool true) ∧ Below w.heap.size w w' := by
  have H := Lib.hid h; clear h
  by_cases hl : 1048576 < len
  · go_enter Try.func4, Try.ntmps4
    go_wp2_with fail
    go_ret
    exact ⟨rfl, Below.refl _ _⟩
  go_enter Try.func4, Try.ntmps4
  go_wp2_with fail
  refine (drawControlMany _ _ _ _ _ H.out).mono ?_
  rintro e w1 ⟨g, cp, t, us, b, rfl, ho, hd, hb1, hb2, bl1⟩
  have LD := Lib.hid (lensD hd.out)
  go_wp2_with fail
  with_reducible refine (iControlMany _ _ _ t b ho.out.ints LD.out).mono ?_
  rintro e w2 ⟨rfl, bl2⟩
  obtain ⟨m, hm⟩ : ∃ m, manyR t b = m := ⟨_, rfl⟩
  rw [hm]
  go_wp2_with fail
  with_reducible refine (sControlMany _ _ _ t b (ho.out.ints.below bl2) LD.out).mono ?_
  rintro e w3 ⟨rfl, bl3⟩
  rw [hm]
  have B3 := Lib.hid (bl2.trans (bl3.mono bl2.size))
  have HO3 := Lib.hid (ho.out.below B3.out).ints
  clear bl2 bl3 ho
  by_cases hs : small t b
  · have hm0 : 0 ≤ m := by rw [← hm]; exact many_big hs
    have hl0 : 1 ≤ t.length := hs.1.1
    have hw0 : 1 ≤ wid t 0 := hs.1.2.2.1
    have hw4 : wid t 0 ≤ 4 := hs.1.2.2.2.1
    have hbb : 2 ≤ b := hs.2.2.1
    have hb20 : b ≤ 20 := hs.2.2.2
    have hbz : b ≠ 0 := by omega
    have HTK := Lib.hid hs.1
    have hmc : m = (cntR t b : Int) := by rw [← hm]; unfold manyR; rw [if_pos hs]
    have hm1 : 1 ≤ m := by have := cnt_pos hs.1 hbb hb20; omega
    have HMC := Lib.hid hmc
    clear hm hs hmc
    by_cases h1 : t.length = 1
    · have c1 : ((t.length : Int) != 1) = false := by simp [h1]
      have H1 := Lib.hid h1
      have p0 : 0 < t.length := by omega
      have p0i : (0 : Int) < (t.length : Int) := by omega
      obtain ⟨b', o', tb2, to2, tci, hq0, _, hr1, _⟩ := HO3.out.at (i := 0) (j := 0) (by omega) (by omega)
      cases hq0
      rw [Nat.add_zero] at hr1
      clear h1
      go_wp2_with fail
      go_loop [7, 8, 9] (fun x s j => ∃ q : Nat, q ≤ wid t 0 ∧ j = .int .i64 q ∧ x = .int .i64 (oddN t b q 0 : Int) ∧ s = .int .i64 (remS t b q)) (fun _ _ j => wid t 0 - (intOf j).toNat)
      case atStart => exact ⟨0, Nat.zero_le _, rfl, rfl, rfl⟩
      case round =>
        obtain ⟨q, hq, rfl, rfl, rfl⟩ := hrel
        have hRb := remS_bd (t := t) hbb q hq
        have hOb := oddN_le t b q 0
        have hR2 : remS t b q ≤ 100 := by
          have : (b - 1) * (oddN t b q 0 : Int) ≤ 19 * 4 := Int.mul_le_mul (by omega) (by omega) (by omega) (by omega)
          omega
        obtain ⟨hR1, _, _⟩ := hRb
        by_cases hqlt : q < wid t 0
        · obtain ⟨b', o', tb3, to3, tci3, hq0, _, hr3, hr2⟩ := HO3.out.at (i := 0) (j := q) (by omega) hqlt
          cases hq0
          rw [Nat.add_zero, hr1] at hr3
          cases hr3
          obtain ⟨c, hce⟩ : ∃ c, cel t 0 q = c := ⟨_, rfl⟩
          have hcb : 0 ≤ c ∧ c ≤ 99 := by rw [← hce]; exact (HTK.out.2.2.2.2 0 (by omega)).2 q hqlt
          obtain ⟨r, hre⟩ : ∃ r, c % b = r := ⟨_, rfl⟩
          have hrb : 0 ≤ r ∧ r < b := by rw [← hre]; exact ⟨Int.emod_nonneg _ (by omega), Int.emod_lt_of_pos _ (by omega)⟩
          have mm : c.tmod b = r := by rw [Int.tmod_eq_emod_of_nonneg hcb.1]; exact hre
          have hdn : dn b c = c - r := by rw [← hre]; rfl
          have hodd := oddN_row (t := t) b hqlt
          have hrs : remS t b (q + 1) = remS t b q + r := by
            show remS t b q + cel t 0 q % b = _
            rw [hce, hre]
          rw [hce, hdn] at hodd
          rw [hce] at hr2
          have HRS := Lib.hid hrs
          have qi : (q : Int) < (wid t 0 : Int) := by omega
          by_cases hr0 : r = 0
          · have cr : (r != 0) = false := by simp [hr0]
            have HN : Hid (oddN t b (q + 1) 0 = oddN t b q 0) := by unfold Hid; rw [hodd, if_pos (by omega)]; rfl
            clear hce hre hdn hr0 hodd hrs
            generalize oddN t b q 0 = nq at *
            generalize remS t b q = rq at *
            go_wp2_with fail
            go_round
            case rel => exact ⟨q + 1, by omega, by go_num, by rw [HN.out], by rw [HRS.out]⟩
            case measure => simp [intOf]; omega
          · have cr : (r != 0) = true := by simp [hr0]
            have HN : Hid (oddN t b (q + 1) 0 = oddN t b q 0 + 1) := by unfold Hid; rw [hodd, if_neg (by omega)]
            clear hce hre hdn hr0 hodd hrs
            generalize oddN t b q 0 = nq at *
            generalize remS t b q = rq at *
            go_wp2_with fail
            go_round
            case rel => exact ⟨q + 1, by omega, by go_num, by rw [HN.out]; go_num, by rw [HRS.out]⟩
            case measure => simp [intOf]; omega
        · have hqe : q = wid t 0 := by omega
          subst hqe
          obtain ⟨k, hk⟩ : ∃ k : Nat, remS t b (wid t 0) / b = (k : Int) := ⟨(remS t b (wid t 0) / b).toNat, (Int.toNat_of_nonneg (Int.ediv_nonneg hR1 (by omega))).symm⟩
          obtain ⟨n, hn⟩ : ∃ n, oddN t b (wid t 0) 0 = n := ⟨_, rfl⟩
          obtain ⟨hcnt, hn5, hkn⟩ := one_cnt H1.out HTK.out hbb hn hk
          rw [← HMC.out] at hcnt
          have tk : (remS t b (wid t 0)).tdiv b = (k : Int) := by rw [Int.tdiv_eq_ediv_of_nonneg hR1]; exact hk
          have tr : (remS t b (wid t 0)).tmod b = remS t b (wid t 0) % b := Int.tmod_eq_emod_of_nonneg hR1
          have HCNT := Lib.hid hcnt
          rw [hn]
          clear hn hcnt
          generalize remS t b (wid t 0) = R at *
          go_wp2_with fail
          go_loop [11, 12] (fun x i => ∃ i' : Nat, i' ≤ k ∧ i = .int .i64 i' ∧ x = .int .i64 (aL (n : Int) i')) (fun _ i => k - (intOf i).toNat)
          case atStart => exact ⟨0, Nat.zero_le _, rfl, rfl⟩
          case round =>
            obtain ⟨i, hi, rfl, rfl⟩ := hrel
            have a1 := aL_bd n hn5 i (by omega)
            have a2 := aL_div n hn5 i (by omega)
            by_cases hik : i < k
            · have HS := Lib.hid (aL_succ (n : Int) i)
              obtain ⟨M, hM⟩ : ∃ M, aL (n : Int) i * ((n : Int) - (i : Int)) = M := ⟨_, rfl⟩
              rw [hM] at a1 a2
              have hdz : (i : Int) + 1 ≠ 0 := by omega
              obtain ⟨A, hA⟩ : ∃ A, aL (n : Int) i = A := ⟨_, rfl⟩
              rw [hA] at a1 hM ⊢
              rw [hA, hM] at HS
              have ki : (i : Int) < (k : Int) := by omega
              clear hA
              go_wp2_with fail
              go_round
              case rel => exact ⟨i + 1, by omega, by go_num, by rw [HS.out]⟩
              case measure => simp [intOf]; omega
            · obtain rfl : i = k := by omega
              obtain ⟨M, hM⟩ : ∃ M, aL (n : Int) i * ((n : Int) - (i : Int)) = M := ⟨_, rfl⟩
              have hone : oneR n i (decide (R % b ≠ 0)) = if R % b ≠ 0 then aL (n : Int) i + M.tdiv ((i : Int) + 1) else aL (n : Int) i := by
                unfold oneR; rw [hM]; by_cases c : R % b ≠ 0 <;> simp [c]
              rw [hM] at a1 a2
              have hdz : (i : Int) + 1 ≠ 0 := by omega
              have HC2 : Hid (m = if R % b ≠ 0 then aL (n : Int) i + M.tdiv ((i : Int) + 1) else aL (n : Int) i) := by unfold Hid; rw [HCNT.out, hone]
              obtain ⟨A, hA⟩ : ∃ A, aL (n : Int) i = A := ⟨_, rfl⟩
              rw [hA] at a1 hM ⊢
              rw [hA] at HC2
              clear hA hone HCNT
              obtain ⟨Dv, hD⟩ : ∃ D, M.tdiv ((i : Int) + 1) = D := ⟨_, rfl⟩
              rw [hD] at HC2 a2
              by_cases hr0 : R % b = 0
              · have e0 : m = A := by rw [HC2.out, if_neg (by simpa using hr0)]
                subst e0
                rw [hr0] at tr
                clear HC2 hr0
                go_wp2_with fail
                go_ret
                exact ⟨rfl, bl1.trans (B3.out.mono bl1.size)⟩
              · have e0 : m = A + Dv := by rw [HC2.out, if_pos hr0]
                have cr : (R % b == 0) = false := by simpa using hr0
                subst e0
                clear HC2 hr0
                go_wp2_with fail
                go_ret
                exact ⟨rfl, bl1.trans (B3.out.mono bl1.size)⟩
    · have c1 : ((t.length : Int) != 1) = true := by simp; omega
      have d1 : decide (0 < m) = true := by simp; omega
      clear h1
      go_wp2_with fail
      go_ret
      exact ⟨rfl, bl1.trans (B3.out.mono bl1.size)⟩
  · have hm0 : m = -1 := by rw [← hm]; exact many_small hs
    subst hm0
    clear hm hs
    go_wp2_with fail
    go_ret
    exact ⟨rfl, bl1.trans (B3.out.mono bl1.size)⟩

end Go.Proofs.Ytnkgbgeffpeolaa
