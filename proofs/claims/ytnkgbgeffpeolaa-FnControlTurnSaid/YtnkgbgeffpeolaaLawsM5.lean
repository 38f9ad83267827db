/- The walk of the law: roundings turn in number. -/
import Derived.Test.YtnkgbgeffpeolaaLawsM2
import Derived.Test.YtnkgbgeffpeolaaTurn
namespace Go.Proofs.Ytnkgbgeffpeolaa
open Go.RowKit

theorem oddN_snoc (t : List (List Int)) (b : Int) : ∀ (n p : Nat), oddN t b (n + 1) p = oddN t b n p + if cel t ((p + n) / wid t 0) ((p + n) % wid t 0) = dn b (cel t ((p + n) / wid t 0) ((p + n) % wid t 0)) then 0 else 1
  | 0, p => by unfold oddN oddN; rw [Nat.add_zero]
  | n + 1, p => by
    have := oddN_snoc t b n (p + 1)
    rw [show p + 1 + n = p + (n + 1) by omega] at this
    rw [oddN, this, oddN]; omega
theorem oddN_at {t : List (List Int)} (b : Int) {k q : Nat} (hq : q < wid t 0) : oddN t b (k * wid t 0 + q + 1) 0 = oddN t b (k * wid t 0 + q) 0 + if cel t k q = dn b (cel t k q) then 0 else 1 := by
  rw [oddN_snoc, Nat.zero_add]
  have e1 : (k * wid t 0 + q) / wid t 0 = k := by rw [Nat.add_comm, Nat.add_mul_div_right _ _ (by omega), Nat.div_eq_of_lt hq, Nat.zero_add]
  have e2 : (k * wid t 0 + q) % wid t 0 = q := by rw [Nat.add_comm, Nat.add_mul_mod_self_right, Nat.mod_eq_of_lt hq]
  rw [e1, e2]
theorem turn_small {t : List (List Int)} {b : Int} (h : small t b) : small (turnT t) b := by
  have e1 : (turnT t).length = wid t 0 := mkT_len _ _ _
  have e2 : wid (turnT t) 0 = t.length := mkT_wid (by have := h.1.2.2.1; omega)
  exact ⟨turn_ok h.1, by rw [e1, e2, Nat.mul_comm]; exact h.2.1, h.2.2⟩

set_option maxRecDepth 100000 in
set_option maxHeartbeats 4000000 in
theorem wFnControlTurn (a : Option Addr) (len cap : Nat) (z : List Int) (w : World) (h : IsRow .u8 w a len cap z) :
    Calls Try.prog 10 #[.slice a len cap] w fun e w' => e = .returned (.bool true) ∧ Below w.heap.size w w' := by
  have H := Lib.hid h; clear h
  by_cases hl : 1048576 < len
  · go_enter Try.func10, Try.ntmps10
    go_wp2_with fail
    go_ret
    exact ⟨rfl, Below.refl _ _⟩
  go_enter Try.func10, Try.ntmps10
  go_wp2_with fail
  refine (drawControlMany _ _ _ _ _ H.out).mono ?_
  rintro e w1 ⟨g, cp, t, us, b, rfl, ho, hd, hb1, hb2, bl1⟩
  have LD := Lib.hid (lensD hd.out)
  go_wp2_with fail
  with_reducible refine (iControlMany _ _ _ t b ho.out.ints LD.out).mono ?_
  rintro e w2 ⟨rfl, bl2⟩
  obtain ⟨m, hm⟩ : ∃ m, manyR t b = m := ⟨_, rfl⟩
  rw [hm]
  go_wp2_with fail
  with_reducible refine (sControlMany _ _ _ t b (ho.out.ints.below bl2) LD.out).mono ?_
  rintro e w3 ⟨rfl, bl3⟩
  rw [hm]
  have B3 := Lib.hid (bl2.trans (bl3.mono bl2.size))
  have HO3 := Lib.hid (ho.out.below B3.out)
  clear bl2 bl3 ho
  by_cases hs : small t b
  · have hm0 : 0 ≤ m := by rw [← hm]; exact many_big hs
    have hlt := hs.1.2.1
    have hl0 : 1 ≤ t.length := hs.1.1
    have hw0 : 1 ≤ wid t 0 := hs.1.2.2.1
    have hw4 : wid t 0 ≤ 4 := hs.1.2.2.2.1
    have hbb : 2 ≤ b := hs.2.2.1
    have hb20 : b ≤ 20 := hs.2.2.2
    have hbz : b ≠ 0 := by omega
    have HTK := Lib.hid hs.1
    have HSM := Lib.hid hs
    have hmc : m = (cntR t b : Int) := by rw [← hm]; unfold manyR; rw [if_pos hs]
    have HM1 : Hid (1 ≤ m) := by unfold Hid; have := cnt_pos hs.1 hbb hb20; omega
    have HM2 : Hid (m ≤ ((2 ^ oddN t b (t.length * wid t 0) 0 : Nat) : Int)) := by unfold Hid; rw [hmc]; exact_mod_cast fill_le t b (t.length * wid t 0) 0 t
    have HMT : Hid (manyR (turnT t) b = m) := by
      unfold Hid
      rw [hmc]
      unfold manyR
      rw [if_pos (turn_small hs), cnt_turn hs.1 hbb hb20]
    have LT : Hid (lensT (turnT t)) := lens_ok (turn_ok hs.1)
    have HM := Lib.hid hm
    clear hm hs hmc
    go_wp2_with fail
    with_reducible refine (iTableTurn _ _ _ t HO3.out.ints LD.out).mono ?_
    rintro e w4 ⟨bl4, ⟨hno, _⟩ | ⟨_, gt, ct, ut, rfl, hot⟩⟩
    · exact absurd HTK.out hno
    have HOT := Lib.hid hot
    have HO4 := Lib.hid (HO3.out.ints.below bl4)
    have B4 := Lib.hid (B3.out.trans (bl4.mono B3.out.size))
    clear hot bl4
    go_wp2_with fail
    go_loop [9, 10] (fun s i => ∃ (k : Nat) (M : Nat), k ≤ t.length ∧ i = .int .i64 k ∧ s = .int .i64 (M : Int) ∧ Hid (M = 2 ^ oddN t b (k * wid t 0) 0)) (fun _ i => t.length - (intOf i).toNat)
    case atStart => exact ⟨0, 1, Nat.zero_le _, rfl, rfl, by unfold Hid; rw [Nat.zero_mul]; rfl⟩
    case round =>
      obtain ⟨k, M, hk, rfl, rfl, hM⟩ := hrel
      by_cases hlt2 : k < t.length
      · have hwk : wid t k = wid t 0 := (HTK.out.2.2.2.2 k hlt2).1
        obtain ⟨b', o', tb2, to2, tci, hq0, _, hr1, _⟩ := HO4.out.at (i := k) (j := 0) hlt2 (by omega)
        cases hq0
        rw [hwk, Nat.zero_add] at hr1
        have ki : (k : Int) < (t.length : Int) := by omega
        have HWK := Lib.hid hwk
        clear hwk
        go_wp2_with fail
        go_loop [9, 11] (fun s j => ∃ (q : Nat) (M : Nat), q ≤ wid t 0 ∧ j = .int .i64 q ∧ s = .int .i64 (M : Int) ∧ Hid (M = 2 ^ oddN t b (k * wid t 0 + q) 0)) (fun _ j => wid t 0 - (intOf j).toNat)
        case atStart => exact ⟨0, M, Nat.zero_le _, rfl, rfl, by rw [Nat.add_zero]; exact hM⟩
        case round =>
          clear hM
          obtain ⟨q, M, hq, rfl, rfl, hM⟩ := hrel
          by_cases hqlt : q < wid t 0
          · obtain ⟨b', o', tb3, to3, tci3, hq0, _, hr3, hr2⟩ := HO4.out.at (i := k) (j := q) hlt2 (by rw [HWK.out]; exact hqlt)
            cases hq0
            rw [Nat.zero_add, HWK.out] at hr3
            rw [hr1] at hr3
            cases hr3
            obtain ⟨c, hce⟩ : ∃ c, cel t k q = c := ⟨_, rfl⟩
            have hcb : 0 ≤ c ∧ c ≤ 99 := by rw [← hce]; exact (HTK.out.2.2.2.2 k hlt2).2 q hqlt
            obtain ⟨r, hre⟩ : ∃ r, c % b = r := ⟨_, rfl⟩
            have hrb : 0 ≤ r ∧ r < b := by rw [← hre]; exact ⟨Int.emod_nonneg _ (by omega), Int.emod_lt_of_pos _ (by omega)⟩
            have mm : c.tmod b = r := by rw [Int.tmod_eq_emod_of_nonneg hcb.1]; exact hre
            have hdn : dn b c = c - r := by rw [← hre]; rfl
            have hodd := oddN_at (t := t) b (k := k) hqlt
            rw [hce, hdn] at hodd
            rw [hce] at hr2
            have hMb : M ≤ 65536 := by
              rw [hM.out]
              have h2 := oddN_le t b (k * wid t 0 + q) 0
              have h4 : k * wid t 0 ≤ 3 * 4 := Nat.mul_le_mul (by omega) hw4
              exact Nat.pow_le_pow_right (show 0 < 2 by omega) (show oddN t b (k * wid t 0 + q) 0 ≤ 16 by omega)
            have qi : (q : Int) < (wid t 0 : Int) := by omega
            by_cases hr0 : r = 0
            · have cr : (r != 0) = false := by simp [hr0]
              have HN : Hid (M = 2 ^ oddN t b (k * wid t 0 + (q + 1)) 0) := by
                unfold Hid; rw [show k * wid t 0 + (q + 1) = k * wid t 0 + q + 1 by omega, hodd, if_pos (by omega), Nat.add_zero]; exact hM.out
              clear hce hre hdn hr0 hodd hM
              go_wp2_with fail
              go_round
              case rel => exact ⟨q + 1, M, by omega, by go_num, rfl, HN⟩
              case measure => simp [intOf]; omega
            · have cr : (r != 0) = true := by simp [hr0]
              have HN : Hid (2 * M = 2 ^ oddN t b (k * wid t 0 + (q + 1)) 0) := by
                unfold Hid; rw [show k * wid t 0 + (q + 1) = k * wid t 0 + q + 1 by omega, hodd, if_neg (by omega), Nat.pow_succ, hM.out]; omega
              clear hce hre hdn hr0 hodd hM
              go_wp2_with fail
              go_round
              case rel => exact ⟨q + 1, 2 * M, by omega, by go_num, by go_num, HN⟩
              case measure => simp [intOf]; omega
          · have HN : Hid (M = 2 ^ oddN t b ((k + 1) * wid t 0) 0) := by
              unfold Hid; rw [show (k + 1) * wid t 0 = k * wid t 0 + q by rw [Nat.succ_mul]; omega]; exact hM.out
            clear hM
            go_wp2_with fail
            go_round
            case rel => exact ⟨k + 1, M, by omega, by go_num, rfl, HN⟩
            case measure => simp [intOf]; omega
      · have hke : k = t.length := by omega
        subst hke
        have d1 : decide (m ≤ (M : Int)) = true := by have := HM2.out; rw [← hM.out] at this; simpa using this
        have d2 : decide ((1 : Int) ≤ m) = true := by have := HM1.out; simpa using this
        have hwt : (turnT t).length = wid t 0 := mkT_len _ _ _
        clear hM
        go_wp2_with fail
        with_reducible refine (iControlMany _ _ _ (turnT t) b HOT.out.ints LT.out).mono ?_
        rintro e w5 ⟨rfl, bl5⟩
        rw [HMT.out]
        go_wp2_with fail
        go_ret
        exact ⟨rfl, bl1.trans ((B4.out.trans (bl5.mono B4.out.size)).mono bl1.size)⟩
  · have hm0 : m = -1 := by rw [← hm]; exact many_small hs
    subst hm0
    clear hm hs
    go_wp2_with fail
    go_ret
    exact ⟨rfl, bl1.trans (B3.out.mono bl1.size)⟩

end Go.Proofs.Ytnkgbgeffpeolaa
