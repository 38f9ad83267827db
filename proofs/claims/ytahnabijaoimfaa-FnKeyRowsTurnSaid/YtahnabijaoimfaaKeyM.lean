/- Contracts of KeyMean, of the program and of the reference. -/
import Derived.Test.YtahnabijaoimfaaKeyR2
namespace Go.Proofs.Ytahnabijaoimfaa
open Go.RowKit

/-- what KeyMean returns -/
def kmean (t : List (List Int)) (n : Int) : Int := if rowsOk t ∧ 0 ≤ n ∧ n ≤ 40 then 16 * n else -1
theorem kmean_in {t : List (List Int)} {n : Int} (h : rowsOk t) (h0 : 0 ≤ n) (h1 : n ≤ 40) : kmean t n = 16 * n := if_pos ⟨h, h0, h1⟩
theorem kmean_out {t : List (List Int)} {n : Int} (h : ¬ (rowsOk t ∧ 0 ≤ n ∧ n ≤ 40)) : kmean t n = -1 := if_neg h

/-- lengths of a table's rows -/
def lensT (t : List (List Int)) : Prop := t.length ≤ 4611686018427387904 ∧ ∀ r ∈ t, r.length ≤ 4611686018427387904
theorem iKeyRows_t (w : World) (P : Nat → Prop) (v : Value) (t : List (List Int)) (h : IntSS w P v t) (hl : lensT t) (hk : rowsOk t) :
    Calls Try.prog 13 #[v] w fun e w' => e = .returned (.bool true) ∧ w = w' := by
  have := iKeyRows w P v t h hl.1 hl.2
  rw [decide_eq_true hk] at this; exact this
theorem iKeyRows_f (w : World) (P : Nat → Prop) (v : Value) (t : List (List Int)) (h : IntSS w P v t) (hl : lensT t) (hk : ¬ rowsOk t) :
    Calls Try.prog 13 #[v] w fun e w' => e = .returned (.bool false) ∧ w = w' := by
  have := iKeyRows w P v t h hl.1 hl.2
  rw [decide_eq_false hk] at this; exact this
theorem sKeyRows_t (w : World) (P : Nat → Prop) (v : Value) (t : List (List Int)) (h : IntSS w P v t) (hl : lensT t) (hk : rowsOk t) :
    Calls Try.prog 14 #[v] w fun e w' => e = .returned (.bool true) ∧ w = w' := by
  have := sKeyRows w P v t h hl.1 hl.2
  rw [decide_eq_true hk] at this; exact this
theorem sKeyRows_f (w : World) (P : Nat → Prop) (v : Value) (t : List (List Int)) (h : IntSS w P v t) (hl : lensT t) (hk : ¬ rowsOk t) :
    Calls Try.prog 14 #[v] w fun e w' => e = .returned (.bool false) ∧ w = w' := by
  have := sKeyRows w P v t h hl.1 hl.2
  rw [decide_eq_false hk] at this; exact this

set_option maxHeartbeats 400000 in
theorem iKeyMean (w : World) (P : Nat → Prop) (v : Value) (t : List (List Int)) (n d : Int) (h : IntSS w P v t) (hl : lensT t) (hd : Hid (kmean t n = d)) :
    Calls Try.prog 21 #[v, .int .i64 n] w fun e w' => e = .returned (.int .i64 d) ∧ w = w' := by
  have HH := Lib.hid h
  have HL := Lib.hid hl
  by_cases hk : rowsOk t
  · have HK := Lib.hid hk
    by_cases h0 : n < 0
    · have hv := kmean_out (t := t) (n := n) (by omega)
      rw [hd.out] at hv; subst hv; clear hd hl h hk
      go_enter Try.func21, Try.ntmps21
      go_wp2_with fail
      with_reducible refine (iKeyRows_t _ _ _ t HH.out HL.out HK.out).mono ?_
      rintro e w' ⟨rfl, rfl⟩
      go_wp2_with fail
      go_ret
      exact ⟨rfl, rfl⟩
    by_cases h40 : 40 < n
    · have hv := kmean_out (t := t) (n := n) (by omega)
      have d40 : decide ((40 : Int) < n) = true := by simp; omega
      rw [hd.out] at hv; subst hv; clear hd hl h hk
      go_enter Try.func21, Try.ntmps21
      go_wp2_with fail
      with_reducible refine (iKeyRows_t _ _ _ t HH.out HL.out HK.out).mono ?_
      rintro e w' ⟨rfl, rfl⟩
      go_wp2_with fail
      go_ret
      exact ⟨rfl, rfl⟩
    have hv := kmean_in hk (by omega : 0 ≤ n) (by omega)
    rw [hd.out] at hv; subst hv
    have d40 : decide ((40 : Int) < n) = false := by simp; omega
    have ht1 : 1 ≤ t.length := hk.2.1
    have ht8 : t.length ≤ 8 := hk.2.2
    obtain ⟨i, hi, hin⟩ : ∃ i : Nat, i < t.length ∧ min n ((t.length : Int) - 1) = (i : Int) := by
      by_cases c : n ≤ (t.length : Int) - 1
      · exact ⟨n.toNat, by omega, by omega⟩
      · exact ⟨t.length - 1, by omega, by omega⟩
    obtain ⟨r, hrr⟩ : ∃ r, t[i]?.getD [] = r := ⟨_, rfl⟩
    have hrow : rowOk i r := hrr ▸ hk.1 i hi
    have HT := Lib.hid (rowOk_tot hrow)
    have hrl : r.length ≤ 16 := by have := hrow.1; omega
    obtain ⟨a, cap, rfl, _, hR⟩ := h
    obtain ⟨b, off, ai, ci, rfl, _, hc, hri⟩ := hR.row hi r hrr
    have HRI := Lib.hid hri
    clear hd hl hk hrow hrr hri hR
    by_cases hmin : n ≤ (t.length : Int) - 1
    · obtain rfl : n = (i : Int) := by omega
      clear hin
      go_enter Try.func21, Try.ntmps21
      go_wp2_with fail
      with_reducible refine (iKeyRows_t _ _ _ t HH.out HL.out HK.out).mono ?_
      rintro e w' ⟨rfl, rfl⟩
      go_wp2_with fail
      with_reducible refine (iTotal _ _ _ r HRI.out (by omega)).mono ?_
      rintro e w' ⟨rfl, rfl⟩
      rw [HT.out]
      go_wp2_with fail
      all_goals
        go_ret
        exact ⟨ret_i (by omega), rfl⟩
    · have hi2 : (t.length : Int) - 1 = (i : Int) := by omega
      have hi3 : (i : Int) < n := by omega
      clear hin
      go_enter Try.func21, Try.ntmps21
      go_wp2_with fail
      with_reducible refine (iKeyRows_t _ _ _ t HH.out HL.out HK.out).mono ?_
      rintro e w' ⟨rfl, rfl⟩
      go_wp2_with fail
      with_reducible refine (iTotal _ _ _ r HRI.out (by omega)).mono ?_
      rintro e w' ⟨rfl, rfl⟩
      rw [HT.out]
      go_wp2_with fail
      all_goals
        go_ret
        exact ⟨ret_i (by omega), rfl⟩
  · have HK := Lib.hid hk
    have hv := kmean_out (t := t) (n := n) (fun hh => hk hh.1)
    rw [hd.out] at hv; subst hv; clear hd hl h hk
    go_enter Try.func21, Try.ntmps21
    go_wp2_with fail
    with_reducible refine (iKeyRows_f _ _ _ t HH.out HL.out HK.out).mono ?_
    rintro e w' ⟨rfl, rfl⟩
    go_wp2_with fail
    go_ret
    exact ⟨rfl, rfl⟩

set_option maxHeartbeats 1000000 in
theorem sKeyMean (w : World) (P : Nat → Prop) (v : Value) (t : List (List Int)) (n d : Int) (h : IntSS w P v t) (hl : lensT t) (hd : Hid (kmean t n = d)) :
    Calls Try.prog 22 #[v, .int .i64 n] w fun e w' => e = .returned (.int .i64 d) ∧ w = w' := by
  have HH := Lib.hid h
  have HL := Lib.hid hl
  by_cases hk : rowsOk t
  · have HK := Lib.hid hk
    by_cases h0 : n < 0 ∨ 40 < n
    · have hv := kmean_out (t := t) (n := n) (by omega)
      rw [hd.out] at hv; subst hv; clear hd hl h hk
      go_enter Try.func22, Try.ntmps22
      go_wp2_with fail
      with_reducible refine (sKeyRows_t _ _ _ t HH.out HL.out HK.out).mono ?_
      rintro e w' ⟨rfl, rfl⟩
      go_wp2_with fail
      with_reducible refine (sIn_f _ _ _ _ h0).mono ?_
      rintro e w' ⟨rfl, rfl⟩
      go_wp2_with fail
      go_ret
      exact ⟨rfl, rfl⟩
    have hv := kmean_in hk (by omega : 0 ≤ n) (by omega)
    rw [hd.out] at hv; subst hv
    have n0 : 0 ≤ n := by omega
    have n40 : n ≤ 40 := by omega
    clear h0
    have ht1 : 1 ≤ t.length := hk.2.1
    have ht8 : t.length ≤ 8 := hk.2.2
    obtain ⟨i, hi, hin⟩ : ∃ i : Nat, i < t.length ∧ min n ((t.length : Int) - 1) = (i : Int) := by
      by_cases c : n ≤ (t.length : Int) - 1
      · exact ⟨n.toNat, by omega, by omega⟩
      · exact ⟨t.length - 1, by omega, by omega⟩
    obtain ⟨r, hrr⟩ : ∃ r, t[i]?.getD [] = r := ⟨_, rfl⟩
    have hrow : rowOk i r := hrr ▸ hk.1 i hi
    have HSUM := Lib.hid hrow.2.1
    have hrl : r.length ≤ 16 := by have := hrow.1; omega
    have hrl2 : 16 ≤ r.length := by have := hrow.1; omega
    have HEL : Hid (∀ q, q < r.length → -10 ≤ r[q]?.getD 0 ∧ r[q]?.getD 0 ≤ 10) := by
      intro q hq
      have := hrow.2.2 (r[q]?.getD 0) (by rw [List.getElem?_eq_getElem hq]; exact List.getElem_mem hq)
      exact ⟨this.1, this.2.1⟩
    have HSB : Hid (∀ q, -160 ≤ (r.take q).sum ∧ (r.take q).sum ≤ 160) := by
      intro q
      have := sum_bd10 (l := r.take q) (fun z hz => ⟨(hrow.2.2 z (List.mem_of_mem_take hz)).1, (hrow.2.2 z (List.mem_of_mem_take hz)).2.1⟩)
      have hlen : (r.take q).length ≤ 16 := by simp; omega
      omega
    obtain ⟨a, cap, rfl, _, hR⟩ := h
    obtain ⟨b, off, ai, ci, rfl, _, hc, hri⟩ := hR.row hi r hrr
    obtain ⟨_, _, hv, _, hrow⟩ := hri
    cases hv
    have HROW := Lib.hid hrow
    clear hd hl hk hrow hrr hR
    by_cases hmin : n ≤ (t.length : Int) - 1
    · obtain rfl : n = (i : Int) := by omega
      clear hin
      go_enter Try.func22, Try.ntmps22
      go_wp2_with fail
      with_reducible refine (sKeyRows_t _ _ _ t HH.out HL.out HK.out).mono ?_
      rintro e w' ⟨rfl, rfl⟩
      go_wp2_with fail
      with_reducible refine (sIn_t _ _ _ _ (by omega) (by omega)).mono ?_
      rintro e w' ⟨rfl, rfl⟩
      go_wp2_with fail
      go_loop [5, 6] (fun s k => ∃ q : Nat, q ≤ 16 ∧ k = .int .i64 q ∧ s = .int .i64 ((i : Int) * q + (r.take q).sum)) (fun _ k => 16 - (intOf k).toNat)
      case atStart => exact ⟨0, Nat.zero_le _, rfl, by simp⟩
      case round =>
        obtain ⟨q, hq, rfl, rfl⟩ := hrel
        obtain ⟨s1, s2⟩ := HSB.out q
        generalize hgs : (r.take q).sum = sq at *
        have m1 : 0 ≤ (i : Int) * (q : Int) := Int.mul_nonneg (by omega) (by omega)
        have m2 : (i : Int) * (q : Int) ≤ 40 * 16 := Int.mul_le_mul (by omega) (by omega) (by omega) (by omega)
        have hex : ∃ X, (i : Int) * (q : Int) = X := ⟨_, rfl⟩
        by_cases hqlt : q < 16
        · obtain ⟨b2, off2, hai, _, hc2⟩ := HROW.out q (by omega)
          subst hai
          have HS := take_snoc (zs := r) (k := q) (by omega)
          obtain ⟨c, hcc⟩ : ∃ c, r[q]?.getD 0 = c := ⟨_, rfl⟩
          rw [hcc] at hc2 HS
          have HSS : Hid ((r.take (q + 1)).sum = sq + c) := by unfold Hid; rw [HS, sum_snoc, hgs]
          have hcb := HEL.out q (by omega)
          rw [hcc] at hcb
          obtain ⟨cb1, cb2⟩ := hcb
          clear HS hcc hgs
          have hq16 : (q : Int) < (r.length : Int) := by omega
          have HM : Hid ((i : Int) * ((q + 1 : Nat) : Int) = (i : Int) * (q : Int) + (i : Int)) := by unfold Hid; push_cast; rw [Int.mul_add]; simp
          obtain ⟨X, hX⟩ := hex
          rw [hX] at m1 m2 HM ⊢
          clear hX
          go_wp2_with fail
          go_round
          case rel => exact ⟨q + 1, by omega, by go_num, by rw [HSS.out, HM.out]; exact congrArg _ (by omega)⟩
          case measure => simp [intOf]; omega
        · obtain rfl : q = 16 := by omega
          have HFIN : Hid ((i : Int) * (16 : Int) + sq = 16 * (i : Int)) := by
            unfold Hid
            rw [List.take_of_length_le (by omega)] at hgs
            have := HSUM.out
            omega
          clear hex hgs
          go_wp2_with fail
          go_ret
          exact ⟨ret_i (by simpa using HFIN.out), rfl⟩

    · have hi2 : (t.length : Int) - 1 = (i : Int) := by omega
      have hi3 : (i : Int) < n := by omega
      clear hin
      go_enter Try.func22, Try.ntmps22
      go_wp2_with fail
      with_reducible refine (sKeyRows_t _ _ _ t HH.out HL.out HK.out).mono ?_
      rintro e w' ⟨rfl, rfl⟩
      go_wp2_with fail
      with_reducible refine (sIn_t _ _ _ _ (by omega) (by omega)).mono ?_
      rintro e w' ⟨rfl, rfl⟩
      go_wp2_with fail
      go_loop [5, 6] (fun s k => ∃ q : Nat, q ≤ 16 ∧ k = .int .i64 q ∧ s = .int .i64 (n * q + (r.take q).sum)) (fun _ k => 16 - (intOf k).toNat)
      case atStart => exact ⟨0, Nat.zero_le _, rfl, by simp⟩
      case round =>
        obtain ⟨q, hq, rfl, rfl⟩ := hrel
        obtain ⟨s1, s2⟩ := HSB.out q
        generalize hgs : (r.take q).sum = sq at *
        have m1 : 0 ≤ n * (q : Int) := Int.mul_nonneg (by omega) (by omega)
        have m2 : n * (q : Int) ≤ 40 * 16 := Int.mul_le_mul (by omega) (by omega) (by omega) (by omega)
        have hex : ∃ X, n * (q : Int) = X := ⟨_, rfl⟩
        by_cases hqlt : q < 16
        · obtain ⟨b2, off2, hai, _, hc2⟩ := HROW.out q (by omega)
          subst hai
          have HS := take_snoc (zs := r) (k := q) (by omega)
          obtain ⟨c, hcc⟩ : ∃ c, r[q]?.getD 0 = c := ⟨_, rfl⟩
          rw [hcc] at hc2 HS
          have HSS : Hid ((r.take (q + 1)).sum = sq + c) := by unfold Hid; rw [HS, sum_snoc, hgs]
          have hcb := HEL.out q (by omega)
          rw [hcc] at hcb
          obtain ⟨cb1, cb2⟩ := hcb
          clear HS hcc hgs
          have hq16 : (q : Int) < (r.length : Int) := by omega
          have HM : Hid (n * ((q + 1 : Nat) : Int) = n * (q : Int) + n) := by unfold Hid; push_cast; rw [Int.mul_add]; simp
          obtain ⟨X, hX⟩ := hex
          rw [hX] at m1 m2 HM ⊢
          clear hX
          go_wp2_with fail
          go_round
          case rel => exact ⟨q + 1, by omega, by go_num, by rw [HSS.out, HM.out]; exact congrArg _ (by omega)⟩
          case measure => simp [intOf]; omega
        · obtain rfl : q = 16 := by omega
          have HFIN : Hid (n * (16 : Int) + sq = 16 * n) := by
            unfold Hid
            rw [List.take_of_length_le (by omega)] at hgs
            have := HSUM.out
            omega
          clear hex hgs
          go_wp2_with fail
          go_ret
          exact ⟨ret_i (by simpa using HFIN.out), rfl⟩

  · have HK := Lib.hid hk
    have hv := kmean_out (t := t) (n := n) (fun hh => hk hh.1)
    rw [hd.out] at hv; subst hv; clear hd hl h hk
    go_enter Try.func22, Try.ntmps22
    go_wp2_with fail
    with_reducible refine (sKeyRows_f _ _ _ t HH.out HL.out HK.out).mono ?_
    rintro e w' ⟨rfl, rfl⟩
    go_wp2_with fail
    go_ret
    exact ⟨rfl, rfl⟩

end Go.Proofs.Ytahnabijaoimfaa
