/- Contracts of the reference's KeyRows. -/
import Derived.Test.YtahnabijaoimfaaKeyR
namespace Go.Proofs.Ytahnabijaoimfaa
open Go.RowKit

set_option maxHeartbeats 1000000 in
theorem sRow (w : World) (P : Nat → Prop) (v : Value) (r : List Int) (k : Nat) (h : IntS w P v r) (hl : r.length ≤ 4611686018427387904) (hk : k ≤ 4611686018427387904) :
    Calls Try.prog 29 #[v, .int .i64 (k : Int)] w fun e w' => e = .returned (.bool (decide (rowOk k r))) ∧ w = w' := by
  obtain ⟨ai, ci, rfl, _, hrow⟩ := h
  have HROW := Lib.hid hrow; clear hrow
  by_cases h16 : r.length = 16
  · have c1 : ((r.length : Int) != 16) = false := by simp; omega
    have hr16 : r.length ≤ 16 := by omega
    have H16 := Lib.hid h16
    clear h16
    go_enter Try.func29, Try.ntmps29
    go_wp2_with fail
    go_loop [5, 6] (fun s i => ∃ q : Nat, q ≤ r.length ∧ i = .int .i64 q ∧ s = .int .i64 (r.take q).sum ∧ Hid (∀ c ∈ r.take q, elOk k c)) (fun _ i => r.length - (intOf i).toNat)
    case atStart => exact ⟨0, Nat.zero_le _, rfl, rfl, fun c hc => by simp at hc⟩
    case round =>
      obtain ⟨q, hq, rfl, rfl, hel⟩ := hrel
      have hsb := sum_bd10 (l := r.take q) (fun z hz => ⟨(hel.out z hz).1, (hel.out z hz).2.1⟩)
      have hlen : (r.take q).length = q := by simp; omega
      rw [hlen] at hsb
      obtain ⟨s1, s2⟩ := hsb
      clear hlen
      by_cases hqlt : q < r.length
      · obtain ⟨b2, off2, rfl, _, hc2⟩ := HROW.out q hqlt
        have HS := take_snoc hqlt
        obtain ⟨c, hcc⟩ : ∃ c, r[q]?.getD 0 = c := ⟨_, rfl⟩
        rw [hcc] at hc2 HS
        by_cases hok : elOk k c
        · have HA := Lib.hid (all_snocP HS hel.out hok)
          have HSS : Hid ((r.take (q + 1)).sum = (r.take q).sum + c) := by rw [HS]; exact sum_snoc _ _
          obtain ⟨e1, e2, e3, e4⟩ := hok
          have d3 : decide ((k : Int) + c < 0) = false := by simp; omega
          clear HS hel hcc
          by_cases hk0 : k = 0
          · have d4 : ((k : Int) == 0) = true := by simp; omega
            have d5 : (c != 0) = false := by have := e4 hk0; simp; omega
            clear e4 hk0
            go_wp2_with fail
            with_reducible refine (sIn_t _ _ _ _ e1 e2).mono ?_
            rintro e w' ⟨rfl, rfl⟩
            go_wp2_with fail
            go_round
            case rel => exact ⟨q + 1, by omega, by go_num, by rw [HSS.out], HA.out⟩
            case measure => simp [intOf]; omega
          · have d4 : ((k : Int) == 0) = false := by simp; omega
            clear e4 hk0
            go_wp2_with fail
            with_reducible refine (sIn_t _ _ _ _ e1 e2).mono ?_
            rintro e w' ⟨rfl, rfl⟩
            go_wp2_with fail
            go_round
            case rel => exact ⟨q + 1, by omega, by go_num, by rw [HSS.out], HA.out⟩
            case measure => simp [intOf]; omega
        · have HB := Lib.hid (elOk_bad hqlt hcc hok)
          clear HS hel hcc
          by_cases f1 : c < -10 ∨ 10 < c
          · clear hok
            go_wp2_with fail
            with_reducible refine (sIn_f _ _ _ _ f1).mono ?_
            rintro e w' ⟨rfl, rfl⟩
            go_wp2_with fail
            go_ret
            exact ⟨ret_b (by simp [HB.out]), rfl⟩
          have e1 : -10 ≤ c := by omega
          have e2 : c ≤ 10 := by omega
          clear f1
          by_cases f3 : (k : Int) + c < 0
          · have d3 : decide ((k : Int) + c < 0) = true := by simp; omega
            clear hok
            go_wp2_with fail
            with_reducible refine (sIn_t _ _ _ _ e1 e2).mono ?_
            rintro e w' ⟨rfl, rfl⟩
            go_wp2_with fail
            go_ret
            exact ⟨ret_b (by simp [HB.out]), rfl⟩
          have d3 : decide ((k : Int) + c < 0) = false := by simp; omega
          obtain rfl : k = 0 := by unfold elOk at hok; omega
          have d5 : (c != 0) = true := by unfold elOk at hok; simp; omega
          clear hok
          go_wp2_with fail
          with_reducible refine (sIn_t _ _ _ _ e1 e2).mono ?_
          rintro e w' ⟨rfl, rfl⟩
          go_wp2_with fail
          go_ret
          exact ⟨ret_b (by simp [HB.out]), rfl⟩
      · have HT : Hid (r.take q = r) := List.take_of_length_le (by omega)
        have HA : Hid (∀ c ∈ r, elOk k c) := by have := hel.out; rw [HT.out] at this; exact this
        have HE : Hid (((r.take q).sum == 0) = decide (rowOk k r)) := by
          unfold Hid
          rw [HT.out]
          by_cases z : r.sum = 0
          · simp [z, rowOk, H16.out]; exact HA.out
          · simp [z, rowOk]
        go_wp2_with fail
        go_ret
        exact ⟨ret_b HE.out, rfl⟩
  · have HB : Hid (¬ rowOk k r) := fun hh => h16 hh.1
    have c1 : ((r.length : Int) != 16) = true := by simp; omega
    clear h16
    go_enter Try.func29, Try.ntmps29
    go_wp2_with fail
    go_ret
    exact ⟨ret_b (by simp [HB.out]), rfl⟩

set_option maxHeartbeats 1000000 in
theorem sKeyRows (w : World) (P : Nat → Prop) (v : Value) (t : List (List Int)) (h : IntSS w P v t) (hl : t.length ≤ 4611686018427387904) (hl2 : ∀ r ∈ t, r.length ≤ 4611686018427387904) :
    Calls Try.prog 14 #[v] w fun e w' => e = .returned (.bool (decide (rowsOk t))) ∧ w = w' := by
  obtain ⟨a, cap, rfl, _, hr⟩ := h
  have HR := Lib.hid hr; clear hr
  have HL2 := Lib.hid hl2; clear hl2
  go_enter Try.func14, Try.ntmps14
  go_wp2_with fail
  go_loop [3] (fun i => ∃ k : Nat, k ≤ t.length ∧ i = .int .i64 k ∧ Hid (∀ j, j < k → rowOk j (t[j]?.getD []))) (fun i => t.length - (intOf i).toNat)
  case atStart => exact ⟨0, Nat.zero_le _, rfl, fun j hj => by omega⟩
  case round =>
    obtain ⟨k, hk, rfl, hall⟩ := hrel
    by_cases hlt : k < t.length
    · obtain ⟨r, hrr⟩ : ∃ r, t[k]?.getD [] = r := ⟨_, rfl⟩
      obtain ⟨b, off, ai, ci, rfl, _, hc, hi⟩ := HR.out.row hlt r hrr
      have HI := Lib.hid hi
      have hrl : r.length ≤ 4611686018427387904 := HL2.out r (by rw [← hrr, List.getElem?_eq_getElem hlt]; exact List.getElem_mem hlt)
      have HRR := Lib.hid hrr
      clear hi hrr
      go_wp2_with fail
      with_reducible refine (sRow _ _ _ r k HI.out hrl (by omega)).mono ?_
      rintro e w' ⟨rfl, rfl⟩
      by_cases hok : rowOk k r
      · have HN : Hid (∀ j, j < k + 1 → rowOk j (t[j]?.getD [])) := by
          intro j hj
          by_cases e : j = k
          · subst e; rw [HRR.out]; exact hok
          · exact hall.out j (by omega)
        have d1 : decide (rowOk k r) = true := by simpa using hok
        clear hok
        go_wp2_with fail
        go_round
        case rel => exact ⟨k + 1, by omega, by go_num, HN⟩
        case measure => simp [intOf]; omega
      · have HB : Hid (¬ rowsOk t) := rowsOk_bad hlt HRR.out hok
        have d1 : decide (rowOk k r) = false := by simpa using hok
        clear hok
        go_wp2_with fail
        go_ret
        exact ⟨ret_b (by simp [HB.out]), rfl⟩
    · obtain rfl : k = t.length := by omega
      by_cases h1 : 1 ≤ t.length ∧ t.length ≤ 8
      · have HB : Hid (rowsOk t) := ⟨hall.out, h1.1, h1.2⟩
        go_wp2_with fail
        with_reducible refine (sIn_t _ _ _ _ (by omega) (by omega)).mono ?_
        rintro e w' ⟨rfl, rfl⟩
        go_wp2_with fail
        go_ret
        exact ⟨ret_b (by simp [HB.out]), rfl⟩
      · have HB : Hid (¬ rowsOk t) := fun hh => h1 hh.2
        go_wp2_with fail
        with_reducible refine (sIn_f _ _ _ _ (by omega)).mono ?_
        rintro e w' ⟨rfl, rfl⟩
        go_wp2_with fail
        go_ret
        exact ⟨ret_b (by simp [HB.out]), rfl⟩

end Go.Proofs.Ytahnabijaoimfaa
