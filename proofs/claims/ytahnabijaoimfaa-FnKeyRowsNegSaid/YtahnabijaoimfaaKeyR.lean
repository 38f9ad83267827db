/- Contracts of KeyRows, of the program and of the reference. -/
import Derived.Test.YtahnabijaoimfaaInts
import Derived.Test.YtahnabijaoimfaaMemT
import Derived.Test.YtahnabijaoimfaaKeyRP
import Derived.Test.YtahnabijaoimfaaIn
namespace Go.Proofs.Ytahnabijaoimfaa
open Go.RowKit

theorem ret_b {a b : Bool} (h : a = b) : Ending.returned (.bool a) = .returned (.bool b) := by rw [h]

set_option maxHeartbeats 1000000 in
theorem iKeyRows (w : World) (P : Nat → Prop) (v : Value) (t : List (List Int)) (h : IntSS w P v t) (hl : t.length ≤ 4611686018427387904) (hl2 : ∀ r ∈ t, r.length ≤ 4611686018427387904) :
    Calls Try.prog 13 #[v] w fun e w' => e = .returned (.bool (decide (rowsOk t))) ∧ w = w' := by
  obtain ⟨a, cap, rfl, _, hr⟩ := h
  have HR := Lib.hid hr; clear hr
  have HL2 := Lib.hid hl2; clear hl2
  go_enter Try.func13, Try.ntmps13
  go_wp2_with fail
  go_loop [9] (fun i => ∃ k : Nat, k ≤ t.length ∧ i = .int .i64 k ∧ Hid (∀ j, j < k → rowOk j (t[j]?.getD []))) (fun i => t.length - (intOf i).toNat)
  case atStart => exact ⟨0, Nat.zero_le _, rfl, fun j hj => by omega⟩
  case round =>
    obtain ⟨k, hk, rfl, hall⟩ := hrel
    by_cases hlt : k < t.length
    · obtain ⟨r, hrr⟩ : ∃ r, t[k]?.getD [] = r := ⟨_, rfl⟩
      obtain ⟨b, off, ai, ci, rfl, _, hc, hi⟩ := HR.out.row hlt r hrr
      have HI := Lib.hid hi
      have hrl : r.length ≤ 4611686018427387904 := HL2.out r (by rw [← hrr, List.getElem?_eq_getElem hlt]; exact List.getElem_mem hlt)
      have HRR := Lib.hid hrr
      clear hi hrr
      by_cases h16 : r.length = 16
      · by_cases htot : tot r = 0
        · have c1 : ((r.length : Int) != 16) = false := by simp; omega
          have c2 : (tot r != 0) = false := by simp; omega
          have H16 := Lib.hid h16
          have HT := Lib.hid htot
          clear h16 htot
          go_wp2_with fail
          with_reducible refine (iTotal _ _ _ r HI.out hrl).mono ?_
          rintro e w' ⟨rfl, rfl⟩
          go_wp2_with fail
          obtain ⟨_, _, hv, _, hrow⟩ := HI.out
          cases hv
          have HROW := Lib.hid hrow; clear hrow
          go_loop [24] (fun i => ∃ q : Nat, q ≤ r.length ∧ i = .int .i64 q ∧ Hid (∀ c ∈ r.take q, elOk k c)) (fun i => r.length - (intOf i).toNat)
          case atStart => exact ⟨0, Nat.zero_le _, rfl, fun c hc => by simp at hc⟩
          case round =>
            obtain ⟨q, hq, rfl, hel⟩ := hrel
            by_cases hqlt : q < r.length
            · obtain ⟨b2, off2, rfl, _, hc2⟩ := HROW.out q hqlt
              have HS := take_snoc hqlt
              obtain ⟨c, hcc⟩ : ∃ c, r[q]?.getD 0 = c := ⟨_, rfl⟩
              rw [hcc] at hc2 HS
              by_cases hok : elOk k c
              · have HA := Lib.hid (all_snocP HS hel.out hok)
                obtain ⟨e1, e2, e3, e4⟩ := hok
                have d2 : decide ((10 : Int) < c) = false := by simp; omega
                have d3 : decide ((k : Int) + c < 0) = false := by simp; omega
                clear HS hel hcc
                by_cases hk0 : k = 0
                · subst hk0
                  obtain rfl : c = 0 := e4 rfl
                  clear e4
                  go_wp2_with fail
                  go_round
                  case rel => exact ⟨q + 1, by omega, by go_num, HA.out⟩
                  case measure => simp [intOf]; omega
                · have d4 : ((k : Int) == 0) = false := by simp; omega
                  clear e4 hk0
                  go_wp2_with fail
                  go_round
                  case rel => exact ⟨q + 1, by omega, by go_num, HA.out⟩
                  case measure => simp [intOf]; omega
              · have HB := Lib.hid (rowsOk_bad hlt HRR.out (elOk_bad hqlt hcc hok))
                clear HS hel hcc
                by_cases f1 : c < -10
                · clear hok
                  go_wp2_with fail
                  go_ret
                  exact ⟨ret_b (by simp [HB.out]), rfl⟩
                by_cases f2 : 10 < c
                · have d2 : decide ((10 : Int) < c) = true := by simp; omega
                  clear hok
                  go_wp2_with fail
                  go_ret
                  exact ⟨ret_b (by simp [HB.out]), rfl⟩
                have d2 : decide ((10 : Int) < c) = false := by simp; omega
                by_cases f3 : (k : Int) + c < 0
                · have d3 : decide ((k : Int) + c < 0) = true := by simp; omega
                  clear hok
                  go_wp2_with fail
                  go_ret
                  exact ⟨ret_b (by simp [HB.out]), rfl⟩
                have d3 : decide ((k : Int) + c < 0) = false := by simp; omega
                obtain rfl : k = 0 := by unfold elOk at hok; omega
                have d5 : (c != 0) = true := by unfold elOk at hok; simp; omega
                clear hok
                go_wp2_with fail
                go_ret
                exact ⟨ret_b (by simp [HB.out]), rfl⟩
            · have HA : Hid (∀ c ∈ r, elOk k c) := by have := hel.out; rw [List.take_of_length_le (by omega)] at this; exact this
              have HN : Hid (∀ j, j < k + 1 → rowOk j (t[j]?.getD [])) := by
                intro j hj
                by_cases e : j = k
                · subst e; rw [HRR.out]; exact rowOk_mk H16.out HT.out HA.out
                · exact hall.out j (by omega)
              go_wp2_with fail
              go_round
              case rel => exact ⟨k + 1, by omega, by go_num, HN⟩
              case measure => simp [intOf]; omega
        · have HB : Hid (¬ rowsOk t) := rowsOk_bad hlt HRR.out (fun hh => htot (rowOk_tot hh))
          have c1 : ((r.length : Int) != 16) = false := by simp; omega
          have c2 : (tot r != 0) = true := by simp; omega
          clear h16 htot
          go_wp2_with fail
          with_reducible refine (iTotal _ _ _ r HI.out hrl).mono ?_
          rintro e w' ⟨rfl, rfl⟩
          go_wp2_with fail
          go_ret
          exact ⟨ret_b (by simp [HB.out]), rfl⟩
      · have HB : Hid (¬ rowsOk t) := rowsOk_bad hlt HRR.out (fun hh => h16 hh.1)
        have c1 : ((r.length : Int) != 16) = true := by simp; omega
        clear h16
        go_wp2_with fail
        go_ret
        exact ⟨ret_b (by simp [HB.out]), rfl⟩
    · obtain rfl : k = t.length := by omega
      by_cases h1 : 1 ≤ t.length
      · by_cases h8 : t.length ≤ 8
        · have HB : Hid (rowsOk t) := ⟨hall.out, h1, h8⟩
          have d8 : decide ((t.length : Int) ≤ 8) = true := by simp; omega
          go_wp2_with fail
          go_ret
          exact ⟨ret_b (by simp [HB.out]), rfl⟩
        · have HB : Hid (¬ rowsOk t) := fun hh => h8 hh.2.2
          have d8 : decide ((t.length : Int) ≤ 8) = false := by simp; omega
          go_wp2_with fail
          go_ret
          exact ⟨ret_b (by simp [HB.out]), rfl⟩
      · have HB : Hid (¬ rowsOk t) := fun hh => h1 hh.2.1
        have ht0 : t.length < 1 := by omega
        go_wp2_with fail
        go_ret
        exact ⟨ret_b (by simp [HB.out]), rfl⟩

end Go.Proofs.Ytahnabijaoimfaa
