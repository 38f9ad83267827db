/- Contracts: the reference's test of a table. -/
import Derived.Test.YtdlpcoafbmhjjaaValid
import Derived.Test.YtdlpcoafbmhjjaaIn
import Derived.Test.YtdlpcoafbmhjjaaFarS
namespace Go.Proofs.Ytdlpcoafbmhjjaa
open Go.RowKit

set_option maxHeartbeats 1000000 in
theorem sTableValid (w : World) (P : Nat → Prop) (v : Value) (t : List (List Int)) (h : IntSS w P v t) (hl : lensT t) :
    Calls Try.prog 43 #[v] w fun e w' => e = .returned (.bool (decide (tblOk t))) ∧ ∃ n, w' = w.drewN n := by
  obtain ⟨a, cap, rfl, _, hr⟩ := h
  have HR := Lib.hid hr; clear hr
  have hl1 := hl.1
  have HL := Lib.hid hl.2
  clear hl
  by_cases h12 : t.length < 1 ∨ 4 < t.length
  · have D : Hid (¬ tblOk t) := fun hh => by have := hh.1; have := hh.2.1; omega
    go_enter Try.func43, Try.ntmps43
    go_wp2_with fail
    with_reducible refine (sIn_f _ 1 4 _ (by omega)).mono ?_
    rintro e w' ⟨rfl, rfl⟩
    go_wp2_with fail
    go_ret
    exact ⟨ret_b (by simp [D.out]), 0, rfl⟩
  have h1 : 1 ≤ t.length := by omega
  have h2 : t.length ≤ 4 := by omega
  clear h12
  obtain ⟨b, off, a0, c0, rfl, _, hc0, _⟩ := HR.out.rowW (i := 0) (by omega)
  rw [Nat.add_zero] at hc0
  have hw0 := HL.out 0
  by_cases h34 : wid t 0 < 1 ∨ 4 < wid t 0
  · have D : Hid (¬ tblOk t) := fun hh => by have := hh.2.2.1; have := hh.2.2.2.1; omega
    go_enter Try.func43, Try.ntmps43
    go_wp2_with fail
    with_reducible refine (sIn_t _ 1 4 _ (by omega) (by omega)).mono ?_
    rintro e w' ⟨rfl, rfl⟩
    go_wp2_with fail
    with_reducible refine (sIn_f _ 1 4 _ (by omega)).mono ?_
    rintro e w' ⟨rfl, rfl⟩
    go_wp2_with fail
    go_ret
    exact ⟨ret_b (by simp [D.out]), 0, rfl⟩
  have h3 : 1 ≤ wid t 0 := by omega
  have h4 : wid t 0 ≤ 4 := by omega
  clear h34
  go_enter Try.func43, Try.ntmps43
  go_wp2_with fail
  with_reducible refine (sIn_t _ 1 4 _ (by omega) (by omega)).mono ?_
  rintro e w' ⟨rfl, rfl⟩
  go_wp2_with fail
  with_reducible refine (sIn_t _ 1 4 _ (by omega) (by omega)).mono ?_
  rintro e w' ⟨rfl, rfl⟩
  go_wp2_with fail
  go_loopw [3] (fun i wr => ∃ (k n : Nat), k ≤ t.length ∧ i = .int .i64 k ∧ Hid (∀ i, i < k → wid t i = wid t 0 ∧ ∀ j, j < wid t 0 → 0 ≤ cel t i j ∧ cel t i j ≤ 99) ∧ wr = w.drewN n) (fun i _ => t.length - (intOf i).toNat)
  case atStart => exact ⟨0, 0, Nat.zero_le _, rfl, fun i hi => by omega, rfl⟩
  case round =>
    obtain ⟨k, n, hk, rfl, hall, rfl⟩ := hrel
    by_cases hlt : k < t.length
    · obtain ⟨_, _, ak, ck, e, _, hck, hrk⟩ := HR.out.rowW hlt
      cases e
      have hwk := HL.out k
      have hki : (k : Int) < (t.length : Int) := by omega
      have h0i : (0 : Int) < (t.length : Int) := by omega
      have HRK := Lib.hid hrk
      clear hrk
      by_cases he : wid t k = wid t 0
      · have ce : ((wid t k : Int) != (wid t 0 : Int)) = false := by simp; omega
        have HE := Lib.hid he
        clear he
        go_wp2_with fail
        go_quiet (fail)
        go_wp2_with fail
        go_loopw [4] (fun j wr => ∃ (q n : Nat), q ≤ wid t k ∧ j = .int .i64 q ∧ Hid (∀ j, j < q → 0 ≤ cel t k j ∧ cel t k j ≤ 99) ∧ wr = w.drewN n) (fun j _ => wid t k - (intOf j).toNat)
        case atStart => exact ⟨0, n + nq, Nat.zero_le _, rfl, fun j hj => by omega, by rw [World.drewN_drewN]⟩
        case round =>
          obtain ⟨q, n, hq, rfl, hel, rfl⟩ := hrel
          by_cases hqlt : q < wid t k
          · obtain ⟨b2, o2, rfl, _, hc2⟩ := HRK.out q hqlt
            have hcc : (t[k]?.getD [])[q]?.getD 0 = cel t k q := rfl
            rw [hcc] at hc2
            have hqi : (q : Int) < (wid t k : Int) := by omega
            by_cases hv : 0 ≤ cel t k q ∧ cel t k q ≤ 99
            · have HN : Hid (∀ j, j < q + 1 → 0 ≤ cel t k j ∧ cel t k j ≤ 99) := by
                intro j hj
                by_cases ej : j = q
                · subst ej; exact hv
                · exact hel.out j (by omega)
              obtain ⟨v1, v2⟩ := hv
              clear hel hcc
              go_wp2_with fail
              with_reducible refine (sIn_t _ 0 99 _ v1 v2).mono ?_
              rintro e w' ⟨rfl, rfl⟩
              go_wp2_with fail
              go_roundw
              case rel => exact ⟨q + 1, n, by omega, by go_num, HN, rfl⟩
              case measure => simp [intOf]; omega
            · have D : Hid (¬ tblOk t) := fun hh => hv ((hh.2.2.2.2 k hlt).2 q (by rw [← HE.out]; exact hqlt))
              have hv' : cel t k q < 0 ∨ 99 < cel t k q := by omega
              clear hv hel hcc
              go_wp2_with fail
              with_reducible refine (sIn_f _ 0 99 _ hv').mono ?_
              rintro e w' ⟨rfl, rfl⟩
              go_wp2_with fail
              go_ret
              exact ⟨ret_b (by simp [D.out]), n, rfl⟩
          · have HN : Hid (∀ i, i < k + 1 → wid t i = wid t 0 ∧ ∀ j, j < wid t 0 → 0 ≤ cel t i j ∧ cel t i j ≤ 99) := by
              intro i hi
              by_cases ei : i = k
              · subst ei; exact ⟨HE.out, fun j hj => hel.out j (by have := HE.out; omega)⟩
              · exact hall.out i (by omega)
            go_wp2_with fail
            go_roundw
            case rel => exact ⟨k + 1, n, by omega, by go_num, HN, rfl⟩
            case measure => simp [intOf]; omega
      · have D : Hid (¬ tblOk t) := fun hh => he (hh.2.2.2.2 k hlt).1
        have ce : ((wid t k : Int) != (wid t 0 : Int)) = true := by simp; omega
        clear he
        go_wp2_with fail
        go_quiet (fail)
        go_wp2_with fail
        go_ret
        exact ⟨ret_b (by simp [D.out]), n + nq, by rw [World.drewN_drewN]⟩
    · have D : Hid (tblOk t) := tblOk_rows h1 h2 h3 h4 (fun i hi => hall.out i (by omega))
      go_wp2_with fail
      go_ret
      exact ⟨ret_b (by simp [D.out]), n, rfl⟩

end Go.Proofs.Ytdlpcoafbmhjjaa
