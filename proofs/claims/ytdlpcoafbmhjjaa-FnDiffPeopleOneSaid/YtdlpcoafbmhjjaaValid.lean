/- Contract of TableValid of the program. -/
import Derived.Test.YtdlpcoafbmhjjaaShape
namespace Go.Proofs.Ytdlpcoafbmhjjaa
open Go.RowKit

theorem tblOk_rows {t : List (List Int)} (h1 : 1 ≤ t.length) (h2 : t.length ≤ 4) (h3 : 1 ≤ wid t 0) (h4 : wid t 0 ≤ 4) (h5 : ∀ i, i < t.length → wid t i = wid t 0 ∧ ∀ j, j < wid t 0 → 0 ≤ cel t i j ∧ cel t i j ≤ 99) : tblOk t := ⟨h1, h2, h3, h4, h5⟩

set_option maxHeartbeats 1000000 in
theorem iTableValid (w : World) (P : Nat → Prop) (v : Value) (t : List (List Int)) (h : IntSS w P v t) (hl : lensT t) :
    Calls Try.prog 32 #[v] w fun e w' => e = .returned (.bool (decide (tblOk t))) ∧ w = w' := by
  obtain ⟨a, cap, rfl, _, hr⟩ := h
  have HR := Lib.hid hr; clear hr
  have hl1 := hl.1
  have HL := Lib.hid hl.2
  clear hl
  by_cases h1 : t.length < 1
  · have D : Hid (¬ tblOk t) := fun hh => by have := hh.1; omega
    go_enter Try.func32, Try.ntmps32
    go_wp2_with fail
    go_ret
    exact ⟨ret_b (by simp [D.out]), rfl⟩
  by_cases h2 : 4 < t.length
  · have D : Hid (¬ tblOk t) := fun hh => by have := hh.2.1; omega
    have d2 : decide ((4 : Int) < (t.length : Int)) = true := by simp; omega
    go_enter Try.func32, Try.ntmps32
    go_wp2_with fail
    go_ret
    exact ⟨ret_b (by simp [D.out]), rfl⟩
  have d2 : decide ((4 : Int) < (t.length : Int)) = false := by simp; omega
  obtain ⟨b, off, a0, c0, rfl, _, hc0, _⟩ := HR.out.rowW (i := 0) (by omega)
  rw [Nat.add_zero] at hc0
  have hw0 := HL.out 0
  have h1' : (1 : Int) ≤ (t.length : Int) := by omega
  by_cases h3 : wid t 0 < 1
  · have D : Hid (¬ tblOk t) := fun hh => by have := hh.2.2.1; omega
    have d3 : decide ((wid t 0 : Int) < 1) = true := by simp; omega
    go_enter Try.func32, Try.ntmps32
    go_wp2_with fail
    go_ret
    exact ⟨ret_b (by simp [D.out]), rfl⟩
  have d3 : decide ((wid t 0 : Int) < 1) = false := by simp; omega
  by_cases h4 : 4 < wid t 0
  · have D : Hid (¬ tblOk t) := fun hh => by have := hh.2.2.2.1; omega
    have d4 : decide ((4 : Int) < (wid t 0 : Int)) = true := by simp; omega
    go_enter Try.func32, Try.ntmps32
    go_wp2_with fail
    go_ret
    exact ⟨ret_b (by simp [D.out]), rfl⟩
  have d4 : decide ((4 : Int) < (wid t 0 : Int)) = false := by simp; omega
  have H1 : 1 ≤ t.length := by omega
  have H2 : t.length ≤ 4 := by omega
  have H3 : 1 ≤ wid t 0 := by omega
  have H4 : wid t 0 ≤ 4 := by omega
  clear h1 h2 h3 h4
  go_enter Try.func32, Try.ntmps32
  go_wp2_with fail
  go_loop [31] (fun i => ∃ k : Nat, k ≤ t.length ∧ i = .int .i64 k ∧ Hid (∀ i, i < k → wid t i = wid t 0 ∧ ∀ j, j < wid t 0 → 0 ≤ cel t i j ∧ cel t i j ≤ 99)) (fun i => t.length - (intOf i).toNat)
  case atStart => exact ⟨0, Nat.zero_le _, rfl, fun i hi => by omega⟩
  case round =>
    obtain ⟨k, hk, rfl, hall⟩ := hrel
    by_cases hlt : k < t.length
    · obtain ⟨_, _, ak, ck, e, _, hck, hrk⟩ := HR.out.rowW hlt
      cases e
      have hwk := HL.out k
      by_cases he : wid t k = wid t 0
      · have ce : ((wid t k : Int) != (wid t 0 : Int)) = false := by simp; omega
        have HE := Lib.hid he
        have HRK := Lib.hid hrk
        rw [he] at hck ce
        clear he hrk
        go_wp2_with fail
        go_loop [44] (fun j => ∃ q : Nat, q ≤ wid t 0 ∧ j = .int .i64 q ∧ Hid (∀ j, j < q → 0 ≤ cel t k j ∧ cel t k j ≤ 99)) (fun j => wid t 0 - (intOf j).toNat)
        case atStart => exact ⟨0, Nat.zero_le _, rfl, fun j hj => by omega⟩
        case round =>
          obtain ⟨q, hq, rfl, hel⟩ := hrel
          by_cases hqlt : q < wid t 0
          · obtain ⟨b2, o2, rfl, _, hc2⟩ := HRK.out q (show q < wid t k by rw [HE.out]; exact hqlt)
            have hcc : (t[k]?.getD [])[q]?.getD 0 = cel t k q := rfl
            rw [hcc] at hc2
            by_cases hv : 0 ≤ cel t k q ∧ cel t k q ≤ 99
            · have HN : Hid (∀ j, j < q + 1 → 0 ≤ cel t k j ∧ cel t k j ≤ 99) := by
                intro j hj
                by_cases ej : j = q
                · subst ej; exact hv
                · exact hel.out j (by omega)
              obtain ⟨v1, v2⟩ := hv
              have dv : decide ((99 : Int) < cel t k q) = false := by simp; omega
              clear hel hcc
              go_wp2_with fail
              go_round
              case rel => exact ⟨q + 1, by omega, by go_num, HN⟩
              case measure => simp [intOf]; omega
            · have D : Hid (¬ tblOk t) := fun hh => hv ((hh.2.2.2.2 k hlt).2 q hqlt)
              by_cases hv1 : cel t k q < 0
              · clear hv hel hcc
                go_wp2_with fail
                go_ret
                exact ⟨ret_b (by simp [D.out]), rfl⟩
              · have dv : decide ((99 : Int) < cel t k q) = true := by simp; omega
                clear hv hel hcc
                go_wp2_with fail
                go_ret
                exact ⟨ret_b (by simp [D.out]), rfl⟩
          · have HN : Hid (∀ i, i < k + 1 → wid t i = wid t 0 ∧ ∀ j, j < wid t 0 → 0 ≤ cel t i j ∧ cel t i j ≤ 99) := by
              intro i hi
              by_cases ei : i = k
              · subst ei; exact ⟨HE.out, fun j hj => hel.out j (by omega)⟩
              · exact hall.out i (by omega)
            go_wp2_with fail
            go_round
            case rel => exact ⟨k + 1, by omega, by go_num, HN⟩
            case measure => simp [intOf]; omega
      · have D : Hid (¬ tblOk t) := fun hh => he (hh.2.2.2.2 k hlt).1
        have ce : ((wid t k : Int) != (wid t 0 : Int)) = true := by simp; omega
        clear he hrk
        go_wp2_with fail
        go_ret
        exact ⟨ret_b (by simp [D.out]), rfl⟩
    · have D : Hid (tblOk t) := tblOk_rows H1 H2 H3 H4 (fun i hi => hall.out i (by omega))
      go_wp2_with fail
      go_ret
      exact ⟨ret_b (by simp [D.out]), rfl⟩

end Go.Proofs.Ytdlpcoafbmhjjaa
